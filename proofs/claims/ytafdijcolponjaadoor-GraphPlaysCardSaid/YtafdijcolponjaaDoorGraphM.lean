/- The contracts of Few, Small, graph.Of; the chapter's example. No condition but those in each statement; works: where the table lies. -/
import Derived.Test.YtafdijcolponjaaDoorGraphK
namespace Go.Proofs.YtafdijcolponjaaDoor
open Go.RowKit

def fewN (len : Nat) : Nat := min len 60
/-- At most sixty edges, in memory of the call's own. -/
def EFewEnds (z : Nat → Nat → Int) (m : Nat) (w : World) (e : Ending) (w' : World) : Prop :=
  ∃ g cap, e = .returned (.slice (some ⟨g, 0, none⟩) m cap) ∧ w'.ownsRow w.heap.size 61 2 (.slice (some ⟨g, 0, none⟩) m cap) m (cellsZ z m) ∧ Below w.heap.size w w'

set_option maxHeartbeats 400000 in
theorem efew_any (a : Option Addr) (len cap : Nat) (z : Nat → Nat → Int) (w : World) (h : IsRowS 2 w a len cap z) :
    Calls Tryd.prog 47 #[.slice a len cap] w (EFewEnds z (fewN len) w) := by
  obtain ⟨i0, hi, hz0, hz1, hz2⟩ := info_parts infoEdge
  have hlc := h.len_le
  have hmn : fewN len ≤ len := Nat.min_le_left _ _
  have hm60 : fewN len ≤ 60 := Nat.min_le_right _ _
  have hf := h.src2 hmn
  have hf1 : 60 < len → fewN len = 60 := fun h => Nat.min_eq_right (by omega)
  have hf2 : len ≤ 60 → fewN len = len := fun h => Nat.min_eq_left h
  generalize fewN len = m at *
  obtain ⟨h1, h2, h3, h4, h5, h6⟩ := hf
  have hnil : a = none → len = 0 ∧ cap = 0 := fun e => by
    rcases h with ⟨_, h, h'⟩ | ⟨x, hx, _⟩
    · exact ⟨h, h'⟩
    · rw [e] at hx; cases hx
  have hown := World.ownsRow_made (base := w.heap.size) (e := 61) (size := 2) w #[] 0 (Nat.le_refl _) (by decide) rfl
  have HO := Lib.hid hown
  have hml : (0 : Nat) + m ≤ maxLen := by unfold maxLen; omega
  clear hown h
  cases a with
  | none =>
    obtain ⟨rfl, rfl⟩ := hnil rfl
    obtain rfl : m = 0 := hf2 (by omega)
    clear h1 h2 h5 h6 hnil hf1 hf2
    go_enter Tryd.func47, Tryd.ntmps47
    go_wp2_with (at_builtin; go_loud (refine wpList_append_own_none rfl _ _ _ rfl w.heap.size 61 i0 2 Tryd.underlying53 hi _ 0 [] rfl HO.out rfl ?_))
    go_ret
    exact ⟨_, _, rfl, HO.out, (Below.refl _ _).alloc (Nat.le_refl _) _⟩
  | some x =>
    have h5' := Lib.hid (h5 x rfl)
    have h6' := Lib.hid h6
    have h1' := Lib.hid h1
    have hl0 : (0 : Int) ≤ (len : Int) := by omega
    have hl1 : (len : Int) ≤ 9223372036854775807 := by omega
    clear h1 h2 h5 h6 hnil
    rcases Nat.lt_or_ge 60 len with hlt | hlt
    · obtain rfl : m = 60 := hf1 hlt
      clear hf1 hf2
      have hle : ¬ ((len : Int) ≤ 60) := by omega
      go_enter Tryd.func47, Tryd.ntmps47
      go_wp2_with (at_builtin; go_loud (refine wpList_append_own (w.alloc (.cells #[] 61)) rfl _ _ _ rfl w.heap.size 61 i0 (.agg #[.int .i64 0, .int .i64 0]) 2 16 Tryd.underlying53 hi hz0 hz1 hz2 rfl (by decide) _ 0 [] rfl HO.out x 60 cap (cellsZ z 60) rfl h1'.out (fun j u hj => cell_alloc (h5'.out j u hj)) h6'.out hml (by omega) (by simp) ?_))
      intro v' w1 hown1 hgrow hne
      have HN := Lib.hid hne
      clear hne
      go_wp2
      go_ret
      obtain ⟨g, c, rfl⟩ := owns_some hown1 HN.out
      exact ⟨g, c, rfl, hown1, ((Below.refl _ _).alloc (Nat.le_refl _) _).grown hgrow (by simp) (fun k hk => by cases hk; exact Nat.le_refl _)⟩
    · obtain rfl : m = len := hf2 hlt
      clear hf1 hf2
      have hle : ((m : Int) ≤ 60) := by omega
      go_enter Tryd.func47, Tryd.ntmps47
      go_wp2_with (at_builtin; go_loud (refine wpList_append_own (w.alloc (.cells #[] 61)) rfl _ _ _ rfl w.heap.size 61 i0 (.agg #[.int .i64 0, .int .i64 0]) 2 16 Tryd.underlying53 hi hz0 hz1 hz2 rfl (by decide) _ 0 [] rfl HO.out x m cap (cellsZ z m) rfl h1'.out (fun j u hj => cell_alloc (h5'.out j u hj)) h6'.out hml (by omega) (by simp) ?_))
      intro v' w1 hown1 hgrow hne
      have HN := Lib.hid hne
      clear hne
      go_wp2
      go_ret
      obtain ⟨g, c, rfl⟩ := owns_some hown1 HN.out
      exact ⟨g, c, rfl, hown1, ((Below.refl _ _).alloc (Nat.le_refl _) _).grown hgrow (by simp) (fun k hk => by cases hk; exact Nat.le_refl _)⟩

def smallN (n : Int) : Int := if 30 < n ∧ n ≤ 500 then n % 31 else n
theorem small_any (n : Int) (w : World) :
    Calls Tryd.prog 45 #[.int .i64 n] w fun e w' => e = .returned (.int .i64 (smallN n)) ∧ w = w' := by
  unfold smallN
  by_cases h0 : 30 < n
  · by_cases h1 : n ≤ 500
    · rw [if_pos ⟨h0, h1⟩]
      go_enter Tryd.func45, Tryd.ntmps45
      go_wp2_with fail
      go_ret
      exact ⟨by go_num, rfl⟩
    · rw [if_neg (fun h => h1 h.2)]
      go_enter Tryd.func45, Tryd.ntmps45
      go_wp2_with fail
      go_ret
      exact ⟨rfl, rfl⟩
  · rw [if_neg (fun h => h0 h.1)]
    go_enter Tryd.func45, Tryd.ntmps45
    go_wp2_with fail
    go_ret
    exact ⟨rfl, rfl⟩
end Go.Proofs.YtafdijcolponjaaDoor
