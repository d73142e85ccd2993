/- The contracts of a trail's New and All, and of all its calls on a trail that is none. Conditions: those in each statement. -/
import Derived.Test.YtifjjcenmilohaaTrailF
import Derived.WalkSpells
import Derived.Laws.AppendOwnNone
namespace Go.Proofs.Ytifjjcenmilohaa
open Go.RowKit

theorem new_bad (n : Int) (w : World) (h : n < 0 ∨ 1000 < n) :
    Calls Try.prog 6 #[.int .i64 n] w fun e w' => e = .returned (.tuple #[.pointer none, .int .i64 2]) ∧ w = w' := by
  by_cases h0 : n < 0
  · go_enter Try.func6, Try.ntmps6
    go_wp2
    go_ret2
    exact ⟨rfl, rfl⟩
  · have h1 : 1000 < n := by omega
    clear h
    go_enter Try.func6, Try.ntmps6
    go_wp2
    go_ret2
    exact ⟨rfl, rfl⟩

def NewEnds (n : Nat) (w : World) (e : Ending) (w' : World) : Prop :=
  ∃ b, e = .returned (.tuple #[.pointer (some ⟨b, 0, none⟩), .int .i64 0]) ∧ w.heap.size ≤ b ∧ (∃ F, TrailAt w' b F ⟨List.replicate n 0, [], []⟩ ∧ ∀ k ∈ F, w.heap.size ≤ k) ∧ Below w.heap.size w w'

theorem new_ok (n : Nat) (w : World) (h : n ≤ 1000) :
    Calls Try.prog 6 #[.int .i64 n] w (NewEnds n w) := by
  obtain ⟨i0, hi, hz0, hz1, hz2⟩ := info_parts infoInt
  have h0 : ¬ (n : Int) < 0 := by omega
  have h1 : ¬ 1000 < (n : Int) := by omega
  go_enter Try.func6, Try.ntmps6
  go_wp2_with (at_make; refine wpList_make_full _ rfl _ _ 28 rfl 0 3 i0 (.int .i64 0) 1 Try.underlying28 hi hz0 hz1 .i64 .i64 _ _ n rfl rfl rfl rfl (by rw [hz2]; omega) (by unfold maxLen; omega) (Nat.zero_le _) ?_)
  intro w1 hown hgrow
  have hs : w.heap.size < w1.heap.size := owns_lt hown _ rfl
  have HO := Lib.hid hown
  have HG := Lib.hid hgrow
  clear hown hgrow
  go_wp2
  go_ret2
  have hne : ¬ w1.heap.size = w.heap.size := by omega
  have hrow : (madeCells #[Value.int .i64 0] n).toList = ints (List.replicate n 0) := by
    rw [toList_madeCells_one]; simp [ints]
  refine ⟨w1.heap.size, rfl, by omega, ⟨[w1.heap.size, w.heap.size], ⟨w.heap.size, n, .slice none 0 0, .slice none 0 0, ?_, ?_, ?_, ?_, rfl, ?_⟩, ?_⟩, ?_⟩
  · simp only [List.length_replicate]; exact heap_new _ _
  · simp only [List.length_replicate]
    rw [← hrow]
    exact owns_of_heap HO.out fun k hk => by cases hk; exact heap_alloc_lt hs
  · exact World.ownsRow_nil _ _ _ _
  · exact World.ownsRow_nil _ _ _ _
  · simp [hne]
  · intro k hk
    simp only [List.mem_cons, List.not_mem_nil, or_false] at hk
    omega
  · exact ((Below.refl _ _).grown HG.out (Nat.le_refl _) (fun k hk => by cases hk)).alloc (by omega) _

theorem clone_any (x : Addr) (len cap : Nat) (xs : List Value) (w : World) (h : Src w (some x) len cap 1 xs) (hb : len * 8 ≤ 140737488355328) :
    Calls Try.prog 25 #[.slice (some x) len cap] w (Made w.heap.size 3 1 len xs w) := by
  obtain ⟨i0, hi, hz0, hz1, hz2⟩ := info_parts infoInt
  obtain ⟨h1, h2, h3, h4, h5, h6⟩ := h
  have hown := World.ownsRow_made (base := w.heap.size) (e := 3) (size := 1) w #[] 0 (Nat.le_refl _) (by decide) rfl
  have HO := Lib.hid hown
  clear hown
  have hml : (0 : Nat) + len ≤ maxLen := by omega
  have h5' := Lib.hid (h5 x rfl)
  have h6' := Lib.hid h6
  have h1' := Lib.hid h1
  clear h1 h2 h5 h6
  have heq := Lib.run_eql_slice_nil (P := Try.prog) w 28 3 (some x) len cap 0 0 Try.underlying28
  go_enter Try.func25, Try.ntmps25
  go_wp2_with (at_builtin; go_loud (refine wpList_append_own (w.alloc (.cells #[] 3)) rfl _ _ _ rfl w.heap.size 3 i0 (.int .i64 0) 1 8 Try.underlying28 hi hz0 hz1 hz2 rfl (by decide) _ 0 [] rfl HO.out x len cap xs rfl h1'.out (fun j u hj => cell_alloc (h5'.out j u hj)) h6'.out hml (by omega) (by simp) ?_))
  intro v' w1 hown1 hgrow hne
  have HN := Lib.hid hne
  clear hne
  go_wp2
  go_ret
  obtain ⟨g, c, rfl⟩ := owns_some hown1 HN.out
  exact ⟨g, c, rfl, hown1, ((Below.refl _ _).alloc (Nat.le_refl _) _).grown hgrow (by simp) (fun k hk => by cases hk; exact Nat.le_refl _)⟩

theorem src_of_owns {w : World} {base e g cap n : Nat} {l : List Int} (h : w.ownsRow base e 1 (.slice (some ⟨g, 0, none⟩) n cap) n (ints l)) : Src w (some ⟨g, 0, none⟩) n cap 1 (ints l) := by
  have hcap := (owns_shape h).resolve_left (by rintro ⟨h, _⟩; cases h)
  obtain ⟨g', cap', hv, hle, hmx⟩ := hcap
  cases hv
  refine ⟨h.1, (fun e => by cases e), hle, hmx, ?_, ?_⟩
  · intro ad had j u hj
    cases had
    exact h.cells rfl j u hj
  · intro u hu
    obtain ⟨z, _, rfl⟩ := List.mem_map.1 hu
    rfl

theorem all_any (b : Nat) (F : List Nat) (T : TM) (w : World) (h : TrailAt w b F T) (hb : T.cells.length ≤ 1000) :
    Calls Try.prog 19 #[.pointer (some ⟨b, 0, none⟩)] w (Made w.heap.size 3 1 T.cells.length (ints T.cells) w) := by
  have his := Lib.hid (is_any b F T w h)
  obtain ⟨gc, cc, vch, vm, h1, hcs, -⟩ := h
  have c0 : w.cell? ⟨b, 0, none⟩ = some (.slice (some ⟨gc, 0, none⟩) T.cells.length cc) := cell_at 0 h1 rfl
  have hcl := Lib.hid (clone_any _ _ _ _ w (src_of_owns hcs) (by omega))
  clear h1 hcs
  go_enter Try.func19, Try.ntmps19
  go_wp2_with fail
  refine his.out.mono ?_
  rintro e w' ⟨rfl, rfl⟩
  go_wp2_with fail
  refine hcl.out.mono ?_
  rintro e w1 ⟨g, c, rfl, hm⟩
  go_wp2_with fail
  go_ret
  exact ⟨g, c, rfl, hm⟩
end Go.Proofs.Ytifjjcenmilohaa
