/- The contracts of few and works (rings). Conditions: works: where the table lies. -/
import Derived.Test.YtafdijcolponjaaDoorRingK
namespace Go.Proofs.YtafdijcolponjaaDoor
open Go.RowKit

def few25 (len : Nat) : Nat := min len 25
def small9 (n : Int) : Int := if 9 < n ∧ n ≤ 500 then 9 else n
/-- At most twenty-five edges, in memory of the call's own; nine nodes at most. -/
def RFewEnds (n : Int) (z : Nat → Nat → Int) (m : Nat) (w : World) (e : Ending) (w' : World) : Prop :=
  ∃ g cap, e = .returned (.tuple #[.int .i64 n, .slice (some ⟨g, 0, none⟩) m cap]) ∧ w'.ownsRow w.heap.size 61 2 (.slice (some ⟨g, 0, none⟩) m cap) m (cellsZ z m) ∧ Below w.heap.size w w'

set_option maxRecDepth 20000 in
set_option maxHeartbeats 1000000 in
theorem rfew_any (n : Int) (a : Option Addr) (len cap : Nat) (z : Nat → Nat → Int) (w : World) (h : IsRowS 2 w a len cap z) :
    Calls Tryd.prog 79 #[.int .i64 n, .slice a len cap] w (RFewEnds (small9 n) z (few25 len) w) := by
  obtain ⟨i0, hi, hz0, hz1, hz2⟩ := info_parts infoEdge
  have hlc := h.len_le
  have hmn : few25 len ≤ len := Nat.min_le_left _ _
  have hm60 : few25 len ≤ 25 := Nat.min_le_right _ _
  have hf := h.src2 hmn
  have hf1 : 25 < len → few25 len = 25 := fun h => Nat.min_eq_right (by omega)
  have hf2 : len ≤ 25 → few25 len = len := fun h => Nat.min_eq_left h
  generalize few25 len = m at *
  obtain ⟨h1, h2, h3, h4, h5, h6⟩ := hf
  have hnil : a = none → len = 0 ∧ cap = 0 := fun e => by
    rcases h with ⟨_, h, h'⟩ | ⟨x, hx, _⟩
    · exact ⟨h, h'⟩
    · rw [e] at hx; cases hx
  have hown := World.ownsRow_made (base := w.heap.size) (e := 61) (size := 2) w #[] 0 (Nat.le_refl _) (by decide) rfl
  have HO := Lib.hid hown
  have hml : (0 : Nat) + m ≤ maxLen := by unfold maxLen; omega
  have hsm : ∃ s, small9 n = s ∧ ((9 < n ∧ n ≤ 500 ∧ s = 9) ∨ (¬ 9 < n ∧ s = n) ∨ (9 < n ∧ ¬ n ≤ 500 ∧ s = n)) := by
    refine ⟨_, rfl, ?_⟩
    unfold small9
    by_cases h0 : 9 < n
    · by_cases h1 : n ≤ 500
      · rw [if_pos ⟨h0, h1⟩]; exact .inl ⟨h0, h1, rfl⟩
      · rw [if_neg (fun h => h1 h.2)]; exact .inr (.inr ⟨h0, h1, rfl⟩)
    · rw [if_neg (fun h => h0 h.1)]; exact .inr (.inl ⟨h0, rfl⟩)
  obtain ⟨s, hs, hsc⟩ := hsm
  rw [hs]
  clear hown h hs
  rcases hsc with ⟨n0, n1, rfl⟩ | ⟨n0, rfl⟩ | ⟨n0, n1, rfl⟩
  · cases a with
    | none =>
      obtain ⟨rfl, rfl⟩ := hnil rfl
      obtain rfl : m = 0 := hf2 (by omega)
      clear h1 h2 h5 h6 hnil hf1 hf2
      go_enter Tryd.func79, Tryd.ntmps79
      go_wp2_with (at_builtin; go_loud (refine wpList_append_own_none rfl _ _ _ rfl w.heap.size 61 i0 2 Tryd.underlying53 hi _ 0 [] rfl HO.out rfl ?_))
      go_ret2
      exact ⟨_, _, rfl, HO.out, (Below.refl _ _).alloc (Nat.le_refl _) _⟩
    | some x =>
      have h5' := Lib.hid (h5 x rfl)
      have h6' := Lib.hid h6
      have h1' := Lib.hid h1
      have hl0 : (0 : Int) ≤ (len : Int) := by omega
      have hl1 : (len : Int) ≤ 9223372036854775807 := by omega
      clear h1 h2 h5 h6 hnil
      rcases Nat.lt_or_ge 25 len with hlt | hlt
      · obtain rfl : m = 25 := hf1 hlt
        clear hf1 hf2
        have hle : ¬ ((len : Int) ≤ 25) := by omega
        go_enter Tryd.func79, Tryd.ntmps79
        go_wp2_with (at_builtin; go_loud (refine wpList_append_own (w.alloc (.cells #[] 61)) rfl _ _ _ rfl w.heap.size 61 i0 (.agg #[.int .i64 0, .int .i64 0]) 2 16 Tryd.underlying53 hi hz0 hz1 hz2 rfl (by decide) _ 0 [] rfl HO.out x 25 cap (cellsZ z 25) rfl h1'.out (fun j u hj => cell_alloc (h5'.out j u hj)) h6'.out hml (by omega) (by simp) ?_))
        intro v' w1 hown1 hgrow hne
        have HN := Lib.hid hne
        clear hne
        go_wp2
        go_ret2
        obtain ⟨g, c, rfl⟩ := owns_some hown1 HN.out
        exact ⟨g, c, rfl, by simpa using hown1, ((Below.refl _ _).alloc (Nat.le_refl _) _).grown hgrow (by simp) (fun k hk => by cases hk; exact Nat.le_refl _)⟩
      · obtain rfl : m = len := hf2 hlt
        clear hf1 hf2
        have hle : ((m : Int) ≤ 25) := by omega
        go_enter Tryd.func79, Tryd.ntmps79
        go_wp2_with (at_builtin; go_loud (refine wpList_append_own (w.alloc (.cells #[] 61)) rfl _ _ _ rfl w.heap.size 61 i0 (.agg #[.int .i64 0, .int .i64 0]) 2 16 Tryd.underlying53 hi hz0 hz1 hz2 rfl (by decide) _ 0 [] rfl HO.out x m cap (cellsZ z m) rfl h1'.out (fun j u hj => cell_alloc (h5'.out j u hj)) h6'.out hml (by omega) (by simp) ?_))
        intro v' w1 hown1 hgrow hne
        have HN := Lib.hid hne
        clear hne
        go_wp2
        go_ret2
        obtain ⟨g, c, rfl⟩ := owns_some hown1 HN.out
        exact ⟨g, c, rfl, by simpa using hown1, ((Below.refl _ _).alloc (Nat.le_refl _) _).grown hgrow (by simp) (fun k hk => by cases hk; exact Nat.le_refl _)⟩
  · cases a with
    | none =>
      obtain ⟨rfl, rfl⟩ := hnil rfl
      obtain rfl : m = 0 := hf2 (by omega)
      clear h1 h2 h5 h6 hnil hf1 hf2
      go_enter Tryd.func79, Tryd.ntmps79
      go_wp2_with (at_builtin; go_loud (refine wpList_append_own_none rfl _ _ _ rfl w.heap.size 61 i0 2 Tryd.underlying53 hi _ 0 [] rfl HO.out rfl ?_))
      go_ret2
      exact ⟨_, _, rfl, HO.out, (Below.refl _ _).alloc (Nat.le_refl _) _⟩
    | some x =>
      have h5' := Lib.hid (h5 x rfl)
      have h6' := Lib.hid h6
      have h1' := Lib.hid h1
      have hl0 : (0 : Int) ≤ (len : Int) := by omega
      have hl1 : (len : Int) ≤ 9223372036854775807 := by omega
      clear h1 h2 h5 h6 hnil
      rcases Nat.lt_or_ge 25 len with hlt | hlt
      · obtain rfl : m = 25 := hf1 hlt
        clear hf1 hf2
        have hle : ¬ ((len : Int) ≤ 25) := by omega
        go_enter Tryd.func79, Tryd.ntmps79
        go_wp2_with (at_builtin; go_loud (refine wpList_append_own (w.alloc (.cells #[] 61)) rfl _ _ _ rfl w.heap.size 61 i0 (.agg #[.int .i64 0, .int .i64 0]) 2 16 Tryd.underlying53 hi hz0 hz1 hz2 rfl (by decide) _ 0 [] rfl HO.out x 25 cap (cellsZ z 25) rfl h1'.out (fun j u hj => cell_alloc (h5'.out j u hj)) h6'.out hml (by omega) (by simp) ?_))
        intro v' w1 hown1 hgrow hne
        have HN := Lib.hid hne
        clear hne
        go_wp2
        go_ret2
        obtain ⟨g, c, rfl⟩ := owns_some hown1 HN.out
        exact ⟨g, c, rfl, by simpa using hown1, ((Below.refl _ _).alloc (Nat.le_refl _) _).grown hgrow (by simp) (fun k hk => by cases hk; exact Nat.le_refl _)⟩
      · obtain rfl : m = len := hf2 hlt
        clear hf1 hf2
        have hle : ((m : Int) ≤ 25) := by omega
        go_enter Tryd.func79, Tryd.ntmps79
        go_wp2_with (at_builtin; go_loud (refine wpList_append_own (w.alloc (.cells #[] 61)) rfl _ _ _ rfl w.heap.size 61 i0 (.agg #[.int .i64 0, .int .i64 0]) 2 16 Tryd.underlying53 hi hz0 hz1 hz2 rfl (by decide) _ 0 [] rfl HO.out x m cap (cellsZ z m) rfl h1'.out (fun j u hj => cell_alloc (h5'.out j u hj)) h6'.out hml (by omega) (by simp) ?_))
        intro v' w1 hown1 hgrow hne
        have HN := Lib.hid hne
        clear hne
        go_wp2
        go_ret2
        obtain ⟨g, c, rfl⟩ := owns_some hown1 HN.out
        exact ⟨g, c, rfl, by simpa using hown1, ((Below.refl _ _).alloc (Nat.le_refl _) _).grown hgrow (by simp) (fun k hk => by cases hk; exact Nat.le_refl _)⟩
  · cases a with
    | none =>
      obtain ⟨rfl, rfl⟩ := hnil rfl
      obtain rfl : m = 0 := hf2 (by omega)
      clear h1 h2 h5 h6 hnil hf1 hf2
      go_enter Tryd.func79, Tryd.ntmps79
      go_wp2_with (at_builtin; go_loud (refine wpList_append_own_none rfl _ _ _ rfl w.heap.size 61 i0 2 Tryd.underlying53 hi _ 0 [] rfl HO.out rfl ?_))
      go_ret2
      exact ⟨_, _, rfl, HO.out, (Below.refl _ _).alloc (Nat.le_refl _) _⟩
    | some x =>
      have h5' := Lib.hid (h5 x rfl)
      have h6' := Lib.hid h6
      have h1' := Lib.hid h1
      have hl0 : (0 : Int) ≤ (len : Int) := by omega
      have hl1 : (len : Int) ≤ 9223372036854775807 := by omega
      clear h1 h2 h5 h6 hnil
      rcases Nat.lt_or_ge 25 len with hlt | hlt
      · obtain rfl : m = 25 := hf1 hlt
        clear hf1 hf2
        have hle : ¬ ((len : Int) ≤ 25) := by omega
        go_enter Tryd.func79, Tryd.ntmps79
        go_wp2_with (at_builtin; go_loud (refine wpList_append_own (w.alloc (.cells #[] 61)) rfl _ _ _ rfl w.heap.size 61 i0 (.agg #[.int .i64 0, .int .i64 0]) 2 16 Tryd.underlying53 hi hz0 hz1 hz2 rfl (by decide) _ 0 [] rfl HO.out x 25 cap (cellsZ z 25) rfl h1'.out (fun j u hj => cell_alloc (h5'.out j u hj)) h6'.out hml (by omega) (by simp) ?_))
        intro v' w1 hown1 hgrow hne
        have HN := Lib.hid hne
        clear hne
        go_wp2
        go_ret2
        obtain ⟨g, c, rfl⟩ := owns_some hown1 HN.out
        exact ⟨g, c, rfl, by simpa using hown1, ((Below.refl _ _).alloc (Nat.le_refl _) _).grown hgrow (by simp) (fun k hk => by cases hk; exact Nat.le_refl _)⟩
      · obtain rfl : m = len := hf2 hlt
        clear hf1 hf2
        have hle : ((m : Int) ≤ 25) := by omega
        go_enter Tryd.func79, Tryd.ntmps79
        go_wp2_with (at_builtin; go_loud (refine wpList_append_own (w.alloc (.cells #[] 61)) rfl _ _ _ rfl w.heap.size 61 i0 (.agg #[.int .i64 0, .int .i64 0]) 2 16 Tryd.underlying53 hi hz0 hz1 hz2 rfl (by decide) _ 0 [] rfl HO.out x m cap (cellsZ z m) rfl h1'.out (fun j u hj => cell_alloc (h5'.out j u hj)) h6'.out hml (by omega) (by simp) ?_))
        intro v' w1 hown1 hgrow hne
        have HN := Lib.hid hne
        clear hne
        go_wp2
        go_ret2
        obtain ⟨g, c, rfl⟩ := owns_some hown1 HN.out
        exact ⟨g, c, rfl, by simpa using hown1, ((Below.refl _ _).alloc (Nat.le_refl _) _).grown hgrow (by simp) (fun k hk => by cases hk; exact Nat.le_refl _)⟩

def wrz (i j : Nat) : Int := if j = 0 then (if i = 0 then 0 else if i = 1 then 1 else 2) else (if i = 0 then 1 else if i = 1 then 2 else if i = 2 then 0 else 1)
def wez (i j : Nat) : Int := if j = 0 then (if i = 0 then 0 else 1) else (if i = 0 then 1 else 0)
theorem wr1 : ofB 3 wrz 4 = true := by decide
theorem wr2 : refL (3 : Int).toNat (ofZ (3 : Int).toNat wrz 4) = [1, 2] := by decide
theorem wr3 : ∀ e ∈ ofZ (3 : Int).toNat wrz 4, e.1 < (3 : Int).toNat ∧ e.2 < (3 : Int).toNat := by decide
theorem wr4 : (ofB 2 wez 2 && ringB [0, 1] (ofZ (2 : Int).toNat wez 2)) = true := by decide
theorem edgesIn_four (w : World) (t : TypeId) : EdgesIn (w.alloc (.cells #[.int .i64 0, .int .i64 1, .int .i64 1, .int .i64 2, .int .i64 2, .int .i64 0, .int .i64 2, .int .i64 1] t)) (some ⟨w.heap.size, 0, none⟩) 4 wrz := by
  refine ⟨by omega, fun _ => ⟨_, rfl, by simp, fun i hi => ?_⟩⟩
  match i, hi with
  | 0, _ => exact ⟨cell_at 0 (heap_new _ _) rfl, cell_at 1 (heap_new _ _) rfl⟩
  | 1, _ => exact ⟨cell_at 2 (heap_new _ _) rfl, cell_at 3 (heap_new _ _) rfl⟩
  | 2, _ => exact ⟨cell_at 4 (heap_new _ _) rfl, cell_at 5 (heap_new _ _) rfl⟩
  | 3, _ => exact ⟨cell_at 6 (heap_new _ _) rfl, cell_at 7 (heap_new _ _) rfl⟩
theorem edgesIn_both (w : World) (t : TypeId) : EdgesIn (w.alloc (.cells #[.int .i64 0, .int .i64 1, .int .i64 1, .int .i64 0] t)) (some ⟨w.heap.size, 0, none⟩) 2 wez := by
  refine ⟨by omega, fun _ => ⟨_, rfl, by simp, fun i hi => ?_⟩⟩
  match i, hi with
  | 0, _ => exact ⟨cell_at 0 (heap_new _ _) rfl, cell_at 1 (heap_new _ _) rfl⟩
  | 1, _ => exact ⟨cell_at 2 (heap_new _ _) rfl, cell_at 3 (heap_new _ _) rfl⟩
theorem src_two (w : World) (x y : Int) (t : TypeId) : Src (w.alloc (.cells #[.int .i64 x, .int .i64 y] t)) (some ⟨w.heap.size, 0, none⟩) 2 2 1 (intl [x, y]) := by
  refine ⟨rfl, (fun h => by cases h), Nat.le_refl _, by unfold maxLen; omega, fun ad had j u hj => ?_, fun u hu => ?_⟩
  · cases had
    match j, hj with
    | 0, hj => cases hj; exact cell_at 0 (heap_new _ _) rfl
    | 1, hj => cases hj; exact cell_at 1 (heap_new _ _) rfl
  · obtain ⟨n, _, rfl⟩ := List.mem_map.1 hu; rfl

set_option maxRecDepth 20000 in
set_option maxHeartbeats 2000000 in
theorem rgworks_any (w : World) (hT : TabIs w) : Calls Tryd.prog 81 #[] w (YesEnds w) := by
  have HT := Lib.hid hT
  have hb0 : Below w.heap.size w (w.alloc (.cells #[.int .i64 0, .int .i64 1, .int .i64 1, .int .i64 2, .int .i64 2, .int .i64 0, .int .i64 2, .int .i64 1] 61)) := (Below.refl _ _).alloc (Nat.le_refl _) _
  have HL := Lib.hid (rgleast_any 3 4 4 (some ⟨w.heap.size, 0, none⟩) wrz _ (edgesIn_four w 61) (tab_below hT hb0 (Nat.le_refl _)))
  have HB0 := Lib.hid hb0
  clear hT hb0
  go_enter Tryd.func81, Tryd.ntmps81
  go_wp2_with fail
  go_fit HL.out
  rintro e w1 ⟨hB, (⟨-, best, hla, hsh⟩ | ⟨hno, -⟩)⟩
  · have hbe : best = [1, 2] := (leastAt_ref wr3 hla).symm.trans wr2
    subst hbe
    rcases hsh with ⟨h0, -⟩ | ⟨-, v, rfl, hown⟩
    · cases h0
    obtain ⟨ad, c, rfl, hs⟩ := src_list hown
    have hB1 := HB0.out.trans (hB.mono HB0.out.size)
    have hs1 := hs.belowAll ((Below.refl w1.heap.size w1).alloc (Nat.le_refl _) (.cells #[.int .i64 1, .int .i64 2] 3)) (Nat.le_refl _)
    have HSM := Lib.hid (same_any _ _ _ _ _ _ _ _ _ hs1 (src_two w1 1 2 3))
    have HB1 := Lib.hid (hB1.alloc hB1.size (.cells #[.int .i64 1, .int .i64 2] 3))
    clear hown hB hs hB1 hs1 HL hla
    go_wp2_with fail
    go_fit HSM.out
    rintro e w2 ⟨rfl, hS2⟩
    have e1 : sameB (natI [1, 2]) [1, 2] = true := by decide
    rw [e1]
    have hB2 := HB1.out.trans hS2.below
    have hBx := hB2.alloc hB2.size (.cells #[.int .i64 0, .int .i64 1] 3)
    have hBy := hBx.alloc hBx.size (.cells #[.int .i64 0, .int .i64 1, .int .i64 1, .int .i64 0] 61)
    have hsx := (src_two w2 0 1 3).belowAll ((Below.refl _ (w2.alloc (.cells #[.int .i64 0, .int .i64 1] 3))).alloc (Nat.le_refl _) (.cells #[.int .i64 0, .int .i64 1, .int .i64 1, .int .i64 0] 61)) (Nat.le_refl _)
    have hIs := rgis_any 2 (some ⟨w2.heap.size, 0, none⟩) 2 [0, 1] (some ⟨(w2.alloc (.cells #[.int .i64 0, .int .i64 1] 3)).heap.size, 0, none⟩) 2 2 wez _ hsx (by decide) (edgesIn_both _ 61) (tab_below HT.out hBy (Nat.le_refl _))
    unfold RgIsEnds at hIs
    rw [wr4, show (w2.alloc (.cells #[.int .i64 0, .int .i64 1] 3)).heap.size = w2.heap.size + 1 from Array.size_push _] at hIs
    have HIs := Lib.hid hIs
    have HBy := Lib.hid hBy
    clear hS2 e1 hB2 hBx hBy hsx hIs
    go_wp2_with fail
    go_fit HIs.out
    rintro e w4 ⟨rfl, hB4⟩
    have HB4 := Lib.hid (HBy.out.trans (hB4.mono HBy.out.size))
    clear hB4
    go_wp2_with fail
    go_ret
    exact ⟨rfl, HB4.out⟩
  · rw [wr1] at hno; cases hno
end Go.Proofs.YtafdijcolponjaaDoor
