/- The statements' works, where the table lies. No condition but those in each statement. -/
import Derived.Test.YtafdijcolponjaaDoorBitsD
import Derived.Deep.DeepFit
namespace Go.Proofs.YtafdijcolponjaaDoor
open Go.RowKit

/-- A row that a statement has just laid. -/
theorem src_new (w : World) (l : List Int) (t : TypeId) (h : l.length ≤ 100) : Src (w.alloc (.cells (intl l).toArray t)) (some ⟨w.heap.size, 0, none⟩) l.length l.length 1 (intl l) := by
  refine ⟨by simp [intl], (by intro e; cases e), Nat.le_refl _, by unfold maxLen; omega, ?_, ?_⟩
  · intro ad had j u hj
    cases had
    have : (⟨w.heap.size, 0, none⟩ : Addr).add j = ⟨w.heap.size, j, none⟩ := by
      unfold Addr.add
      split
      · rename_i h0; subst h0; rfl
      · simp
    rw [this]
    exact cell_at j (heap_new _ _) (by simpa using hj)
  · intro u hu
    obtain ⟨n, _, rfl⟩ := List.mem_map.1 hu
    rfl

theorem Src.below {w w' : World} {b n cap : Nat} {l : List Int} (h : Src w (some ⟨b, 0, none⟩) n cap 1 (intl l)) {B : Nat} (hb : Below B w w') (hB : b < B) : Src w' (some ⟨b, 0, none⟩) n cap 1 (intl l) :=
  h.of_block fun ad had _ => by cases had; exact hb.block b hB

theorem worksSet : newW [5, 500, 1] = [34, 0, 0, 0, 0, 0, 0, 0] := by decide
theorem worksAll : natI (preL [34, 0, 0, 0, 0, 0, 0, 0] 8) = [1, 5] := by decide
theorem worksLen : (preL [34, 0, 0, 0, 0, 0, 0, 0] 8).length = 2 := by decide
theorem worksHas : mem (newW [3]) 3 = true := by decide

def YesEnds (w : World) (e : Ending) (w' : World) : Prop := e = .returned (.bool true) ∧ Below w.heap.size w w'


theorem works_any (w : World) (hT : TabIs w) : Calls Tryd.prog 21 #[] w (YesEnds w) := by
  have HT := Lib.hid hT
  clear hT
  have h1 := new_any _ _ _ _ _ (src_new w [5, 500, 1] 3 (by decide))
  rw [worksSet] at h1
  simp only [intl, List.map_cons, List.map_nil, List.length_cons, List.length_nil, Nat.reduceAdd] at h1
  have H1 := Lib.hid h1
  clear h1
  go_enter Tryd.func21, Tryd.ntmps21
  go_wp2_with fail

  go_fit H1.out
  rintro e w1 ⟨rfl, hS, hB⟩
  have e1 : (w.alloc (.cells #[.int .i64 5, .int .i64 500, .int .i64 1] 3)).heap.size = w.heap.size + 1 := by simp
  rw [e1] at hS hB
  have hB0 : Below w.heap.size w w1 := ((Below.refl _ w).alloc (Nat.le_refl _) _).trans (hB.mono (by simp))
  have hsz := hB.size
  have HA := Lib.hid (all_any _ _ w1 hS (tab_below HT.out hB0 (Nat.le_refl _)))
  have HB := Lib.hid hB0
  have HZ := Lib.hid hsz
  clear hB0 hB hS hsz
  go_wp2_with fail
  go_fit HA.out
  rintro e w2 ⟨v, rfl, hown, hB2⟩
  rw [worksAll, worksLen] at hown
  obtain ⟨g, cap, rfl, -, -⟩ := (owns_shape hown).resolve_left (fun h => absurd h.2 (by decide))
  have hh := same_any _ _ _ _ _ _ _ _ _ (src_owned (hown.alloc (.cells #[.int .i64 1, .int .i64 5] 3))) (src_new w2 [1, 5] 3 (by decide))
  simp only [List.length_cons, List.length_nil, Nat.reduceAdd] at hh
  have HA2 := Lib.hid hh
  have HB2 := Lib.hid (HB.out.trans (hB2.mono HB.out.size))
  clear hown hB2 hh
  go_wp2_with fail
  go_fit HA2.out
  rintro e w3 ⟨rfl, hS3⟩
  rw [sameB_self]
  have HB3 := Lib.hid ((HB2.out.alloc HB2.out.size (.cells #[.int .i64 1, .int .i64 5] 3)).trans hS3.below)
  have h3 := new_any _ _ _ _ _ (src_new w3 [3] 3 (by decide))
  simp only [intl, List.map_cons, List.map_nil, List.length_cons, List.length_nil, Nat.reduceAdd] at h3
  have H3 := Lib.hid h3
  clear h3 hS3
  go_wp2_with fail
  go_fit H3.out
  rintro e w4 ⟨rfl, hS, hB⟩
  have e3 : (w3.alloc (.cells #[.int .i64 3] 3)).heap.size = w3.heap.size + 1 := by simp
  rw [e3] at hS hB
  have hh := has_yes _ 3 _ w4 hS (by decide)
  rw [worksHas] at hh
  have H4 := Lib.hid hh
  have HB4 := Lib.hid ((HB3.out.alloc HB3.out.size (.cells #[.int .i64 3] 3)).trans (hB.mono (by have := HB3.out.size; omega)))
  clear hS hB hh
  go_wp2_with fail
  go_fit H4.out
  rintro e w5 ⟨rfl, rfl⟩
  go_wp2_with fail
  go_ret
  exact ⟨rfl, HB4.out⟩
end Go.Proofs.YtafdijcolponjaaDoor
