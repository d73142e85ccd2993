/- The contracts of Few, Small, graph.Of; the chapter's example. No condition but those in each statement; works: where the table lies. -/
import Derived.Test.YtafdijcolponjaaDoorGraphJ
import Derived.Test.YtafdijcolponjaaDoorSlices
namespace Go.Proofs.YtafdijcolponjaaDoor
open Go.RowKit

/-- The cells of the first m pairs. -/
def cellsZ (z : Nat → Nat → Int) (m : Nat) : List Value := (List.range m).flatMap fun i => [.int .i64 (z i 0), .int .i64 (z i 1)]
theorem cellsZ_succ (z : Nat → Nat → Int) (m : Nat) : cellsZ z (m + 1) = cellsZ z m ++ [.int .i64 (z m 0), .int .i64 (z m 1)] := by
  unfold cellsZ
  rw [List.range_succ, List.flatMap_append]; simp
theorem cellsZ_len (z : Nat → Nat → Int) : ∀ m, (cellsZ z m).length = m * 2
  | 0 => rfl
  | m + 1 => by rw [cellsZ_succ, List.length_append, cellsZ_len z m]; simp; omega
theorem cellsZ_at (z : Nat → Nat → Int) : ∀ (m i : Nat), i < m → (cellsZ z m)[i * 2]? = some (.int .i64 (z i 0)) ∧ (cellsZ z m)[i * 2 + 1]? = some (.int .i64 (z i 1))
  | 0, i, h => absurd h (Nat.not_lt_zero i)
  | m + 1, i, h => by
    rw [cellsZ_succ]
    by_cases e : i < m
    · rw [List.getElem?_append_left (by rw [cellsZ_len]; omega), List.getElem?_append_left (by rw [cellsZ_len]; omega)]
      exact cellsZ_at z m i e
    · obtain rfl : i = m := by omega
      rw [List.getElem?_append_right (by rw [cellsZ_len]; omega), List.getElem?_append_right (by rw [cellsZ_len]; omega), cellsZ_len]
      simp
theorem cellsZ_one (z : Nat → Nat → Int) (m : Nat) : ∀ u ∈ cellsZ z m, u.oneCell' = true := by
  intro u hu
  obtain ⟨i, _, hi⟩ := List.mem_flatMap.1 hu
  simp only [List.mem_cons, List.not_mem_nil, or_false] at hi
  rcases hi with rfl | rfl <;> rfl
theorem cellsZ_get {z : Nat → Nat → Int} {m k : Nat} (h : k < m * 2) : (cellsZ z m)[k]? = some (.int .i64 (z (k / 2) (k % 2))) := by
  have hi : k / 2 < m := by omega
  have := cellsZ_at z m (k / 2) hi
  rcases (by omega : k % 2 = 0 ∨ k % 2 = 1) with h0 | h0
  · rw [h0]; rw [← this.1]; congr 1; omega
  · rw [h0]; rw [← this.2]; congr 1; omega

theorem IsRowS.src2 {w : World} {a : Option Addr} {len cap : Nat} {zs : Nat → Nat → Int} (h : IsRowS 2 w a len cap zs) {m : Nat} (hm : m ≤ len) : Src w a m cap 2 (cellsZ zs m) := by
  rcases h with ⟨rfl, rfl, rfl⟩ | ⟨x, rfl, hl, hcap, hc⟩
  · obtain rfl : m = 0 := by omega
    exact ⟨rfl, fun _ => ⟨rfl, rfl⟩, Nat.le_refl _, by unfold maxLen; omega, fun ad had => (by cases had), cellsZ_one _ _⟩
  · refine ⟨cellsZ_len _ _, fun e => (by cases e), by omega, hcap, ?_, cellsZ_one _ _⟩
    intro ad had j u hj
    cases had
    have hlt : j < m * 2 := by
      have := (List.getElem?_eq_some_iff.1 hj).1
      rw [cellsZ_len] at this; exact this
    rw [cellsZ_get hlt] at hj
    cases hj
    have := (hc (j / 2) (by omega) (j % 2) (by omega)).1
    rw [show j / 2 * 2 + j % 2 = j by omega] at this
    exact this

/-- Edges in memory, from a block's first cell on. -/
def EdgesIn (w : World) (ad : Option Addr) (m : Nat) (z : Nat → Nat → Int) : Prop :=
  m ≤ 9223372036854775807 ∧ (0 < m → ∃ g, ad = some ⟨g, 0, none⟩ ∧ g < w.heap.size ∧ ∀ i, i < m → w.cell? ⟨g, i * 2, none⟩ = some (.int .i64 (z i 0)) ∧ w.cell? ⟨g, i * 2 + 1, none⟩ = some (.int .i64 (z i 1)))
theorem EdgesIn.of_owns {w : World} {base e m c : Nat} {ad : Option Addr} {z : Nat → Nat → Int} (h : w.ownsRow base e 2 (.slice ad m c) m (cellsZ z m)) : EdgesIn w ad m z := by
  rcases owns_shape h with ⟨hv, h0⟩ | ⟨g, cap, hv, hc, hm⟩
  · exact ⟨by omega, fun h => by omega⟩
  · cases hv
    unfold maxLen at hm
    refine ⟨by omega, fun _ => ⟨g, rfl, owns_lt h g rfl, fun i hi => ?_⟩⟩
    have := cellsZ_at z m i hi
    exact ⟨(h.cellAt (i * 2) (by omega)).trans this.1, (h.cellAt (i * 2 + 1) (by omega)).trans this.2⟩
theorem EdgesIn.below {w w' : World} {ad : Option Addr} {m : Nat} {z : Nat → Nat → Int} (h : EdgesIn w ad m z) {B : Nat} (hb : Below B w w') (hB : w.heap.size ≤ B) : EdgesIn w' ad m z := by
  refine ⟨h.1, fun hm => ?_⟩
  obtain ⟨g, rfl, hg, hc⟩ := h.2 hm
  have hz := hb.size
  refine ⟨g, rfl, ?_, fun i hi => ?_⟩
  · have := hb.block g (by omega)
    rcases Nat.lt_or_ge g w'.heap.size with h' | h'
    · exact h'
    · rw [Array.getElem?_eq_none h', Array.getElem?_eq_getElem hg] at this; cases this
  · have e1 := World.cell?_of_block (a := ⟨g, i * 2, none⟩) (hb.block g (by omega))
    have e2 := World.cell?_of_block (a := ⟨g, i * 2 + 1, none⟩) (hb.block g (by omega))
    exact ⟨e1.trans (hc i hi).1, e2.trans (hc i hi).2⟩
end Go.Proofs.YtafdijcolponjaaDoor
