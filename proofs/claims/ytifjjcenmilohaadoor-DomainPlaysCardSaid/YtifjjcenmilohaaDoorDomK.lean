/- Rows of truths in memory; the document's domain. No program is walked here; no condition but those in each statement. -/
import Derived.Test.YtifjjcenmilohaaDoorDomI
import Derived.Test.YtifjjcenmilohaaDoorAmong
import Derived.Test.YtifjjcenmilohaaDoorRegion
namespace Go.Proofs.YtifjjcenmilohaaDoor
open Go.RowKit

def bv (l : List Bool) : List Value := l.map Value.bool
theorem bv_len (l : List Bool) : (bv l).length = l.length := by simp [bv]
theorem bv_at {l : List Bool} {k : Nat} (h : k < l.length) : (bv l)[k]? = some (.bool (l.getD k false)) := by simp [bv, h]
theorem bv_set (l : List Bool) (k : Nat) (b : Bool) : (bv l).set k (.bool b) = bv (l.set k b) := by simp [bv, List.map_set]

/-- Rows of truths, each in a block of its own. F: the blocks. -/
def RowsAt (w : World) (v : Value) (R : List (List Bool)) (F : List Nat) : Prop :=
  ∃ vs : List Value, w.ownsRow 0 55 1 v R.length vs ∧ (∀ i, i < R.length → w.ownsRow 0 4 1 (vs.getD i undef) (R.getD i []).length (bv (R.getD i []))) ∧ (∀ k ∈ F, k < w.heap.size) ∧ (∀ q, v.ownBlock = some q → q ∈ F) ∧
    (∀ i, i < R.length → ∀ q, (vs.getD i undef).ownBlock = some q → q ∈ F ∧ v.ownBlock ≠ some q) ∧ (∀ i j, i < R.length → j < R.length → i ≠ j → ∀ q, (vs.getD i undef).ownBlock = some q → (vs.getD j undef).ownBlock ≠ some q)

theorem RowsAt.frame {w w' : World} {v : Value} {R : List (List Bool)} {F : List Nat} (h : RowsAt w v R F) (hb : ∀ k ∈ F, w'.heap[k]? = w.heap[k]?) (hs : w.heap.size ≤ w'.heap.size) : RowsAt w' v R F := by
  obtain ⟨vs, h1, h2, h3, h4, h5, h6⟩ := h
  exact ⟨vs, owns_of_heap h1 fun q hq => hb q (h4 q hq), fun i hi => owns_of_heap (h2 i hi) fun q hq => hb q (h5 i hi q hq).1, fun k hk => by have := h3 k hk; omega, h4, h5, h6⟩
theorem RowsAt.lt {w : World} {v : Value} {R : List (List Bool)} {F : List Nat} (h : RowsAt w v R F) : ∀ k ∈ F, k < w.heap.size := by
  obtain ⟨vs, h1, h2, h3, -⟩ := h; exact h3
theorem RowsAt.below {w w' : World} {v : Value} {R : List (List Bool)} {F : List Nat} (h : RowsAt w v R F) {B : Nat} (hB : Below B w w') (hs : w.heap.size ≤ B) : RowsAt w' v R F :=
  h.frame (fun k hk => hB.block k (by have := h.lt k hk; omega)) hB.size
theorem RowsAt.form {w : World} {v : Value} {R : List (List Bool)} {F : List Nat} (h : RowsAt w v R F) : ∃ a c, v = .slice a R.length c ∧ R.length ≤ c ∧ c ≤ 9223372036854775807 := by
  obtain ⟨vs, h1, -⟩ := h
  rcases owns_shape h1 with ⟨rfl, h0⟩ | ⟨g, c, rfl, h, h'⟩
  · exact ⟨none, 0, by rw [h0], by omega, by omega⟩
  · exact ⟨_, c, rfl, h, by unfold maxLen at h'; omega⟩

/-- A row: its slice. -/
theorem RowsAt.row {w : World} {v : Value} {R : List (List Bool)} {F : List Nat} (h : RowsAt w v R F) {i : Nat} (hi : i < R.length) :
    ∃ g c a cc, v = .slice (some ⟨g, 0, none⟩) R.length c ∧ R.length ≤ c ∧ c ≤ 9223372036854775807 ∧ w.cell? ⟨g, i, none⟩ = some (.slice a (R.getD i []).length cc) ∧ (R.getD i []).length ≤ cc ∧ cc ≤ 9223372036854775807 ∧
      w.ownsRow 0 4 1 (.slice a (R.getD i []).length cc) (R.getD i []).length (bv (R.getD i [])) ∧ g ∈ F := by
  obtain ⟨vs, h1, h2, h3, h4, h5, h6⟩ := h
  rcases owns_shape h1 with ⟨rfl, h0⟩ | ⟨g, c, rfl, hc, hc'⟩
  · omega
  have hl : vs.length = R.length := by have := h1.1; omega
  have e : vs.getD i undef = vs[i]'(by omega) := by simp [hl, hi]
  have hcell : w.cell? ⟨g, i, none⟩ = some (vs.getD i undef) := by
    rw [h1.cellAt i (by omega), List.getElem?_eq_getElem (by omega), e]
  obtain ⟨a, cc, he⟩ := slice_form (h2 i hi)
  have h2' := h2 i hi
  rw [he] at hcell h2'
  unfold maxLen at hc'
  refine ⟨g, c, a, cc, rfl, hc, hc', hcell, ?_, ?_, h2', h4 g rfl⟩
  · rcases owns_shape h2' with ⟨h, h0⟩ | ⟨g', c', h, hx, hy⟩
    · omega
    · cases h; exact hx
  · rcases owns_shape h2' with ⟨h, h0⟩ | ⟨g', c', h, hx, hy⟩
    · simp only [Value.slice.injEq] at h; omega
    · cases h; unfold maxLen at hy; exact hy

/-- A truth: where it lies, and what the rows are when it changes. -/
theorem RowsAt.cell {w : World} {v : Value} {R : List (List Bool)} {F : List Nat} (h : RowsAt w v R F) {i k : Nat} (hi : i < R.length) (hk : k < (R.getD i []).length) :
    ∃ g c q cc, v = .slice (some ⟨g, 0, none⟩) R.length c ∧ R.length ≤ c ∧ c ≤ 9223372036854775807 ∧ w.cell? ⟨g, i, none⟩ = some (.slice (some ⟨q, 0, none⟩) (R.getD i []).length cc) ∧ (R.getD i []).length ≤ cc ∧ cc ≤ 9223372036854775807 ∧
      w.cell? ⟨q, k, none⟩ = some (.bool ((R.getD i []).getD k false)) ∧ w.frozen? ⟨q, k, none⟩ = false ∧ q ∈ F ∧ ∀ b : Bool, RowsAt (w.setCell ⟨q, k, none⟩ (.bool b)) v (R.set i ((R.getD i []).set k b)) F := by
  obtain ⟨g, c, a, cc, hv, hc1, hc2, hcell, hc3, hc4, hrow, -⟩ := h.row hi
  rcases owns_shape hrow with ⟨h0, h0'⟩ | ⟨q, c', hq, hx, hy⟩
  · omega
  obtain ⟨rfl, -⟩ : a = some ⟨q, 0, none⟩ ∧ True := by cases hq; exact ⟨rfl, trivial⟩
  obtain ⟨vs, h1, h2, h3, h4, h5, h6⟩ := h
  have hl : vs.length = R.length := by have := h1.1; omega
  have e : vs.getD i undef = vs[i]'(by omega) := by simp [hl, hi]
  have hvi : vs.getD i undef = .slice (some ⟨q, 0, none⟩) (R.getD i []).length cc := by
    rw [hv] at h1
    have h8 := h1.cellAt i (by omega)
    rw [hcell, List.getElem?_eq_getElem (by omega)] at h8
    rw [e]; exact (Option.some.inj h8).symm
  have hqi : (vs.getD i undef).ownBlock = some q := by rw [hvi]; rfl
  refine ⟨g, c, q, cc, hv, hc1, hc2, hcell, hc3, hc4, ?_, hrow.frozenAt k, (h5 i hi q hqi).1, fun b => ⟨vs, ?_, ?_, ?_, h4, ?_, ?_⟩⟩
  · rw [hrow.cellAt k (by omega), bv_at hk]
  · rw [List.length_set]
    exact owns_of_heap h1 fun q' hq' => heap_set_ne k _ (by rintro rfl; exact (h5 i hi _ hqi).2 hq')
  · rw [List.length_set]
    intro j hj
    by_cases hji : j = i
    · subst hji
      have hst := (hrow.stored k (.bool b)).1
      rw [bv_set] at hst
      rw [hvi]
      simp only [List.getD_eq_getElem?_getD, List.getElem?_set_self hj, Option.getD_some, List.length_set] at hst ⊢
      exact hst
    · have e2 : (R.set i ((R.getD i []).set k b)).getD j [] = R.getD j [] := by simp [List.getElem?_set_ne (Ne.symm hji)]
      rw [e2]
      exact owns_of_heap (h2 j hj) fun q' hq' => heap_set_ne k _ (by rintro rfl; exact h6 i j hi hj (Ne.symm hji) _ hqi hq')
  · intro k' hk'
    have := h3 k' hk'
    simpa [World.setCell] using this
  · rw [List.length_set]; exact h5
  · rw [List.length_set]; exact h6

theorem RowsAt.start {w : World} {v : Value} (h : w.ownsRow 0 55 1 v 0 []) : RowsAt w v [] (ownL v) :=
  ⟨[], h, fun i hi => absurd hi (Nat.not_lt_zero i), fun k hk => owns_lt h k (mem_ownL.1 hk), fun _ hq => mem_ownL.2 hq, fun i hi => absurd hi (Nat.not_lt_zero i), fun i _ hi => absurd hi (Nat.not_lt_zero i)⟩

/-- One row more. wA: where the row was made; the append then. -/
theorem RowsAt.push {w w1 w3 : World} {v v2 : Value} {g c : Nat} {R : List (List Bool)} {x : List Bool} {F : List Nat} {vs : List Value} (h1 : w.ownsRow 0 55 1 v R.length vs)
    (h2 : ∀ i, i < R.length → w.ownsRow 0 4 1 (vs.getD i undef) (R.getD i []).length (bv (R.getD i []))) (h3 : ∀ k ∈ F, k < w.heap.size)
    (h5 : ∀ i, i < R.length → ∀ q, (vs.getD i undef).ownBlock = some q → q ∈ F ∧ v.ownBlock ≠ some q) (h6 : ∀ i j, i < R.length → j < R.length → i ≠ j → ∀ q, (vs.getD i undef).ownBlock = some q → (vs.getD j undef).ownBlock ≠ some q)
    (hB : Below w.heap.size w w1) (hx : w1.ownsRow w.heap.size 4 1 v2 x.length (bv x)) (o : Obj) (hgrow : (w1.alloc o).grownBy w3 v.ownBlock) (hat : v.ownBlock = some g ∨ g = (w1.alloc o).heap.size) (hg : g < w3.heap.size)
    (hown : w3.ownsRow 0 55 1 (.slice (some ⟨g, 0, none⟩) (R.length + 1) c) (R.length + 1) (vs ++ [v2])) :
    RowsAt w3 (.slice (some ⟨g, 0, none⟩) (R.length + 1) c) (R ++ [x]) (g :: (ownL v2 ++ F)) := by
  have hz := hB.size
  have hza : (w1.alloc o).heap.size = w1.heap.size + 1 := by simp
  have hg3 := hgrow.size
  have hvl : vs.length = R.length := by have := h1.1; omega
  have hfr : ∀ q, q < w1.heap.size → v.ownBlock ≠ some q → w3.heap[q]? = w1.heap[q]? := fun q hq hne => (hgrow.block q (by omega) (fun e => hne e.symm)).trans (heap_alloc_lt hq)
  have e1 : ∀ i, i < R.length → (vs ++ [v2]).getD i undef = vs.getD i undef := fun i hi => by
    rw [List.getD_eq_getElem?_getD, List.getD_eq_getElem?_getD, List.getElem?_append_left (by omega)]
  have e2 : (vs ++ [v2]).getD R.length undef = v2 := by simp [← hvl]
  have f1 : ∀ i, i < R.length → (R ++ [x]).getD i [] = R.getD i [] := fun i hi => by
    rw [List.getD_eq_getElem?_getD, List.getD_eq_getElem?_getD, List.getElem?_append_left hi]
  have f2 : (R ++ [x]).getD R.length [] = x := by simp
  have h2lt : ∀ q, v2.ownBlock = some q → w.heap.size ≤ q ∧ q < w1.heap.size := fun q hq => World.ownsRow.lt hx q hq
  have hgne : ∀ q, q < w1.heap.size → v.ownBlock ≠ some q → g ≠ q := fun q hq hne e => by
    subst e
    rcases hat with h | h
    · exact hne h
    · omega
  have hlen : (R ++ [x]).length = R.length + 1 := by simp
  have hv2 : ∀ q, v2.ownBlock = some q → v.ownBlock ≠ some q := fun q hq hv => by
    have := owns_lt h1 q hv; have := h2lt q hq; omega
  refine ⟨vs ++ [v2], by rw [hlen]; exact hown, fun i hi => ?_, fun k hk => ?_, fun q hq => ?_, fun i hi q hq => ?_, fun i j hi hj hij q hq hq' => ?_⟩
  · rw [hlen] at hi
    by_cases hir : i < R.length
    · rw [e1 i hir, f1 i hir]
      exact owns_of_heap (h2 i hir) fun q hq => (hfr q (by have := owns_lt (h2 i hir) q hq; omega) (h5 i hir q hq).2).trans (hB.block q (owns_lt (h2 i hir) q hq))
    · obtain rfl : i = R.length := by omega
      rw [e2, f2]
      exact owns_zero (owns_of_heap hx fun q hq => hfr q (h2lt q hq).2 (hv2 q hq))
  · simp only [List.mem_cons, List.mem_append] at hk
    rcases hk with rfl | hk | hk
    · exact hg
    · have := h2lt k (mem_ownL.1 hk); omega
    · have := h3 k hk; omega
  · cases hq; simp
  · rw [hlen] at hi
    by_cases hir : i < R.length
    · rw [e1 i hir] at hq
      refine ⟨by simp [(h5 i hir q hq).1], fun he => ?_⟩
      exact hgne q (by have := owns_lt (h2 i hir) q hq; omega) (h5 i hir q hq).2 (Option.some.inj he)
    · obtain rfl : i = R.length := by omega
      rw [e2] at hq
      refine ⟨by simp [mem_ownL.2 hq], fun he => ?_⟩
      exact hgne q (h2lt q hq).2 (hv2 q hq) (Option.some.inj he)
  · rw [hlen] at hi hj
    by_cases hir : i < R.length <;> by_cases hjr : j < R.length
    · rw [e1 i hir] at hq; rw [e1 j hjr] at hq'
      exact h6 i j hir hjr hij q hq hq'
    · obtain rfl : j = R.length := by omega
      rw [e1 i hir] at hq; rw [e2] at hq'
      have := owns_lt (h2 i hir) q hq; have := h2lt q hq'; omega
    · obtain rfl : i = R.length := by omega
      rw [e2] at hq; rw [e1 j hjr] at hq'
      have := owns_lt (h2 j hjr) q hq'; have := h2lt q hq; omega
    · omega
end Go.Proofs.YtifjjcenmilohaaDoor
