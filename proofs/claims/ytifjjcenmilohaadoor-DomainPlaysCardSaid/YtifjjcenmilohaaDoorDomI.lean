/- The lists that were, in memory, apart from a domain. No program is walked here; no condition but those in each statement. -/
import Derived.Test.YtifjjcenmilohaaDoorDomH
import Derived.Deep.AppendLies
namespace Go.Proofs.YtifjjcenmilohaaDoor
open Go.RowKit

/-- A row of k lists of integers, none of whose blocks is in F. -/
def WasAt (w : World) (vw : Value) (k : Nat) (L : Nat → List Nat) (F : List Nat) : Prop :=
  ∃ vs : List Value, w.ownsRow 0 22 1 vw k vs ∧ (∀ v, v < k → w.ownsRow 0 3 1 (vs.getD v undef) (L v).length (intl (natI (L v)))) ∧ (∀ q, vw.ownBlock = some q → q ∉ F) ∧
    (∀ v, v < k → ∀ q, (vs.getD v undef).ownBlock = some q → q ∉ F ∧ vw.ownBlock ≠ some q)

theorem WasAt.chg {w w' : World} {vw : Value} {k : Nat} {L : Nat → List Nat} {F F' : List Nat} (h : WasAt w vw k L F) (hC : Chg (· ∈ F) w w') (hF : ∀ q ∈ F', q ∈ F ∨ w.heap.size ≤ q) : WasAt w' vw k L F' := by
  obtain ⟨vs, h1, h2, h3, h4⟩ := h
  refine ⟨vs, owns_chg h1 hC (fun q hq => h3 q (mem_ownL.1 hq)), fun v hv => owns_chg (h2 v hv) hC (fun q hq => (h4 v hv q (mem_ownL.1 hq)).1), fun q hq hf => ?_, fun v hv q hq => ⟨fun hf => ?_, (h4 v hv q hq).2⟩⟩
  · rcases hF q hf with h | h
    · exact h3 q hq h
    · have := owns_lt h1 q hq; omega
  · rcases hF q hf with h | h
    · exact (h4 v hv q hq).1 h
    · have := owns_lt (h2 v hv) q hq; omega
theorem WasAt.below {w w' : World} {vw : Value} {k : Nat} {L : Nat → List Nat} {F : List Nat} (h : WasAt w vw k L F) (hB : Below w.heap.size w w') : WasAt w' vw k L F := by
  obtain ⟨vs, h1, h2, h3, h4⟩ := h
  exact ⟨vs, owns_of_heap h1 fun q hq => hB.block q (owns_lt h1 q hq), fun v hv => owns_of_heap (h2 v hv) fun q hq => hB.block q (owns_lt (h2 v hv) q hq), h3, h4⟩
theorem WasAt.start (w : World) (L : Nat → List Nat) (F : List Nat) {vw : Value} (h : w.ownsRow 0 22 1 vw 0 []) (hF : ∀ q, vw.ownBlock = some q → q ∉ F) : WasAt w vw 0 L F :=
  ⟨[], h, fun v hv => absurd hv (Nat.not_lt_zero v), hF, fun v hv => absurd hv (Nat.not_lt_zero v)⟩

/-- One list more. -/
theorem WasAt.push {w w1 w3 : World} {vw v2 : Value} {k g c : Nat} {L : Nat → List Nat} {F : List Nat} {vs : List Value} (h1 : w.ownsRow 0 22 1 vw k vs)
    (hl : ∀ v, v < k → w.ownsRow 0 3 1 (vs.getD v undef) (L v).length (intl (natI (L v)))) (h3 : ∀ q, vw.ownBlock = some q → q ∉ F)
    (h4 : ∀ v, v < k → ∀ q, (vs.getD v undef).ownBlock = some q → q ∉ F ∧ vw.ownBlock ≠ some q) (hFlt : ∀ q ∈ F, q < w.heap.size) (hB : Below w.heap.size w w1)
    (h2 : w1.ownsRow w.heap.size 3 1 v2 (L k).length (intl (natI (L k)))) (o : Obj) (hgrow : (w1.alloc o).grownBy w3 vw.ownBlock) (hat : vw.ownBlock = some g ∨ g = (w1.alloc o).heap.size)
    (hown : w3.ownsRow 0 22 1 (.slice (some ⟨g, 0, none⟩) (k + 1) c) (k + 1) (vs ++ [v2])) : WasAt w3 (.slice (some ⟨g, 0, none⟩) (k + 1) c) (k + 1) L F := by
  have hz := hB.size
  have hza : (w1.alloc o).heap.size = w1.heap.size + 1 := by simp
  have hvl : vs.length = k := by have := h1.1; omega
  have hfr : ∀ q, q < w1.heap.size → vw.ownBlock ≠ some q → w3.heap[q]? = w1.heap[q]? := fun q hq hne => (hgrow.block q (by omega) (fun e => hne e.symm)).trans (heap_alloc_lt hq)
  have hgF : g ∉ F := fun hf => by
    rcases hat with h | h
    · exact h3 g h hf
    · have := hFlt g hf; omega
  have e1 : ∀ v, v < k → (vs ++ [v2]).getD v undef = vs.getD v undef := fun v hv => by
    rw [List.getD_eq_getElem?_getD, List.getD_eq_getElem?_getD, List.getElem?_append_left (by omega)]
  have e2 : (vs ++ [v2]).getD k undef = v2 := by simp [← hvl]
  have h2lt : ∀ q, v2.ownBlock = some q → w.heap.size ≤ q ∧ q < w1.heap.size := fun q hq => World.ownsRow.lt h2 q hq
  have h2ne : ∀ q, v2.ownBlock = some q → vw.ownBlock ≠ some q := fun q hq hv => by
    have := owns_lt h1 q hv
    have := h2lt q hq
    omega
  refine ⟨vs ++ [v2], hown, fun v hv => ?_, fun q hq => ?_, fun v hv q hq => ?_⟩
  · by_cases hvk : v < k
    · rw [e1 v hvk]
      exact owns_of_heap (hl v hvk) fun q hq => (hfr q (by have := owns_lt (hl v hvk) q hq; omega) (h4 v hvk q hq).2).trans (hB.block q (owns_lt (hl v hvk) q hq))
    · have e : v = k := by omega
      subst e
      rw [e2]
      exact owns_zero (owns_of_heap h2 fun q hq => hfr q (h2lt q hq).2 (h2ne q hq))
  · cases hq; exact hgF
  · by_cases hvk : v < k
    · rw [e1 v hvk] at hq
      refine ⟨(h4 v hvk q hq).1, fun he => ?_⟩
      have e3 : g = q := Option.some.inj he
      subst e3
      rcases hat with h | h
      · exact (h4 v hvk _ hq).2 h
      · have := owns_lt (hl v hvk) _ hq
        omega
    · have e : v = k := by omega
      subst e
      rw [e2] at hq
      refine ⟨fun hf => ?_, fun he => ?_⟩
      · have := h2lt q hq
        have := hFlt q hf
        omega
      · have e3 : g = q := Option.some.inj he
        subst e3
        rcases hat with h | h
        · exact h2ne _ hq h
        · have := h2lt _ hq
          omega

/-- A list, read. -/
theorem WasAt.get {w : World} {vw : Value} {k : Nat} {L : Nat → List Nat} {F : List Nat} (h : WasAt w vw k L F) {v : Nat} (hv : v < k) :
    ∃ g c x, vw = .slice (some ⟨g, 0, none⟩) k c ∧ k ≤ 9223372036854775807 ∧ w.cell? ⟨g, v, none⟩ = some x ∧ w.ownsRow 0 3 1 x (L v).length (intl (natI (L v))) := by
  obtain ⟨vs, h1, h2, -, -⟩ := h
  rcases owns_shape h1 with ⟨_, h0⟩ | ⟨g, c, rfl, hc, hm⟩
  · omega
  · unfold maxLen at hm
    refine ⟨g, c, _, rfl, by omega, ?_, h2 v hv⟩
    rw [h1.cellAt v (by omega)]
    have := h1.1
    rw [List.getD_eq_getElem?_getD, List.getElem?_eq_getElem (by omega)]; rfl

theorem bitL_ne {x : Nat} (h1 : 1 ≤ x) (h2 : x < 2 ^ 60) : (bitL x).length ≠ 0 := by
  rw [bitL_step x (by omega) (by omega)]; simp
theorem infoInts : (Tryd.prog.info? 22).map (fun i => (i.zero, i.size, i.bytes)) = some (some (.slice none 0 0), 1, 24) := by kernel_rfl
theorem slice_one (v : Value) (h : ∃ a n c, v = .slice a n c) : ∀ u ∈ [v], u.oneCell' = true := by
  intro u hu
  obtain ⟨a, n, c, rfl⟩ := h
  simp at hu
  subst hu; rfl
end Go.Proofs.YtifjjcenmilohaaDoor
