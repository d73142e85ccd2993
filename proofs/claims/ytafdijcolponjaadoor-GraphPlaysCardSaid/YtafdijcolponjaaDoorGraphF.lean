/- A graph in memory behind changes elsewhere, and behind what one round of Undo writes. No program is walked here; no condition but those in each statement. -/
import Derived.Test.YtafdijcolponjaaDoorGraphE
namespace Go.Proofs.YtafdijcolponjaaDoor
open Go.RowKit

theorem GraphAt.frame {w w' : World} {b : Nat} {F : List Nat} {G : GM} (h : GraphAt w b F G) (hb : ∀ k ∈ F, w'.heap[k]? = w.heap[k]?) : GraphAt w' b F G := by
  obtain ⟨vt, vf, vl, ts, fs, h1, ht, hf, hl, hts, hfs, hT, hR, hok, rfl, hN⟩ := h
  refine ⟨vt, vf, vl, ts, fs, (hb b (by simp)).trans h1, owns_of_heap ht fun k hk => hb k ?_, owns_of_heap hf fun k hk => hb k ?_, owns_of_heap hl fun k hk => hb k ?_, hts, hfs, fun i hi => ⟨(hb _ ?_).trans (hT i hi).1, (hT i hi).2⟩, fun i hi => ⟨(hb _ ?_).trans (hR i hi).1, (hR i hi).2⟩, hok, rfl, hN⟩
  · simp [mem_ownL.2 hk]
  · simp [mem_ownL.2 hk]
  · simp [mem_ownL.2 hk]
  · have := mem_getD (l := ts) (i := i) (by omega)
    simp only [List.mem_cons, List.mem_append]
    exact .inr (.inl (.inr this))
  · have := mem_getD (l := fs) (i := i) (by omega)
    simp only [List.mem_cons, List.mem_append]
    exact .inr (.inr this)

theorem GraphAt.alloc {w : World} {b : Nat} {F : List Nat} {G : GM} (h : GraphAt w b F G) (o : Obj) : GraphAt (w.alloc o) b F G :=
  h.frame fun k hk => heap_alloc_lt (graph_lt h k hk)
theorem GraphAt.drew {w : World} {b : Nat} {F : List Nat} {G : GM} (h : GraphAt w b F G) : GraphAt w.drew b F G := h
theorem GraphAt.drewN {w : World} {b : Nat} {F : List Nat} {G : GM} (h : GraphAt w b F G) (n : Nat) : GraphAt (w.drewN n) b F G := h
theorem GraphAt.below {w w' : World} {b : Nat} {F : List Nat} {G : GM} (h : GraphAt w b F G) {B : Nat} (hb : Below B w w') (hB : w.heap.size ≤ B) : GraphAt w' b F G :=
  h.frame fun k hk => hb.block k (Nat.lt_of_lt_of_le (graph_lt h k hk) hB)

theorem edgeCells_append (L : List (Nat × Nat)) (x : Nat × Nat) : edgeCells (L ++ [x]) = edgeCells L ++ [.int .i64 (x.1 : Int), .int .i64 (x.2 : Int)] := by simp [edgeCells]
theorem edgeCells_len (L : List (Nat × Nat)) : (edgeCells L).length = L.length * 2 := by
  induction L with
  | nil => rfl
  | cons x L ih => simp only [edgeCells, List.flatMap_cons, List.length_append, List.length_cons, List.length_nil] at ih ⊢; omega
end Go.Proofs.YtafdijcolponjaaDoor
