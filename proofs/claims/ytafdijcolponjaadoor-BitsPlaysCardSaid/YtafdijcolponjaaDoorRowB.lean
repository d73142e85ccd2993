/- Whole arrays and structs by value: made, stored, loaded. No program is walked here; no condition but those in each statement. -/
import Derived.Test.YtafdijcolponjaaDoorRow
import Derived.Deep.WholeRow
import Derived.Laws.NewBlocks
namespace Go.Proofs.YtafdijcolponjaaDoor
open Go.RowKit
variable {P : Program}

/-- A variable of a type whose zero value is known: a new block. -/
theorem wpList_alloc_zero {ops : Array Oper} {rest : List Oper} {op : Oper} {a : Act} {w : World} {Q : Exit → Act → World → Prop} (hgd : op.guard = none) (ty : TypeId) (ho : op.op = .alloc ty)
    (cs : Array Value) (hz : ∀ w, (zeroValue ty).run P w = .ok (.agg cs) w)
    (h : wpList P ops Q rest (a.put op.dst (.pointer (some ⟨w.heap.size, 0, none⟩))) (w.alloc (.cells cs ty))) : wpList P ops Q (op :: rest) a w :=
  wpList_plain hgd fun _ hK => by
    unfold Oper.wp execOp
    simp only [ho, Instr.alloc, Sem.run_bind, Sem.run_pure, Result.andThen_ok, hz]
    exact hK _ _ h

theorem wpList_build_none {ops : Array Oper} {rest : List Oper} {op : Oper} {a : Act} {w : World} {Q : Exit → Act → World → Prop} (hgd : op.guard = none) (ty : TypeId) (ho : op.op = .build ty #[])
    (cs : Array Value) (hz : P.built ty [] = some cs)
    (h : wpList P ops Q rest (a.put op.dst (.agg cs)) w) : wpList P ops Q (op :: rest) a w :=
  wpList_build hgd ty #[] ho (by simp [hz]) (by simpa [hz] using h)

theorem setRow_chg (w : World) (b : Nat) (cs : Array Value) : Chg (· = b) w (w.setRow b cs) := by
  refine ⟨rfl, rfl, rfl, by simp [World.setRow], fun k _ hk => ?_⟩
  simp only [World.setRow, Array.getElem?_modify]
  rw [if_neg (fun e => hk e.symm)]

/-- A whole row or struct into its block. -/
theorem wpList_store_whole {ops : Array Oper} {rest : List Oper} {op : Oper} {a : Act} {w : World} {Q : Exit → Act → World → Prop} (hgd : op.guard = none) (ty : TypeId) (x y : Operand) (ho : op.op = .store ty x y)
    (b : Nat) (old cs : Array Value) (t : TypeId) (hx : a.eval x = .pointer (some ⟨b, 0, none⟩)) (hy : a.eval y = .agg cs) (hg : w.heap[b]? = some (.cells old t (0, 0))) (hi : (P.info? ty).map (·.size) = some cs.size)
    (hold : old.size = cs.size) (h1 : cs.all (·.oneCell') = true)
    (h : ∀ w', w'.heap[b]? = some (.cells cs t (0, 0)) → Chg (· = b) w w' → wpList P ops Q rest (a.put op.dst undef) w') : wpList P ops Q (op :: rest) a w :=
  wpList_plain hgd fun _ hK => wp_store_row ty x y ho b cs hx hy t old hg hi hold h1 (hK _ _ (h _ (setRow_heap w b old cs t (0, 0) hg) (setRow_chg w b cs)))

/-- A whole row or struct out of its block. -/
theorem wpList_load_whole {ops : Array Oper} {rest : List Oper} {op : Oper} {a : Act} {w : World} {Q : Exit → Act → World → Prop} (hgd : op.guard = none) (ty : TypeId) (x : Operand) (ho : op.op = .load ty x)
    (b : Nat) (cs : Array Value) (t : TypeId) (d : TypeDesc) (hx : a.eval x = .pointer (some ⟨b, 0, none⟩)) (hg : w.heap[b]? = some (.cells cs t (0, 0))) (hu : P.underlying ty = some d) (hd : d.isRow = true) (hi : (P.info? ty).map (·.size) = some cs.size)
    (h : wpList P ops Q rest (a.put op.dst (.agg cs)) w) : wpList P ops Q (op :: rest) a w := by
  have hr : w.rangeAt b 0 cs.toList := fun j v hj => by
    rw [Nat.zero_add]
    exact cell_at j hg (by simpa using hj)
  exact wpList_load_mid hgd ty x ho b 0 hx cs.toList d hr hu hd (by simpa using hi) h
end Go.Proofs.YtafdijcolponjaaDoor
