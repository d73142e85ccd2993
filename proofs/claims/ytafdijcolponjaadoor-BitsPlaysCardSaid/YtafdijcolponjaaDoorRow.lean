/- An array by value, indexed: a law for arrays of integers or booleans. No program is walked here; no condition but those in each statement. -/
import Derived.Test.YtafdijcolponjaaDoorRegion
import Derived.Deep.MidRow
namespace Go.Proofs.YtafdijcolponjaaDoor
open Go.RowKit
variable {P : Program}

/-- A type whose values are one cell. -/
def plainD : TypeDesc → Bool
  | .int _ | .bool => true
  | _ => false

theorem run_index_one (w : World) (ty e : TypeId) (n : Nat) (d : TypeDesc) (cs : Array Value) (k : Nat) (v : Value) (hu : P.underlying ty = some (.array n e)) (he : P.underlying e = some d) (hd : plainD d = true)
    (hi : (P.info? e).map (·.size) = some 1) (hk : k < n) (hv : cs[k]? = some v) : (Instr.index ty (.agg cs) (.int .i64 (k : Int))).run P w = .ok v w := by
  have hagg : (isAgg e).run P w = .ok false w := by
    unfold isAgg
    rw [Sem.run_bind, run_underlying he w]
    cases d <;> simp_all [plainD]
  cases hq : P.info? e with
  | none => simp [hq] at hi
  | some i =>
    have hs : i.size = 1 := by simpa [hq] using hi
    have h1 : (0 : Int) ≤ (k : Int) ∧ (k : Int) < (n : Int) := by omega
    simp [Instr.index, Sem.run_bind, asIntOf, run_underlying hu w, h1, hk, sizeOf, typeInfo, hq, hs, part, hagg, hv]

theorem wpList_index_one {ops : Array Oper} {rest : List Oper} {op : Oper} {a : Act} {w : World} {Q : Exit → Act → World → Prop} (hgd : op.guard = none) (ty : TypeId) (x ix : Operand) (ho : op.op = .index ty x ix)
    (e : TypeId) (n : Nat) (d : TypeDesc) (cs : Array Value) (k : Nat) (v : Value) (hx : a.eval x = .agg cs) (hix : a.eval ix = .int .i64 (k : Int))
    (hu : P.underlying ty = some (.array n e)) (he : P.underlying e = some d) (hd : plainD d = true)
    (hi : (P.info? e).map (·.size) = some 1) (hk : k < n) (hv : cs[k]? = some v)
    (h : wpList P ops Q rest (a.put op.dst v) w) : wpList P ops Q (op :: rest) a w :=
  wpList_plain hgd fun _ hK => by
    unfold Oper.wp execOp
    simp only [ho, hx, hix, Sem.run_bind, Sem.run_pure, Result.andThen_ok, run_index_one w ty e n d cs k v hu he hd hi hk hv]
    exact hK _ _ h
end Go.Proofs.YtafdijcolponjaaDoor
