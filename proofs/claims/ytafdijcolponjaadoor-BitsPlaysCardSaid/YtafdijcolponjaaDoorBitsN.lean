/- Whether two arrays of eight words are the same. No program is walked here; no condition but those in each statement. -/
import Derived.Test.YtafdijcolponjaaDoorBitsM
namespace Go.Proofs.YtafdijcolponjaaDoor
open Go.RowKit

theorem eight {ws : List Nat} (h : ws.length = 8) : ∃ a b c d e f g i, ws = [a, b, c, d, e, f, g, i] := by
  match ws, h with
  | [a, b, c, d, e, f, g, i], _ => exact ⟨a, b, c, d, e, f, g, i, rfl⟩
theorem lit_u64 {x : Nat} (h : x < 2 ^ 64) : (Lit.int .u64 (x : Int)).wf = true := by
  simp [Lit.wf, IntKind.min, IntKind.max, IntKind.bits, IntKind.signed]
  omega

theorem words_key {ws : List Nat} (h : ws.length = 8) (hb : ∀ x ∈ ws, x < 2 ^ 64) : Tryd.prog.keyLits 3 99 (words ws).toList = some (ws.map fun (x : Nat) => Lit.int .u64 (x : Int)) := by
  obtain ⟨a, b, c, d, e, f, g, i, rfl⟩ := eight h
  have hl : ∀ x ∈ [a, b, c, d, e, f, g, i], (Lit.int .u64 (x : Int)).wf = true := fun x hx => lit_u64 (hb x hx)
  simp only [List.mem_cons, List.not_mem_nil, or_false, forall_eq_or_imp, forall_eq] at hl
  obtain ⟨h1, h2, h3, h4, h5, h6, h7, h8⟩ := hl
  have c1 : Tryd.prog.cellsOf 99 = 8 := by kernel_rfl
  have c2 : Tryd.prog.cellsOf 98 = 1 := by kernel_rfl
  simp [Program.keyLits, words, Tryd.underlying99, Tryd.underlying98, c1, c2, List.range, List.range.loop, h1, h2, h3, h4, h5, h6, h7, h8]
theorem words_formed {ws : List Nat} (h : ws.length = 8) : (Value.agg (words ws)).formed Tryd.prog 99 = true := by
  obtain ⟨a, b, c, d, e, f, g, i, rfl⟩ := eight h
  have c1 : Tryd.prog.cellsOf 99 = 8 := by kernel_rfl
  simp [Value.formed, words, Tryd.underlying99, c1]

theorem words_same (x y : List Nat) (w : World) (hx : x.length = 8) (hy : y.length = 8) (bx : ∀ a ∈ x, a < 2 ^ 64) (b_y : ∀ a ∈ y, a < 2 ^ 64) :
    (Op.equalIn 10000 99 (.agg (words x)) (.agg (words y))).run Tryd.prog w = .ok (decide (x = y)) w := by
  have e3 : 9997 + 3 = 10000 := by decide
  have hk : Tryd.prog.keyTypeAt 3 99 = true := by kernel_rfl
  have hall := run_equalIn_deep (P := Tryd.prog) 9997 3 99 hk
  rw [e3] at hall
  obtain ⟨r, hr, hiff⟩ := hall w 3 3 (.agg (words x)) (.agg (words y)) _ _ (words_formed hx) (words_formed hy) (words_key hx bx) (words_key hy b_y)
  have hinj : (x.map fun (n : Nat) => Lit.int .u64 (n : Int)) = (y.map fun (n : Nat) => Lit.int .u64 (n : Int)) ↔ x = y := by
    exact List.map_inj_right fun a b hab => by
      have h2 : (a : Int) = (b : Int) := (Lit.int.inj hab).2
      omega
  have e : r = decide (x = y) := by
    rw [Bool.eq_iff_iff, hiff, hinj, decide_eq_true_iff]
  subst e
  exact hr
end Go.Proofs.YtafdijcolponjaaDoor
