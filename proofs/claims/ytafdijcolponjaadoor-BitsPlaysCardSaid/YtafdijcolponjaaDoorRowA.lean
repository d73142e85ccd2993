/- Arguments that are slices of {int, int, []int}, opened to their cells. No condition but those in each statement. -/
import Derived.Test.YtafdijcolponjaaDoorBitsS
import Derived.OpenShut
namespace Go.Proofs.YtafdijcolponjaaDoor
open Go.RowKit Go.ChangeShapes Go.WideShapes Go.Deep

theorem open_rowA {H : Type} {enc : TypeId × Value → H} {P : Program} {w : World} {base : Nat} {held : Bool}
    {t e ti ts : TypeId} {fs : Array Field} {fuel : Nat} {a : Option Addr} {len cap : Nat} {x : DataW H × List MemPlace} (ht : P.underlying t = some (.slice e)) (he : P.underlying e = some (.struct fs))
    (hone : oneCellFields P fs = true) (hC : P.cellsOf e = fs.size) (h3 : fs.size = 3) (hi : P.underlying ti = some (.int .i64)) (hs : P.underlying ts = some (.slice ti)) (hci : P.cellsOf ti = 1)
    (hf : ∀ (j : Nat) (f : Field), fs[j]? = some f → f.type = (if j = 2 then ts else ti))
    (h : DataW.trod enc P w base (fun _ => true) held fuel t (Value.slice a len cap).cells.toList = some x) : ∃ zs vs ls, IsRowA w a len cap zs vs ls := by
  rcases open_slice_fields ht he hone hC h with ⟨hcs, _⟩ | ⟨x, l, c, m, D, Pl, hcs, _, hl, hm, hmm, _, hcell⟩
  · simp [Value.cells] at hcs
    obtain ⟨rfl, rfl, rfl⟩ := hcs
    exact ⟨fun _ _ => 0, fun _ => .slice none 0 0, fun _ => [], .inl ⟨rfl, rfl, rfl⟩⟩
  · simp [Value.cells] at hcs
    obtain ⟨rfl, rfl, rfl⟩ := hcs
    have hlm : len ≤ m := by rw [hmm]; split <;> omega
    have hz : ∀ i : Nat, ∃ q : Int × Int × Value × List Int, i < len → (w.cell? (x.add (i * 3 + 0)) = some (.int .i64 q.1) ∧ (Lit.int .i64 q.1).wf = true) ∧ (w.cell? (x.add (i * 3 + 1)) = some (.int .i64 q.2.1) ∧ (Lit.int .i64 q.2.1).wf = true) ∧
        w.cell? (x.add (i * 3 + 2)) = some q.2.2.1 ∧ ∃ aL lL cL, q.2.2.1 = .slice aL lL cL ∧ IsRow .i64 w aL lL cL q.2.2.2 := by
      intro i
      by_cases hil : i < len
      · obtain ⟨ys, n, _, _, _, hfj⟩ := hcell i (by omega)
        have hint : ∀ j : Nat, j < 2 → ∃ z : Int, w.cell? (x.add (i * 3 + j)) = some (.int .i64 z) ∧ (Lit.int .i64 z).wf = true := by
          intro j hj
          have hjs : j < fs.size := by omega
          obtain ⟨v, y, hc, _, hy⟩ := hfj j fs[j] (by simp [hjs])
          rw [hf j fs[j] (by simp [hjs]), if_neg (by omega)] at hy
          obtain ⟨q, hq, _, hwf⟩ := DataW.trod_int hi hy
          simp only [List.cons.injEq, and_true] at hq
          subst hq
          rw [h3] at hc
          exact ⟨q, hc, hwf⟩
        obtain ⟨z0, h0⟩ := hint 0 (by decide)
        obtain ⟨z1, h1⟩ := hint 1 (by decide)
        have hjs : 2 < fs.size := by omega
        obtain ⟨v, y, hc, _, hy⟩ := hfj 2 fs[2] (by simp [hjs])
        rw [hf 2 fs[2] (by simp [hjs]), if_pos rfl] at hy
        rw [h3] at hc
        rcases open_ints hs hi hci hy with ⟨hcs, _⟩ | ⟨x', l', c', zs, hcs, _, hl', hm', hz', _, hcell', hwz⟩
        · simp only [List.cons.injEq, and_true] at hcs
          subst hcs
          exact ⟨(z0, z1, _, []), fun _ => ⟨h0, h1, hc, none, 0, 0, rfl, .inl ⟨rfl, rfl, rfl, rfl⟩⟩⟩
        · simp only [List.cons.injEq, and_true] at hcs
          subst hcs
          exact ⟨(z0, z1, _, zs), fun _ => ⟨h0, h1, hc, some x', l', c', rfl, .inr ⟨_, rfl, hl', hm', by simpa using hz', hcell', hwz⟩⟩⟩
      · exact ⟨(0, 0, .slice none 0 0, []), fun hh => absurd hh hil⟩
    refine ⟨fun i j => if j = 0 then (hz i).choose.1 else (hz i).choose.2.1, fun i => (hz i).choose.2.2.1, fun i => (hz i).choose.2.2.2, .inr ⟨x, rfl, hl, hm, fun i hi => ?_⟩⟩
    exact (hz i).choose_spec hi
end Go.Proofs.YtafdijcolponjaaDoor
