/- Arguments that are slices of structs of integers, opened to their cells. No condition but those in each statement. -/
import Derived.Test.YtifjjcenmilohaaDoorInts
import Derived.Deep.Slices
import Derived.Deep.Fields
import Derived.ChangeSame
namespace Go.Proofs.YtifjjcenmilohaaDoor
open Go.RowKit Go.ChangeShapes Go.WideShapes Go.Deep

section
variable {H : Type} {enc : TypeId × Value → H} {P : Program} {w : World} {base : Nat} {spare : Nat → Bool} {held : Bool}
theorem open_slice_fields {t e : TypeId} {fs : Array Field} {fuel : Nat} {cs : List Value} {x : DataW H × List MemPlace} (ht : P.underlying t = some (.slice e)) (he : P.underlying e = some (.struct fs))
    (hone : oneCellFields P fs = true) (hC : P.cellsOf e = fs.size) (h : DataW.trod enc P w base spare held fuel t cs = some x) :
    (cs = [.slice none 0 0] ∧ x = (.nil, [])) ∨
    ∃ (a : Addr) (len cap m : Nat) (D : Nat → DataW H) (Pl : Nat → List MemPlace), cs = [.slice (some a) len cap] ∧ base ≤ a.block ∧ len ≤ cap ∧ cap ≤ maxLen ∧ m = (if spare a.block then cap else len) ∧
      x = (.slice ((List.range len).map D) ((List.range (m - len)).map fun j => D (len + j)), MemPlace.row a (m * fs.size) ++ (List.range m).flatMap Pl) ∧
      ∀ i, i < m → ∃ (ys : List (DataW H × List MemPlace)) (n : Nat), D i = .agg (ys.map (·.1)) ∧ Pl i = ys.flatMap (·.2) ∧ ys.length = fs.size ∧
        ∀ (j : Nat) (f : Field), fs[j]? = some f → ∃ (v : Value) (y : DataW H × List MemPlace), w.cell? (a.add (i * fs.size + j)) = some v ∧ ys[j]? = some y ∧ DataW.trod enc P w base spare held n f.type [v] = some y := by
  rcases open_slice ht h with h0 | ⟨a, len, cap, m, n, D, Pl, hcs, hb, hl, hm, hmm, hx, hi⟩
  · exact .inl h0
  · refine .inr ⟨a, len, cap, m, D, Pl, hcs, hb, hl, hm, hmm, by rw [hC] at hx; exact hx, fun i him => ?_⟩
    obtain ⟨cs', hc, ht'⟩ := hi i him
    rw [hC] at hc
    obtain ⟨ys, n', hn', hy, hlen, hyl, hf⟩ := DataW.trod_struct he ht'
    obtain ⟨_, hcl, hat⟩ := World.cells?_some hc
    simp only [Prod.mk.injEq] at hy
    refine ⟨ys, n', hy.1, hy.2, hyl, fun j f hj => ?_⟩
    obtain ⟨ho, hk⟩ := hone_of hone j f hj
    have hjl : j < fs.size := (Array.getElem?_eq_some_iff.1 hj).1
    have hcell := hat j hjl
    have hv : cs'[j]? = some (cs'[j]'(by omega)) := List.getElem?_eq_getElem (by omega)
    have h1 := hf j f hj
    rw [ho, hk] at h1
    have hone' : (cs'.drop j).take 1 = [cs'[j]'(by omega)] := by
      rw [List.drop_eq_getElem_cons (by omega)]
      rfl
    rw [hone'] at h1
    have hys : ys[j]? = some (ys[j]'(by omega)) := List.getElem?_eq_getElem (by omega)
    refine ⟨_, _, ?_, hys, h1.trans hys⟩
    rw [← Go.Deep.add_add, hcell, hv]
end

/-- A slice of structs of m integers each, that came in. -/
def IsRowS (m : Nat) (w : World) (a : Option Addr) (len cap : Nat) (zs : Nat → Nat → Int) : Prop :=
  (a = none ∧ len = 0 ∧ cap = 0) ∨
  ∃ x, a = some x ∧ len ≤ cap ∧ cap ≤ maxLen ∧ ∀ i, i < len → ∀ j, j < m → w.cell? (x.add (i * m + j)) = some (.int .i64 (zs i j)) ∧ (Lit.int .i64 (zs i j)).wf = true

theorem open_rowS {H : Type} {enc : TypeId × Value → H} {P : Program} {w : World} {base : Nat} {spare : Nat → Bool} {held : Bool}
    {t e ti : TypeId} {fs : Array Field} {fuel : Nat} {a : Option Addr} {len cap : Nat} {x : DataW H × List MemPlace} (ht : P.underlying t = some (.slice e)) (he : P.underlying e = some (.struct fs))
    (hone : oneCellFields P fs = true) (hC : P.cellsOf e = fs.size) (hi : P.underlying ti = some (.int .i64)) (hf : ∀ (j : Nat) (f : Field), fs[j]? = some f → f.type = ti)
    (h : DataW.trod enc P w base spare held fuel t (Value.slice a len cap).cells.toList = some x) : ∃ zs, IsRowS fs.size w a len cap zs := by
  rcases open_slice_fields ht he hone hC h with ⟨hcs, _⟩ | ⟨x, l, c, m, D, Pl, hcs, _, hl, hm, hmm, _, hcell⟩
  · simp [Value.cells] at hcs
    obtain ⟨rfl, rfl, rfl⟩ := hcs
    exact ⟨fun _ _ => 0, .inl ⟨rfl, rfl, rfl⟩⟩
  · simp [Value.cells] at hcs
    obtain ⟨rfl, rfl, rfl⟩ := hcs
    have hlm : len ≤ m := by rw [hmm]; split <;> omega
    have hz : ∀ i j : Nat, ∃ z : Int, i < len → j < fs.size → w.cell? (x.add (i * fs.size + j)) = some (.int .i64 z) ∧ (Lit.int .i64 z).wf = true := by
      intro i j
      by_cases hij : i < len ∧ j < fs.size
      · obtain ⟨hil, hjs⟩ := hij
        obtain ⟨ys, n, _, _, _, hfj⟩ := hcell i (by omega)
        obtain ⟨v, y, hc, _, hy⟩ := hfj j fs[j] (by simp [hjs])
        rw [hf j fs[j] (by simp [hjs])] at hy
        obtain ⟨q, hq, _, hwf⟩ := DataW.trod_int hi hy
        simp only [List.cons.injEq, and_true] at hq
        subst hq
        exact ⟨q, fun _ _ => ⟨hc, hwf⟩⟩
      · exact ⟨0, fun h1 h2 => absurd ⟨h1, h2⟩ hij⟩
    exact ⟨fun i j => (hz i j).choose, .inr ⟨x, rfl, hl, hm, fun i hi j hj => (hz i j).choose_spec hi hj⟩⟩

theorem IsRowS.len_le {m : Nat} {w : World} {a : Option Addr} {len cap : Nat} {zs : Nat → Nat → Int} (h : IsRowS m w a len cap zs) : len ≤ cap ∧ cap ≤ 9223372036854775807 := by
  rcases h with ⟨rfl, rfl, rfl⟩ | ⟨x, rfl, hl, hm, hc⟩
  · exact ⟨Nat.le_refl _, by omega⟩
  · exact ⟨hl, by unfold maxLen at hm; omega⟩

/-- Its cells, at a plain address. -/
theorem IsRowS.at {m : Nat} {w : World} {a : Option Addr} {len cap : Nat} {zs : Nat → Nat → Int} (h : IsRowS m w a len cap zs) (hm : 0 < m) {i : Nat} (hi : i < len) :
    ∃ b o, a = some ⟨b, o, none⟩ ∧ b < w.heap.size ∧ ∀ k, k < len → ∀ j, j < m → w.cell? ⟨b, o + (k * m + j), none⟩ = some (.int .i64 (zs k j)) ∧ (Lit.int .i64 (zs k j)).wf = true := by
  rcases h with ⟨rfl, rfl, rfl⟩ | ⟨x, rfl, hl, hcap, hc⟩
  · omega
  · obtain ⟨b, o, s⟩ := x
    have h0 := (hc 0 (by omega) 0 hm).1
    have hs : s = none := by
      cases s with
      | none => rfl
      | some q => simp [World.cell?, Addr.add] at h0; split at h0 <;> simp at h0
    subst hs
    refine ⟨b, o, rfl, World.block_lt_of_cell? w ⟨b, o, none⟩ (by simpa [Addr.add] using h0), fun k hk j hj => ?_⟩
    have := hc k hk j hj
    unfold Addr.add at this
    split at this
    · rename_i e; rw [e, Nat.add_zero]; exact this
    · exact this
end Go.Proofs.YtifjjcenmilohaaDoor
