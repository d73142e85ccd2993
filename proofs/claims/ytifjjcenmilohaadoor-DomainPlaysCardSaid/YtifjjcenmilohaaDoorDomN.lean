/- The contracts of the document's Drop, Only, Open. Conditions: rows of 1 to 60 truths, at most 200. -/
import Derived.Test.YtifjjcenmilohaaDoorDomM
namespace Go.Proofs.YtifjjcenmilohaaDoor
open Go.RowKit

theorem DRefAt.set {w : World} {r : Nat} {vI vT : Value} {F0 F : List Nat} {R : List (List Bool)} {hs : List KeptR} (h : DRefAt w r vI vT F0 F R hs) {i k : Nat} (hi : i < R.length) (hk : k < (R.getD i []).length) :
    ∃ g c q cc, vI = .slice (some ⟨g, 0, none⟩) R.length c ∧ R.length ≤ c ∧ c ≤ 9223372036854775807 ∧ w.cell? ⟨g, i, none⟩ = some (.slice (some ⟨q, 0, none⟩) (R.getD i []).length cc) ∧ (R.getD i []).length ≤ cc ∧ cc ≤ 9223372036854775807 ∧
      w.cell? ⟨q, k, none⟩ = some (.bool ((R.getD i []).getD k false)) ∧ w.frozen? ⟨q, k, none⟩ = false ∧ q ∈ F ∧ ∀ b : Bool, DRefAt (w.setCell ⟨q, k, none⟩ (.bool b)) r vI vT F0 F (R.set i ((R.getD i []).set k b)) hs := by
  obtain ⟨g, c, q, cc, e1, e2, e3, e4, e5, e6, e7, e8, hq, hset⟩ := h.now.cell hi hk
  obtain ⟨hqF, hqr, hqh⟩ := h.nF q hq
  refine ⟨g, c, q, cc, e1, e2, e3, e4, e5, e6, e7, e8, hqF, fun b => ⟨(heap_set_ne k _ (fun e => hqr e.symm)).trans h.at_, hset b, ?_, ?_, ?_, h.rF, h.tF, h.nF, h.hF, h.hD⟩⟩
  · exact owns_of_heap h.thn fun q' hq' => heap_set_ne k _ (by rintro rfl; exact (h.tF _ hq').2.2.1 hq)
  · exact fun x hx => (h.kept x hx).frame (fun k' hk' => heap_set_ne k _ (by rintro rfl; exact hqh x hx hk')) (by simp [World.setCell])
  · intro k' hk'
    have := h.lt k' hk'
    simpa [World.setCell] using this

def dropR (R : List (List Bool)) (v k : Int) : Int × List (List Bool) :=
  if thereB R v k = true then (if (leftB R v).length = 1 ∧ ((leftB R v).getD 0 0 : Int) = k then (3, R) else (0, R.set v.toNat ((R.getD v.toNat []).set k.toNat false))) else (2, R)
theorem list_cell {w : World} {base n : Nat} {v : Value} {l : List Nat} (h : w.ownsRow base 3 1 v n (intl (natI l))) {i : Nat} (hi : i < l.length) (hn : n = l.length) :
    ∃ g c, v = .slice (some ⟨g, 0, none⟩) n c ∧ n ≤ c ∧ c ≤ 9223372036854775807 ∧ w.cell? ⟨g, i, none⟩ = some (.int .i64 (l.getD i 0 : Nat)) := by
  rcases owns_shape h with ⟨rfl, h0⟩ | ⟨g, c, rfl, h1, h2⟩
  · omega
  · unfold maxLen at h2
    refine ⟨g, c, rfl, h1, h2, (h.cellAt i (by omega)).trans ?_⟩
    simp [intl, natI, hi]

set_option maxRecDepth 20000 in
theorem rdrop_any (r : Nat) (F : List Nat) (R : List (List Bool)) (hs : List KeptR) (v k : Int) (w : World) (h : DRef w r F R hs) (hR : RowsOk R) :
    Calls Tryd.prog 13 #[.pointer (some ⟨r, 0, none⟩), .int .i64 v, .int .i64 k] w (RDEnds r F (.int .i64 (dropR R v k).1) (dropR R v k).2 hs w) := by
  have HT := Lib.hid (rthere_any r F R hs v k w h)
  have hl := rleft_any r F R hs v w h hR
  have HD := Lib.hid h
  unfold dropR
  by_cases ht : thereB R v k = true
  · rw [if_pos ht]
    rw [ht] at HT
    have hv : (0 ≤ v ∧ v < (R.length : Int)) ∧ 0 ≤ k ∧ k < ((R.getD v.toNat []).length : Int) := by
      unfold thereB at ht
      rw [Bool.and_eq_true] at ht
      exact ⟨of_decide_eq_true ht.1, of_decide_eq_true ht.2⟩
    obtain ⟨⟨hv0, hv1⟩, hk0, hk1⟩ := hv
    obtain ⟨i, rfl⟩ := Int.eq_ofNat_of_zero_le hv0
    obtain ⟨j, rfl⟩ := Int.eq_ofNat_of_zero_le hk0
    rw [Int.toNat_natCast] at hk1 ⊢
    rw [Int.toNat_natCast]
    have hi : i < R.length := by omega
    have hj : j < (R.getD i []).length := by omega
    unfold ListEnds at hl
    generalize leftB R (i : Nat) = l at *
    have HL := Lib.hid hl
    have HR := Lib.hid hR
    generalize hres : (if l.length = 1 ∧ ((l.getD 0 0 : Nat) : Int) = (j : Int) then ((3 : Int), R) else (0, R.set i ((R.getD i []).set j false))) = res
    have HRes := Lib.hid hres
    clear hl h hR ht hres
    go_enter Tryd.func13, Tryd.ntmps13
    go_wp2_with fail
    go_fit HT.out
    rintro e w' ⟨rfl, rfl⟩
    go_wp2_with fail
    go_fit HL.out
    rintro e w1 ⟨v1, rfl, hown, hB1⟩
    have hD1 := HD.out.below hB1 (Nat.le_refl _)
    have HD1 := Lib.hid hD1
    have HB1 := Lib.hid hB1
    obtain ⟨vI, vT, F0, hA⟩ := hD1
    obtain ⟨g, c, q, cc, rfl, e2, e3, e4, e5, e6, e7, e8, hqF, hset⟩ := hA.set hi hj
    have c0 := cell_at 0 hA.at_ rfl
    have HSet : Hid (∀ b : Bool, DRef (w1.setCell ⟨q, j, none⟩ (.bool b)) r F (R.set i ((R.getD i []).set j b)) hs) := fun b => ⟨_, _, _, hset b⟩
    have HqF := Lib.hid hqF
    clear hset hA hB1 hqF
    have hfin : ∀ b : Bool, RDEnds r F (.int .i64 0) (R.set i ((R.getD i []).set j b)) hs w (.returned (.int .i64 0)) (w1.setCell ⟨q, j, none⟩ (.bool b)) := fun b =>
      ⟨rfl, F, HSet.out b, fun _ hk => .inl hk, (⟨HB1.out.os, HB1.out.tape, HB1.out.output, HB1.out.size, fun k hk _ => HB1.out.block k hk⟩ : Chg (· ∈ F) w w1).setCell (p := ⟨q, j, none⟩) (.inl HqF.out) _⟩
    have HFin := Lib.hid hfin
    clear hfin
    by_cases hl1 : l.length = 1
    · obtain ⟨gl, cl, rfl, b1, b2, d1⟩ := list_cell hown (i := 0) (by omega) rfl
      have hl1' := hl1
      rw [hl1'] at b1 ⊢
      clear hl1'
      generalize hy : l.getD 0 0 = y at *
      generalize R.getD i [] = x at *
      generalize R.length = n at *
      by_cases hyj : y = j
      · subst hyj
        have hres := HRes.out
        rw [if_pos ⟨hl1, by omega⟩] at hres
        subst hres
        clear hown hl1 hy HRes
        go_wp2_with fail
        go_ret
        exact rd_below HD.out HB1.out
      · have hres := HRes.out
        rw [if_neg (fun h => hyj (by omega))] at hres
        subst hres
        have hyj' : ((y : Int) == (j : Int)) = false := by simp; omega
        clear hown hl1 hy HRes
        go_wp2_with fail
        go_ret
        exact HFin.out false
    · have hres := HRes.out
      rw [if_neg (fun h => hl1 h.1)] at hres
      subst hres
      obtain ⟨al, cl, rfl⟩ := slice_form hown
      generalize R.getD i [] = x at *
      generalize R.length = n at *
      have hl2 : ((l.length : Int) == 1) = false := by simp; omega
      generalize l.length = m at *
      clear hown hl1 HRes
      go_wp2_with fail
      go_ret
      exact HFin.out false
  · rw [if_neg ht]
    have e : thereB R v k = false := by simpa using ht
    rw [e] at HT
    clear hl h hR ht e
    go_enter Tryd.func13, Tryd.ntmps13
    go_wp2_with fail
    go_fit HT.out
    rintro e w' ⟨rfl, rfl⟩
    go_wp2_with fail
    go_ret
    exact rd_idle HD.out
end Go.Proofs.YtifjjcenmilohaaDoor
