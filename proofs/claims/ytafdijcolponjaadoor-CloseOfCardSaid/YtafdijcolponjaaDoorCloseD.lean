/- The contract of slices.DeleteFunc at edges that a call made. Conditions: those in each statement. -/
import Derived.Test.YtafdijcolponjaaDoorCloseC
import Derived.Lib.SliceRun
namespace Go.Proofs.YtafdijcolponjaaDoor
open Go.RowKit

def zL (E : List (Nat × Nat)) (i j : Nat) : Int := if j = 0 then ((E.getD i (0, 0)).1 : Nat) else ((E.getD i (0, 0)).2 : Nat)
theorem edgesIn_owns {w : World} {base n c : Nat} {a : Option Addr} {E : List (Nat × Nat)} (h : w.ownsRow base 61 2 (.slice a n c) n (edgeCells E)) : EdgesIn w a n (zL E) := by
  refine ⟨owns_max h, fun hn => ?_⟩
  obtain ⟨g, rfl, -⟩ := edges_at h hn
  refine ⟨g, rfl, owns_lt h g rfl, fun i hi => ?_⟩
  obtain ⟨g', hg', h1, h2⟩ := edges_at h hi
  cases hg'
  exact ⟨h1, h2⟩
theorem owns_len {w : World} {base n c : Nat} {a : Option Addr} {E : List (Nat × Nat)} (h : w.ownsRow base 61 2 (.slice a n c) n (edgeCells E)) : E.length = n := by
  have := h.1; rw [edgeCells_len] at this; omega
theorem edgeCells_set : ∀ (E : List (Nat × Nat)) (i : Nat) (e : Nat × Nat), ((edgeCells E).set (i * 2) (.int .i64 (e.1 : Int))).set (i * 2 + 1) (.int .i64 (e.2 : Int)) = edgeCells (E.set i e)
  | [], i, e => by simp [edgeCells]
  | x :: E, 0, e => rfl
  | x :: E, i + 1, e => by
    have ih := edgeCells_set E i e
    have e1 : edgeCells (x :: E) = .int .i64 (x.1 : Int) :: .int .i64 (x.2 : Int) :: edgeCells E := rfl
    have e2 : edgeCells ((x :: E).set (i + 1) e) = .int .i64 (x.1 : Int) :: .int .i64 (x.2 : Int) :: edgeCells (E.set i e) := rfl
    rw [e1, e2, show (i + 1) * 2 = i * 2 + 1 + 1 by omega]
    simp only [List.set_cons_succ]
    rw [ih]
theorem edgeCells_take (E : List (Nat × Nat)) (i : Nat) : (edgeCells E).take (i * 2) = edgeCells (E.take i) := by
  induction E generalizing i with
  | nil => simp [edgeCells]
  | cons x E ih =>
    cases i with
    | zero => simp [edgeCells]
    | succ i =>
      have e1 : edgeCells (x :: E) = .int .i64 (x.1 : Int) :: .int .i64 (x.2 : Int) :: edgeCells E := rfl
      have e2 : edgeCells ((x :: E).take (i + 1)) = .int .i64 (x.1 : Int) :: .int .i64 (x.2 : Int) :: edgeCells (E.take i) := rfl
      rw [e1, e2, show (i + 1) * 2 = i * 2 + 1 + 1 by omega, List.take_succ_cons, List.take_succ_cons, ih]
theorem setCells_owns {base e size g n cap : Nat} : ∀ (vs : List Value) (o : Nat) (xs : List Value) (w : World), w.ownsRow base e size (.slice (some ⟨g, 0, none⟩) n cap) n xs →
    ∃ ys : List Value, (w.setCells g o vs).ownsRow base e size (.slice (some ⟨g, 0, none⟩) n cap) n ys ∧ ys.take o = xs.take o ∧ Chg (· = g) w (w.setCells g o vs)
  | [], o, xs, w, h => ⟨xs, h, rfl, Chg.refl _ _⟩
  | v :: vs, o, xs, w, h => by
    obtain ⟨ys, h1, h2, h3⟩ := setCells_owns vs (o + 1) _ _ (h.stored o v).1
    refine ⟨ys, h1, ?_, ((Chg.refl _ _).set1 o v).trans h3⟩
    have := congrArg (List.take o) h2
    rw [List.take_take, List.take_take, Nat.min_eq_left (Nat.le_succ o)] at this
    rw [this, List.take_set_of_le (Nat.le_refl o)]
theorem zeroEdge (w : World) : (zeroValue 61).run Tryd.prog w = .ok (.agg #[.int .i64 0, .int .i64 0]) w := by kernel_rfl
theorem run_clear_edges (w : World) (ty : TypeId) (b o n c : Nat) (hn : 0 < n) (hc : ∀ j, j < n * 2 → (w.cell? ⟨b, o + j, none⟩).isSome = true) (hf : ∀ j, j < n * 2 → w.frozen? ⟨b, o + j, none⟩ = false) :
    (Builtin.clear_ #[53] ty #[.slice (some ⟨b, o, none⟩) n c]).run Tryd.prog w = .ok (.tuple #[]) (w.setCells b o (List.replicate (n * 2) (.int .i64 0))) := by
  have hzc : (Builtin.zeroCells #[.int .i64 0, .int .i64 0] n).toList = List.replicate (n * 2) (.int .i64 0) := by
    apply List.ext_getElem
    · simp [Builtin.zeroCells]
    · intro i h1 h2
      have : i % 2 = 0 ∨ i % 2 = 1 := by omega
      rcases this with h | h <;> simp [Builtin.zeroCells, h]
  have hst := run_storeCells_cells (P := Tryd.prog) b o (List.replicate (n * 2) (.int .i64 0)) 0 w (by simpa using hc) (by simpa using hf) (by intro v hv'; rw [List.eq_of_mem_replicate hv']; rfl)
  simp only [Nat.add_zero] at hst
  obtain ⟨m, rfl⟩ : ∃ m, n = m + 1 := ⟨n - 1, by omega⟩
  simp [Builtin.clear_, run_underlying Tryd.underlying53, zeroEdge, Value.cells, hzc, hst]

/-- What stays of the first j edges. -/
def keptL (E : List (Nat × Nat)) (p : Nat → Bool) (j : Nat) : List (Nat × Nat) := ((List.range j).filter fun i => !p i).map fun i => E.getD i (0, 0)
theorem keptL_succ (E : List (Nat × Nat)) (p : Nat → Bool) (j : Nat) : keptL E p (j + 1) = keptL E p j ++ if p j then [] else [E.getD j (0, 0)] := by
  unfold keptL
  rw [List.range_succ, List.filter_append, List.map_append]
  congr 1
  cases h : p j <;> simp [h]
theorem keptL_len (E : List (Nat × Nat)) (p : Nat → Bool) (j : Nat) : (keptL E p j).length ≤ j := by
  unfold keptL
  have := List.length_filter_le (fun i => !p i) (List.range j)
  simpa using this
theorem keptL_all (E : List (Nat × Nat)) (p : Nat → Bool) : ∀ {j : Nat}, (∀ i, i < j → p i = false) → j ≤ E.length → keptL E p j = E.take j
  | 0, _, _ => rfl
  | j + 1, h, hj => by
    rw [keptL_succ, keptL_all E p (fun i hi => h i (by omega)) (by omega), h j (Nat.lt_succ_self j), List.take_succ_eq_append_getElem (by omega)]
    simp [List.getD, show j < E.length by omega]
def DelEnds (base gg c : Nat) (K : List (Nat × Nat)) (w : World) (e : Ending) (w' : World) : Prop :=
  e = .returned (.slice (some ⟨gg, 0, none⟩) K.length c) ∧ w'.ownsRow base 61 2 (.slice (some ⟨gg, 0, none⟩) K.length c) K.length (edgeCells K) ∧ Chg (· = gg) w w'
def DelRel (w : World) (base gg n c k0 : Nat) (E : List (Nat × Nat)) (p : Nat → Bool) (iv jv : Value) (wr : World) : Prop :=
  ∃ (j : Nat) (R : List (Nat × Nat)), k0 < j ∧ j ≤ n ∧ iv = .int .i64 (keptL E p j).length ∧ jv = .int .i64 j ∧ (keptL E p j).length < j ∧ R.take (keptL E p j).length = keptL E p j ∧ R.drop j = E.drop j ∧
    wr.ownsRow base 61 2 (.slice (some ⟨gg, 0, none⟩) n c) n (edgeCells R) ∧ Chg (· = gg) w wr

theorem del_facts {wa w' : World} {base gg n c i x y : Nat} {R : List (Nat × Nat)} (h : wa.ownsRow base 61 2 (.slice (some ⟨gg, 0, none⟩) n c) n (edgeCells R))
    (hb : Below (wa.alloc (.cells #[.int .i64 (x : Int), .int .i64 (y : Int)] 61)).heap.size (wa.alloc (.cells #[.int .i64 (x : Int), .int .i64 (y : Int)] 61)) w') (hi : i < n) :
    w'.ownsRow base 61 2 (.slice (some ⟨gg, 0, none⟩) n c) n (edgeCells R) ∧ (∃ u, w'.cell? ⟨gg, i * 2, none⟩ = some u) ∧ (∃ u, w'.cell? ⟨gg, i * 2 + 1, none⟩ = some u) ∧ w'.frozen? ⟨gg, i * 2, none⟩ = false ∧ w'.frozen? ⟨gg, i * 2 + 1, none⟩ = false ∧
      w'.cell? ⟨wa.heap.size, 0, none⟩ = some (.int .i64 (x : Int)) ∧ w'.cell? ⟨wa.heap.size, 1, none⟩ = some (.int .i64 (y : Int)) := by
  have hgl : gg < wa.heap.size := owns_lt h gg rfl
  have h2 : w'.ownsRow base 61 2 (.slice (some ⟨gg, 0, none⟩) n c) n (edgeCells R) := owns_of_heap h fun q hq => by cases hq; exact (hb.block gg (by simp; omega)).trans (heap_alloc_lt hgl)
  have hl := owns_len h
  obtain ⟨e0, e1⟩ := edgeCells_at R i (by omega)
  exact ⟨h2, ⟨_, (h2.cellAt (i * 2) (by omega)).trans e0⟩, ⟨_, (h2.cellAt (i * 2 + 1) (by omega)).trans e1⟩, h2.frozenAt _, h2.frozenAt _,
    (hb.cell (p := ⟨wa.heap.size, 0, none⟩) (by simp)).trans (cell_at 0 (heap_new _ _) rfl), (hb.cell (p := ⟨wa.heap.size, 1, none⟩) (by simp)).trans (cell_at 1 (heap_new _ _) rfl)⟩

set_option maxRecDepth 20000 in
set_option maxHeartbeats 2000000 in
theorem delE_any (g : Nat) (lb : Array Value) (p : Nat → Bool) (eg : Enters g) (base gg n c : Nat) (E : List (Nat × Nat)) (w : World) (h : w.ownsRow base 61 2 (.slice (some ⟨gg, 0, none⟩) n c) n (edgeCells E))
    (hp : ∀ W i, i < n → Chg (· = gg) w W → Calls Tryd.prog g (#[.agg #[.int .i64 (zL E i 0), .int .i64 (zL E i 1)]] ++ lb) W (AskEnds W (p i))) :
    Calls Tryd.prog 98 #[.slice (some ⟨gg, 0, none⟩) n c, .func (.func g) #[] lb] w (DelEnds base gg c (keptL E p n) w) := by
  have hlen := owns_len h
  have hmx := owns_max h
  have hcap : n ≤ c ∧ c ≤ 9223372036854775807 := by
    rcases owns_shape h with ⟨hv, -⟩ | ⟨g', c', hv, h1, h2⟩
    · cases hv
    · cases hv; unfold maxLen at h2; omega
  have HI := Lib.hid (indexE_any g lb p eg (some ⟨gg, 0, none⟩) n c (zL E) w (edgesIn_owns h) fun W i hi hB => (hp W i hi (below_all hB)).mono fun e w' he => ⟨he.1, hB.trans (he.2.mono hB.size)⟩)
  have HP := Lib.hid hp
  have HO := Lib.hid h
  have HEg := Lib.hid eg
  obtain ⟨hc1, hc2⟩ := hcap
  clear h hp eg
  go_enter Tryd.func98, Tryd.ntmps98
  go_wp2_with fail
  go_fit HI.out
  rintro e w1 ⟨hB, (⟨k0, hk0, hpk, hbef, rfl⟩ | ⟨hall, rfl⟩)⟩
  · have hne : ((k0 : Int) == -1) = false := by rw [beq_eq_false_iff_ne]; omega
    have HC1 := Lib.hid (below_all (F := (· = gg)) hB)
    have HO1 := Lib.hid (owns_of_heap HO.out (w' := w1) fun q hq => hB.block q (owns_lt HO.out q hq))
    have HK0 : Hid (keptL E p (k0 + 1) = E.take k0) := by
      show _ = _
      rw [keptL_succ, hpk, keptL_all E p hbef (by omega)]; simp
    have hkl : (E.take k0).length = k0 := by simp; omega
    have hk00 : (0 : Int) ≤ (k0 : Int) := by omega
    have hk01 : (k0 : Int) < (n : Int) := by omega
    clear hB hpk hbef
    go_wp2_with fail
    go_loopw [5, 6] (fun iv jv wr => DelRel w base gg n c k0 E p iv jv wr) (fun _ jv _ => n - (intOf jv).toNat)
    case atStart =>
      refine ⟨k0 + 1, E, Nat.lt_succ_self _, hk0, by rw [HK0.out, hkl], by go_num, by rw [HK0.out, hkl]; omega, by rw [HK0.out, hkl], rfl, HO1.out, HC1.out⟩
    case round =>
      clear HO1 HC1
      obtain ⟨j, R, hkj, hj, rfl, rfl, hlt, htk, hdr, hown, hC⟩ := hrel
      obtain ⟨wa, rfl⟩ : ∃ x, x = wr := ⟨_, rfl⟩
      have HTk := Lib.hid htk
      have HDr := Lib.hid hdr
      have HOw := Lib.hid hown
      have HC := Lib.hid hC
      have hRl := owns_len hown
      have hgl : gg < wa.heap.size := owns_lt hown gg rfl
      generalize hK : keptL E p j = K at *
      have HKq := Lib.hid hK
      clear htk hdr hown hC hK
      by_cases hjn : j < n
      · have hEj : R.getD j (0, 0) = E.getD j (0, 0) := by
          have h1 := congrArg (fun l => l.getD 0 (0, 0)) HDr.out
          simp only [List.getD_eq_getElem?_getD, List.getElem?_drop, Nat.add_zero] at h1
          simp only [List.getD_eq_getElem?_getD]
          exact h1
        obtain ⟨e0, e1⟩ := edgeCells_at R j (by omega)
        rw [hEj] at e0 e1
        have z0 : wa.cell? ⟨gg, j * 2, none⟩ = some (.int .i64 ((E.getD j (0, 0)).1 : Nat)) := (HOw.out.cellAt (j * 2) (by omega)).trans e0
        have z1 : wa.cell? ⟨gg, j * 2 + 1, none⟩ = some (.int .i64 ((E.getD j (0, 0)).2 : Nat)) := (HOw.out.cellAt (j * 2 + 1) (by omega)).trans e1
        have hq := fun W (hW : Chg (· = gg) w W) => HP.out W j hjn hW
        have hz0 : zL E j 0 = ((E.getD j (0, 0)).1 : Nat) := rfl
        have hz1 : zL E j 1 = ((E.getD j (0, 0)).2 : Nat) := rfl
        rw [hz0, hz1] at hq
        have HKs := Lib.hid (keptL_succ E p j)
        generalize E.getD j (0, 0) = ej at *
        obtain ⟨x, y⟩ := ej
        have hj0 : (0 : Int) ≤ (j : Int) := by omega
        have hj1 : (j : Int) < (n : Int) := by omega
        have hi0 : (0 : Int) ≤ (K.length : Int) := by omega
        have hi1 : (K.length : Int) < (n : Int) := by omega
        have eg' := HEg.out
        unfold Enters at eg'
        have HQ := Lib.hid (hq (wa.alloc (.cells #[.int .i64 (x : Int), .int .i64 (y : Int)] 61)) (HC.out.alloc _))
        clear hq hz0 hz1 e0 e1 hEj
        cases hpj : p j with
        | true =>
          rw [hpj] at HQ HKs
          clear hpj
          go_wp2_with (go_at_fn g; refine HQ.out.mono ?_; rintro e w' ⟨rfl, hb'⟩)
          have HB' := Lib.hid hb'
          have HK1 : Hid (keptL E p (j + 1) = K) := by show _ = _; rw [HKs.out, HKq.out]; simp
          clear hb'
          go_wp2_with fail
          go_roundw
          case rel =>
            refine ⟨j + 1, R, by omega, hjn, by rw [HK1.out], by go_num, by rw [HK1.out]; omega, by rw [HK1.out]; exact HTk.out, ?_, ?_, (HC.out.alloc _).trans (below_all HB'.out)⟩
            · have := congrArg (List.drop 1) HDr.out
              simpa [List.drop_drop, Nat.add_comm] using this
            · exact owns_of_heap HOw.out fun q hq => by cases hq; exact (HB'.out.block gg (by simp; omega)).trans (heap_alloc_lt hgl)
          case measure => simp [intOf]; omega
        | false =>
          rw [hpj] at HQ HKs
          clear hpj
          go_wp2_with (go_at_fn g; refine HQ.out.mono ?_; rintro e w' ⟨rfl, hb'⟩; obtain ⟨hown8, ⟨u0, q0⟩, ⟨u1, q1⟩, f0, f1, v0, v1⟩ := del_facts HOw.out hb' (i := K.length) (by omega); have HO8 := Lib.hid hown8; have HB' := Lib.hid hb'; clear hown8 hb')
          have HK1 : Hid (keptL E p (j + 1) = K ++ [(x, y)]) := by show _ = _; rw [HKs.out, HKq.out]; simp
          go_roundw
          case rel =>
            have hR1 : (R.set K.length (x, y)).take (K.length + 1) = K ++ [(x, y)] := by
              rw [List.take_succ_eq_append_getElem (by simp; omega)]
              rw [List.take_set_of_le (Nat.le_refl _), HTk.out]
              simp
            have hR2 : (R.set K.length (x, y)).drop (j + 1) = E.drop (j + 1) := by
              rw [List.drop_set_of_lt (by omega)]
              have := congrArg (List.drop 1) HDr.out
              simpa [List.drop_drop, Nat.add_comm] using this
            refine ⟨j + 1, R.set K.length (x, y), by omega, hjn, by rw [HK1.out, List.length_append]; go_num, by go_num, by rw [HK1.out, List.length_append, List.length_singleton]; omega, by rw [HK1.out, List.length_append, List.length_singleton]; exact hR1, hR2, ?_, ?_⟩
            · rw [← edgeCells_set]
              exact ((HO8.out.stored (K.length * 2) _).1.stored (K.length * 2 + 1) _).1
            · exact (((HC.out.alloc _).trans (below_all HB'.out)).set1 _ _).set1 _ _
          case measure => simp [intOf]; omega
      · obtain rfl : j = n := by omega
        have hi0 : (0 : Int) ≤ (K.length : Int) := by omega
        have hi1 : (K.length : Int) < (j : Int) := by omega
        have hi2 : (K.length : Int) < (c : Int) := by omega
        have hne2 : ¬ c = K.length := by omega
        have hcl : ∀ ty, (Builtin.clear_ #[53] ty #[.slice (some ⟨gg, K.length * 2, none⟩) (j - K.length) (c - K.length)]).run Tryd.prog wa = .ok (.tuple #[]) (wa.setCells gg (K.length * 2) (List.replicate ((j - K.length) * 2) (.int .i64 0))) := fun ty =>
          run_clear_edges wa ty gg (K.length * 2) (j - K.length) (c - K.length) (by omega) (fun i hi => by
            rw [HOw.out.cellAt (K.length * 2 + i) (by omega)]
            have : K.length * 2 + i < (edgeCells R).length := by rw [edgeCells_len]; omega
            simp [this]) (fun i hi => HOw.out.frozenAt _)
        obtain ⟨ys, h1, h2, h3⟩ := setCells_owns (List.replicate ((j - K.length) * 2) (.int .i64 0)) (K.length * 2) _ _ HOw.out
        have h4 := owns_take (m := K.length) (by omega) h1
        rw [h2, edgeCells_take, HTk.out] at h4
        have H4 := Lib.hid h4
        have H3 := Lib.hid (HC.out.trans h3)
        have HKq2 := HKq.out
        clear h1 h2 h3 h4
        generalize wa.setCells gg (K.length * 2) (List.replicate ((j - K.length) * 2) (.int .i64 0)) = wz at *
        go_wp2_with fail
        go_ret
        unfold DelEnds
        rw [HKq2]
        exact ⟨rfl, H4.out, H3.out⟩
  · have HK : Hid (keptL E p n = E) := by
      show _ = _
      rw [keptL_all E p hall (by omega), ← hlen, List.take_length]
    have HC1 := Lib.hid (below_all (F := (· = gg)) hB)
    have HO1 := Lib.hid (owns_of_heap HO.out (w' := w1) fun q hq => hB.block q (owns_lt HO.out q hq))
    clear hB hall
    go_wp2_with fail
    go_ret
    unfold DelEnds
    rw [HK.out, hlen]
    exact ⟨rfl, HO1.out, HC1.out⟩
end Go.Proofs.YtafdijcolponjaaDoor
