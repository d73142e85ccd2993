/- The contract of the document's Thin (close). Conditions: a graph that may be. -/
import Derived.Test.YtafdijcolponjaaDoorCloseG
import Derived.Deep.RegionLaw
import Derived.IntWalk
namespace Go.Proofs.YtafdijcolponjaaDoor
open Go.RowKit

theorem step_append_own {P : Program} {ops : Array Oper} {o : Oper} {a : Act} {w : World} {K : Act → World → Prop} {Q : Exit → Act → World → Prop} {E : Prop} (hgd : o.guard = none) (s x : Operand) (t : TypeId)
    (ho : o.op = .call { callee := .builtin .append, args := #[s, x], argTypes := #[t, t] })
    (base : Nat) (e : TypeId) (i : TypeInfo) (z : Value) (size bytes : Nat) (ht : P.underlying t = some (.slice e)) (hi : P.info? e = some i) (hz : i.zero = some z)
    (hsize : i.size = size) (hby : i.bytes = bytes) (hzs : z.cells.size = size) (hsz : 0 < size)
    (v : Value) (n : Nat) (xs : List Value) (hs : a.eval s = v) (hown : w.ownsRow base e size v n xs)
    (ad : Addr) (m c : Nat) (news : List Value) (hx : a.eval x = .slice (some ad) m c) (hl : news.length = m * size) (hnews : ∀ j u, news[j]? = some u → w.cell? (ad.add j) = some u) (h1 : ∀ u ∈ news, u.oneCell' = true)
    (h63 : n + m ≤ maxLen) (hbytes : (n + m) * bytes ≤ 140737488355328) (hbase : base ≤ w.heap.size)
    (h : ∀ v' w', w'.ownsRow base e size v' (n + m) (xs ++ news) → w.grownBy w' v.ownBlock → K (a.put o.dst v') w') :
    if Region.wanted o (yielded ops a.tmps) = true then Oper.wp P o a w K Q else E := by
  have hw : Region.wanted o (yielded ops a.tmps) = true := by simp [Region.wanted, hgd]
  rw [if_pos hw]
  exact wp_append_own w s x t ho base e i z size bytes ht hi hz hsize hby hzs hsz v n xs hs hown ad m c news hx hl hnews h1 h63 hbytes hbase fun v' w' h2 h3 _ => h v' w' h2 h3
theorem edge_cells (E : List (Nat × Nat)) : ∀ u ∈ edgeCells E, u.oneCell' = true := by
  intro u hu
  obtain ⟨e, _, he⟩ := List.mem_flatMap.1 hu
  simp only [List.mem_cons, List.not_mem_nil, or_false] at he
  rcases he with rfl | rfl <;> rfl
theorem edgeCells_app (A B : List (Nat × Nat)) : edgeCells (A ++ B) = edgeCells A ++ edgeCells B := List.flatMap_append ..
theorem edgeCells_drop (E : List (Nat × Nat)) (i : Nat) : (edgeCells E).drop (i * 2) = edgeCells (E.drop i) := by
  induction E generalizing i with
  | nil => simp [edgeCells]
  | cons x E ih =>
    cases i with
    | zero => simp [edgeCells]
    | succ i =>
      have e1 : edgeCells (x :: E) = .int .i64 (x.1 : Int) :: .int .i64 (x.2 : Int) :: edgeCells E := rfl
      rw [e1, show (i + 1) * 2 = i * 2 + 1 + 1 by omega, List.drop_succ_cons, List.drop_succ_cons, ih]
      rfl
theorem mem_rest {E : List (Nat × Nat)} (hn : E.Nodup) {i : Nat} (hi : i < E.length) (e : Nat × Nat) : e ∈ E.take i ++ E.drop (i + 1) ↔ e ∈ E ∧ e ≠ E.getD i (0, 0) := by
  have he : E.getD i (0, 0) = E[i] := by simp [List.getD, hi]
  have hE : E = E.take i ++ E[i] :: E.drop (i + 1) := by rw [List.getElem_cons_drop, List.take_append_drop]
  rw [he]
  generalize E[i] = x at *
  generalize E.take i = A at *
  generalize E.drop (i + 1) = B at *
  clear he hi
  subst hE
  rw [List.nodup_append, List.nodup_cons] at hn
  constructor
  · intro h
    rcases List.mem_append.1 h with h | h
    · exact ⟨by simp [h], hn.2.2 e h x (by simp)⟩
    · exact ⟨by simp [h], fun hx => hn.2.1.1 (by rw [← hx]; exact h)⟩
  · rintro ⟨h1, h2⟩
    rcases List.mem_append.1 h1 with h | h
    · exact List.mem_append.2 (.inl h)
    · rcases List.mem_cons.1 h with h | h
      · exact absurd h h2
      · exact List.mem_append.2 (.inr h)
theorem edgesR_nodup (n : Nat) (L : List (Nat × Nat)) : ∀ k, (edgesR n L k).Nodup
  | 0 => by simp [edgesR]
  | k + 1 => by
    rw [edgesR_succ, List.nodup_append]
    refine ⟨edgesR_nodup n L k, ?_, fun a ha b hb => ?_⟩
    · rw [List.nodup_iff_pairwise_ne, List.pairwise_map]
      exact List.Pairwise.imp (fun h e => h (by cases e; rfl)) (nextR_nodup n L (k : Nat))
    · obtain ⟨x, hx, h1⟩ := List.mem_flatMap.1 ha
      obtain ⟨y, hy, rfl⟩ := List.mem_map.1 h1
      obtain ⟨y', hy', rfl⟩ := List.mem_map.1 hb
      have := List.mem_range.1 hx
      intro e
      cases e
      omega
theorem may_zL {n : Nat} {R : List (Nat × Nat)} (h : ∀ e ∈ R, e.1 < n ∧ e.2 < n) : mayE n (zL R) R.length = true := by
  refine List.all_eq_true.2 fun i hi => ?_
  have hi := List.mem_range.1 hi
  have h1 := h (R.getD i (0, 0)) (by simp [List.getD, hi])
  rw [Bool.and_eq_true]
  refine ⟨decide_eq_true ⟨?_, ?_⟩, decide_eq_true ⟨?_, ?_⟩⟩ <;> simp only [zL, if_pos, if_neg (show ¬ (1 = 0) by decide)] <;> omega
theorem mem_zL {n : Nat} {R : List (Nat × Nat)} (h : ∀ e ∈ R, e.1 < n ∧ e.2 < n) (e : Nat × Nat) : e ∈ ofZ n (zL R) R.length ↔ e ∈ R := by
  rw [mem_ofZ (may_zL h)]
  simp only [zL, if_pos, if_neg (show ¬ (1 = 0) by decide)]
  constructor
  · rintro ⟨i, hi, h1, h2⟩
    have : R.getD i (0, 0) = e := by
      refine Prod.ext ?_ ?_ <;> omega
    rw [← this]
    simp [List.getD, hi]
  · intro he
    obtain ⟨i, hi, rfl⟩ := List.mem_iff_getElem.1 he
    exact ⟨i, hi, by simp [List.getD, hi], by simp [List.getD, hi]⟩
theorem filter_take_succ {E : List (Nat × Nat)} (p : Nat × Nat → Bool) {k : Nat} (hk : k < E.length) : (E.take (k + 1)).filter p = (E.take k).filter p ++ (if p (E.getD k (0, 0)) = true then [E.getD k (0, 0)] else []) := by
  rw [List.take_add_one, List.filter_append]
  simp [hk, List.getD, List.filter_cons]
theorem below_undrew' {b : Nat} {w w' : World} (h : Below b w.drew w') : Below b w w' := (Below.refl _ w).drew.trans h
def KeepU (_ : World) : Prop := True
theorem keepU (w : World) : KeepU w := trivial
noncomputable def RThinRel (w4 : World) (n : Nat) (L E : List (Nat × Nat)) (v i : Value) (wr : World) : Prop :=
  ∃ k : Nat, k ≤ E.length ∧ i = .int .i64 k ∧ wr.ownsRow w4.heap.size 61 2 v ((E.take k).filter fun e => !overB L n e).length (edgeCells ((E.take k).filter fun e => !overB L n e)) ∧ Below w4.heap.size w4 wr
/-- The second part of a slice that is cut. -/
theorem cut_at {w : World} {base ga len ce k : Nat} {E : List (Nat × Nat)} (h : w.ownsRow base 61 2 (.slice (some ⟨ga, 0, none⟩) len ce) len (edgeCells E)) (hk : k < len) :
    ∃ A : Addr, (if ce = k + 1 then (some ⟨ga, 0, none⟩ : Option Addr) else some ⟨ga, (k + 1) * 2, none⟩) = some A ∧ ∀ W : World, W.heap[ga]? = w.heap[ga]? → ∀ j u, (edgeCells (E.drop (k + 1)))[j]? = some u → W.cell? (A.add j) = some u := by
  have hl := owns_len h
  have hcap : len ≤ ce := by
    rcases owns_shape h with ⟨hv, -⟩ | ⟨g', c', hv, h1, -⟩
    · cases hv
    · cases hv; exact h1
  by_cases hc : ce = k + 1
  · refine ⟨⟨ga, 0, none⟩, by rw [if_pos hc], fun W _ j u hj => ?_⟩
    have : (E.drop (k + 1)).length = 0 := by simp; omega
    rw [List.length_eq_zero_iff.1 this] at hj
    cases hj
  · refine ⟨⟨ga, (k + 1) * 2, none⟩, by rw [if_neg hc], fun W hW j u hj => ?_⟩
    rw [Addr.add_lit]
    have hjl := (List.getElem?_eq_some_iff.1 hj).1
    rw [edgeCells_len, List.length_drop] at hjl
    refine (World.cell?_of_block hW).trans ((h.cellAt ((k + 1) * 2 + j) (by omega)).trans ?_)
    rw [← edgeCells_drop, List.getElem?_drop] at hj
    exact hj

set_option maxRecDepth 20000 in
set_option maxHeartbeats 2000000 in
theorem rthin_any (n m c : Nat) (ad : Option Addr) (z : Nat → Nat → Int) (w : World) (hn : n ≤ 500) (hm : m ≤ 1000000) (hE : EdgesIn w ad m z) (hM : mayE n z m = true) :
    Calls Tryd.prog 74 #[.int .i64 n, .slice ad m c] w (EdgeEnds (thinL n (ofZ n z m)) w) := by
  have HE := Lib.hid hE
  have HM := Lib.hid hM
  have HG := Lib.hid (rg_of n ad m c z w hE hm)
  have HLr := Lib.hid (ofZ_inr hM)
  clear hE hM
  go_enter Tryd.func74, Tryd.ntmps74
  go_wp2_with fail
  go_fit HG.out
  rintro e w1 ⟨r, F, rfl, hR, hF, hB1⟩
  have hRd := rround_any n m c ad z
  obtain ⟨L, hLq⟩ : ∃ L, ofZ n z m = L := ⟨_, rfl⟩
  rw [hLq] at hR hRd HLr
  have HLq := Lib.hid hLq
  have HEd := Lib.hid (rg_edges r n F L w1 hR hn)
  have HRd := Lib.hid hRd
  have HB1 := Lib.hid hB1
  have HNd := Lib.hid (edgesR_nodup n L n)
  have HMem := Lib.hid (mem_edgesR HLr.out)
  have HThT : Hid (roundB n L = true → thinL n L = edgesR n L n) := fun h => by unfold thinL; rw [if_pos h]
  have HThF : Hid (roundB n L = false → thinL n L = (edgesR n L n).filter fun e => !overB L n e) := fun h => by unfold thinL; rw [h, if_neg (by simp)]
  have hel := edgesR_len n L n
  have hn2 : n * n ≤ 250000 := by have := Nat.mul_le_mul hn hn; omega
  generalize edgesR n L n = E at *
  clear hR hF hB1 hRd hLq
  go_wp2_with fail
  go_fit HEd.out
  rintro e w2 ⟨v2, rfl, hown, hB2⟩
  have hB2' := HB1.out.trans (hB2.mono HB1.out.size)
  have HRd2 := Lib.hid (HRd.out w2 hn (HE.out.below hB2' (Nat.le_refl _)) HM.out)
  have HO2 := Lib.hid hown
  have HB2 := Lib.hid hB2'
  have hz1 := HB1.out.size
  clear hown hB2 hB2'
  cases hrd : roundB n L with
  | true =>
    rw [hrd] at HRd2
    have HTh := Lib.hid (HThT.out hrd)
    clear hrd
    go_wp2_with fail
    go_fit HRd2.out
    rintro e w3 ⟨rfl, hB3⟩
    have HB3 := Lib.hid (HB2.out.trans (hB3.mono HB2.out.size))
    have HO3 := Lib.hid (owns_of_heap HO2.out (w' := w3) fun q hq => hB3.block q (owns_lt HO2.out q hq))
    clear hB3
    go_wp2_with fail
    go_ret
    refine ⟨_, rfl, ?_, HB3.out⟩
    rw [HLq.out, HTh.out]
    exact owns_base HO3.out fun q hq => Nat.le_trans hz1 (World.ownsRow.lt HO2.out q hq).1
  | false =>
    rw [hrd] at HRd2
    have HTh := Lib.hid (HThF.out hrd)
    have HRf := Lib.hid hrd
    clear hrd
    go_wp2_with fail
    go_fit HRd2.out
    rintro e w3 ⟨rfl, hB3⟩
    have HB3 := Lib.hid (HB2.out.trans (hB3.mono HB2.out.size))
    have HO3 := Lib.hid (owns_of_heap HO2.out (w' := w3) fun q hq => hB3.block q (owns_lt HO2.out q hq))
    have HOo := Lib.hid (World.ownsRow_made (base := w3.heap.size) (e := 61) (size := 2) w3 #[] 0 (Nat.le_refl _) (by decide) rfl)
    obtain ⟨ad2, c2, rfl⟩ := owns_slice HO2.out
    clear hB3
    go_wp2_with fail
    go_loopw [6, 7] (fun v i wr => RThinRel w3 n L E v i wr) (fun _ i _ => E.length - (intOf i).toNat)
    case atStart => exact ⟨0, Nat.zero_le _, rfl, HOo.out, (Below.refl _ _).alloc (Nat.le_refl _) _⟩
    case round =>
      clear HOo
      obtain ⟨k, hk, rfl, hown, hB⟩ := hrel
      obtain ⟨wa, rfl⟩ : ∃ x, x = wr := ⟨_, rfl⟩
      have HOut := Lib.hid hown
      have HB := Lib.hid hB
      have hzb := hB.size
      clear hown hB
      by_cases hlt : k < E.length
      · obtain ⟨ga, ca, hva, hca, hcm⟩ : ∃ g cap, Value.slice ad2 E.length c2 = .slice (some ⟨g, 0, none⟩) E.length cap ∧ E.length ≤ cap ∧ cap ≤ maxLen := by
          rcases owns_shape HO3.out with ⟨_, h0⟩ | h
          · omega
          · exact h
        cases hva
        unfold maxLen at hcm
        have hgl : ga < w3.heap.size := owns_lt HO3.out ga rfl
        have HOa := Lib.hid (owns_of_heap HO3.out (w' := wa) fun q hq => by cases hq; exact HB.out.block ga hgl)
        obtain ⟨A, hA, hAc⟩ := cut_at HOa.out hlt
        have HAc := Lib.hid hAc
        have hk0 : (0 : Int) ≤ (k : Int) := by omega
        have hk1 : (k : Int) < (E.length : Int) := by omega
        have hk2 : (k : Int) + 1 ≤ (E.length : Int) := by omega
        have hglw : ga < wa.heap.size := by omega
        have HN1 : Hid (∀ W : World, W.heap[ga]? = wa.heap[ga]? → ∀ j u, (edgeCells (E.take k))[j]? = some u → W.cell? ((⟨ga, 0, none⟩ : Addr).add j) = some u) := fun W hW j u hj => by
          rw [Addr.add_lit, Nat.zero_add]
          have hjl := (List.getElem?_eq_some_iff.1 hj).1
          rw [edgeCells_len, List.length_take] at hjl
          refine (World.cell?_of_block hW).trans ((HOa.out.cellAt j (by omega)).trans ?_)
          rw [← edgeCells_take, List.getElem?_take_of_lt (by omega)] at hj
          exact hj
        have HRow0 := Lib.hid (World.ownsRow_made (base := wa.heap.size) (e := 61) (size := 2) wa #[] 0 (Nat.le_refl _) (by decide) rfl)
        obtain ⟨i0, hie, hz0, hz2, hz3⟩ := info_parts infoEdge
        have HL1 : Hid ((edgeCells (E.take k)).length = k * 2 ∧ (edgeCells (E.drop (k + 1))).length = (E.length - (k + 1)) * 2) := by
          show _ ∧ _
          rw [edgeCells_len, edgeCells_len]
          simp; omega
        have HMx : Hid (0 + k ≤ maxLen ∧ (0 + k) * 16 ≤ 140737488355328 ∧ k + (E.length - (k + 1)) ≤ maxLen ∧ (k + (E.length - (k + 1))) * 16 ≤ 140737488355328) := by
          show _ ∧ _
          unfold maxLen; omega
        have hne : ¬ c2 = k := by omega
        have hk4 : (k : Int) ≤ (c2 : Int) := by omega
        have hk5 : (E.length : Int) ≤ (c2 : Int) := by omega
        have hk6 : (0 : Int) ≤ (k : Int) + 1 := by omega
        have hk7 : ((k : Int) + 1).toNat = k + 1 := by omega
        have hk8 : IntKind.i64.wrap ((k : Int) + 1) = (k : Int) + 1 := IntWalk.i64_in _ (by omega)
        have HBlk : Hid (∀ wx : World, (wa.alloc (.cells #[] 61)).drew.grownBy wx (Value.slice (some ⟨wa.heap.size, 0, none⟩) 0 0).ownBlock → (∀ g, g < wa.heap.size → wx.heap[g]? = wa.heap[g]?) ∧ wa.heap.size + 1 ≤ wx.heap.size ∧ wa.heap.size ≤ wx.heap.size) := fun wx hg => by
          have e1 : (wa.alloc (.cells #[] 61)).drew.heap.size = wa.heap.size + 1 := Array.size_push _
          refine ⟨fun g hgl => ?_, by have := hg.size; omega, ?_⟩
          · refine (hg.block g (by omega) ?_).trans (heap_alloc_lt hgl)
            intro h
            have h2 : some g = some wa.heap.size := h
            cases h2
            omega
          · have := hg.size
            omega
        clear hAc
        go_wp2_with fail
        go_region_held3 (fun w' => KeepU w') (exact keepU _)
          ((first
            | (refine step_append_own (by rfl) _ _ 53 (by rfl) wa.heap.size 61 i0 (.agg #[.int .i64 0, .int .i64 0]) 2 16 Tryd.underlying53 hie hz0 hz2 hz3 rfl (by decide) (.slice (some ⟨wa.heap.size, 0, none⟩) 0 0) 0 [] (by rfl) HRow0.out ⟨ga, 0, none⟩ k c2 (edgeCells (E.take k)) (by rfl) HL1.out.1 (HN1.out _ (heap_alloc_lt hglw)) (edge_cells _) HMx.out.1 HMx.out.2.1 (by simp [World.drew]) ?_
               intro v1 wx hown1 hgrow1
               have HG1 := Lib.hid hgrow1
               have hown1' := hown1
               rw [Nat.zero_add, List.nil_append] at hown1'
               have HO1 := Lib.hid hown1'
               clear hown1 hgrow1 hown1')
            | (refine step_append_own (by rfl) _ _ 53 (by rfl) wa.heap.size 61 i0 (.agg #[.int .i64 0, .int .i64 0]) 2 16 Tryd.underlying53 hie hz0 hz2 hz3 rfl (by decide) v1 k (edgeCells (E.take k)) (by rfl) HO1.out A (E.length - (k + 1)) (c2 - (k + 1)) (edgeCells (E.drop (k + 1))) (by rfl) HL1.out.2 (HAc.out _ ((HBlk.out _ HG1.out).1 ga hglw)) (edge_cells _) HMx.out.2.2.1 HMx.out.2.2.2 (HBlk.out _ HG1.out).2.2 ?_
               intro v2 wy hown2 hgrow2
               have HG2 := Lib.hid hgrow2
               have HO2' := Lib.hid hown2
               clear hown2 hgrow2)
            | fail))
        go_wp2_with fail
        have hw2 := HBlk.out _ HG1.out
        have hfr : ∀ g, g < wa.heap.size → wy.heap[g]? = wa.heap[g]? := fun g hg => (HG2.out.block g (by omega) (fun h => by have := (World.ownsRow.lt HO1.out g h.symm).1; omega)).trans (hw2.1 g hg)
        have hsz4 : wa.heap.size ≤ wy.heap.size := Nat.le_trans hw2.2.2 HG2.out.size
        have HB4 : Hid (Below w3.heap.size w3 wy) := (((HB.out.alloc hzb _).drew.grown HG1.out (by simp [World.drew]; omega) (fun q hq => by have h2 : some wa.heap.size = some q := hq; cases h2; exact hzb)).grown HG2.out (by omega) (fun q hq => Nat.le_trans hzb (World.ownsRow.lt HO1.out q hq).1))
        have HOut4 := Lib.hid (owns_of_heap HOut.out (w' := wy) fun q hq => hfr q (owns_lt HOut.out q hq))
        have HE4 := Lib.hid (owns_of_heap HO3.out (w' := wy) fun q hq => by cases hq; exact (hfr ga hglw).trans (HB.out.block ga hgl))
        have hgy : ga < wy.heap.size := by omega
        obtain ⟨g', hg', hcA, hcB⟩ := edges_at HE4.out hlt
        cases hg'
        obtain ⟨a2, c2', rfl⟩ := owns_slice HO2'.out
        have hrow := HO2'.out
        rw [← edgeCells_app] at hrow
        have hmr := mem_rest HNd.out hlt
        have hrl := owns_len hrow
        have hin : ∀ e ∈ E, e.1 < n ∧ e.2 < n := fun e he => HLr.out e ((HMem.out e).1 he)
        have hd : E.getD k (0, 0) ∈ E := by simp [List.getD, hlt]
        have hxy := hin _ hd
        have hkeep : reachB (E.take k ++ E.drop (k + 1)) (E.getD k (0, 0)).1 (E.getD k (0, 0)).2 = overB L n (E.getD k (0, 0)) :=
          over_rest HLr.out HRf.out (fun e => (hmr e).trans (and_congr_left' (HMem.out e))) ((HMem.out _).1 hd)
        have hft := filter_take_succ (fun e => !overB L n e) hlt
        generalize E.take k ++ E.drop (k + 1) = R at *
        generalize k + (E.length - (k + 1)) = N at *
        generalize E.getD k (0, 0) = xy at *
        obtain ⟨x, y⟩ := xy
        subst hrl
        have hri : ∀ e ∈ R, e.1 < n ∧ e.2 < n := fun e he => hin e ((hmr e).1 he).1
        have HF : Hid (∀ W : World, W.heap = wy.heap → Calls Tryd.prog 78 #[.int .i64 n, .slice a2 R.length c2', .int .i64 x] W (ListEnds (fromL n (ofZ n (zL R) R.length) x) W)) := fun W hW =>
          rfrom_any n R.length c2' x a2 (zL R) W hn (edgesIn_owns (owns_of_heap hrow (w' := W) fun q _ => by rw [hW])) (may_zL hri) hxy.1
        have hmem : decide ((y : Int) ∈ natI (fromL n (ofZ n (zL R) R.length) x)) = overB L n (x, y) := by
          rw [← hkeep, ← reachB_congr (mem_zL hri), Bool.eq_iff_iff, decide_eq_true_iff, reachB_iff]
          constructor
          · intro h
            obtain ⟨y', hy', he⟩ := List.mem_map.1 h
            obtain rfl : y' = y := Int.ofNat.inj he
            exact (mem_fromL.1 hy').2
          · intro h
            exact List.mem_map.2 ⟨y, mem_fromL.2 ⟨hxy.2, h⟩, rfl⟩
        have HMm := Lib.hid hmem
        have HFt := Lib.hid hft
        have HIn := Lib.hid hxy
        have HFr := Lib.hid hfr
        generalize fromL n (ofZ n (zL R) R.length) x = l at *
        clear hmem hft hxy hfr hri hkeep hd hin hmr hw2 hrow HOut HG1 HO1 HG2 HO2' HB HBlk HMx HL1 HRow0 HN1 HAc hk6 hk7 hk8 HOa hA
        go_region_held3 (fun w' => w'.cell? ⟨ga, k * 2, none⟩ = some (.int .i64 x) ∧ w'.cell? ⟨ga, k * 2 + 1, none⟩ = some (.int .i64 y))
          (first
            | exact ⟨m1, m2⟩
            | exact ⟨n1, n2⟩
            | exact ⟨hcA, hcB⟩
            | fail)
          ((first
            | (go_at_call 78
               (with_reducible refine (HF.out wy.drew rfl).mono ?_)
               rintro e w5 ⟨v5, rfl, hO5, hB5⟩
               obtain ⟨ad5, c5, rfl, hs5⟩ := src_list hO5
               have m1 := (hB5.cell (p := ⟨ga, k * 2, none⟩) hgy).trans hcA
               have m2 := (hB5.cell (p := ⟨ga, k * 2 + 1, none⟩) hgy).trans hcB
               have hH := hasint_any ad5 _ c5 _ (y : Int) w5 hs5
               rw [HMm.out] at hH
               have HH := Lib.hid hH
               have HB5 := Lib.hid (HB4.out.trans ((below_undrew' hB5).mono HB4.out.size))
               have HOut5 := Lib.hid (owns_of_heap HOut4.out (w' := w5) fun q hq => hB5.block q (owns_lt HOut4.out q hq))
               have HE5 := Lib.hid (owns_of_heap HE4.out (w' := w5) fun q hq => hB5.block q (owns_lt HE4.out q hq))
               clear hO5 hB5 hs5 hH)
            | (go_at_call 96
               (with_reducible refine HH.out.mono ?_)
               rintro e w6 ⟨rfl, rfl⟩
               have n1 := m1
               have n2 := m2)
            | fail))
        have hfl : ((E.take k).filter fun e => !overB L n e).length ≤ 250000 := by
          have h1 := List.length_filter_le (fun e => !overB L n e) (E.take k)
          have h2 : (E.take k).length ≤ E.length := by simp; omega
          omega
        have hz5 := HB5.out.size
        cases ho : overB L n (x, y) with
        | true =>
          have HF2 : Hid ((E.take (k + 1)).filter (fun e => !overB L n e) = (E.take k).filter fun e => !overB L n e) := by
            show _ = _
            rw [HFt.out, ho]; simp
          clear ho
          go_wp2_with fail
          go_roundw
          case rel => exact ⟨k + 1, by omega, by go_num, by rw [HF2.out]; exact HOut5.out, HB5.out⟩
          case measure => simp [intOf]; omega
        | false =>
          have HF2 : Hid ((E.take (k + 1)).filter (fun e => !overB L n e) = ((E.take k).filter fun e => !overB L n e) ++ [(x, y)]) := by
            show _ = _
            rw [HFt.out, ho]; simp
          generalize (E.take k).filter (fun e => !overB L n e) = E1 at *
          have HMx : Hid (E1.length + 1 ≤ maxLen ∧ (E1.length + 1) * 16 ≤ 140737488355328) := by
            show _ ∧ _
            unfold maxLen; omega
          clear ho hfl
          go_wp2_with (first | (at_builtin; go_loud (refine wpList_append_lies _ rfl _ _ 53 rfl w3.heap.size 61 i0 (.agg #[.int .i64 0, .int .i64 0]) 2 16 Tryd.underlying53 hie hz0 hz2 hz3 rfl (by decide) u6 E1.length (edgeCells E1) rfl (HOut5.out.alloc _) ⟨w5.heap.size, 0, none⟩ 1 1 [.int .i64 x, .int .i64 y] rfl rfl (edge_new w5 _ _ _) (edge_cell _ _) (by decide) HMx.out.1 HMx.out.2 (by simp; omega) (w5.heap.size + 1) (by simp) ?_)) | fail)
          intro g9 c9 w9 hown9 hgrow9 _ _
          have HO9 := Lib.hid hown9
          have HG9 := Lib.hid hgrow9
          clear hown9 hgrow9
          go_wp2_with fail
          go_roundw
          case rel =>
            refine ⟨k + 1, by omega, by go_num, ?_, (HB5.out.alloc hz5 _).grown HG9.out (by simp; omega) (fun q hq => (World.ownsRow.lt HOut5.out q hq).1)⟩
            rw [HF2.out, List.length_append, edgeCells_app]
            exact HO9.out
          case measure => simp [intOf]; omega
      · obtain rfl : k = E.length := by omega
        go_wp2_with fail
        go_ret
        refine ⟨_, rfl, ?_, HB3.out.trans (HB.out.mono HB3.out.size)⟩
        have h := HOut.out
        rw [List.take_length] at h
        rw [HLq.out, HTh.out]
        exact owns_base h fun q hq => Nat.le_trans HB3.out.size (World.ownsRow.lt h q hq).1
end Go.Proofs.YtafdijcolponjaaDoor
