/- Sets of reached nodes, and the contract of closure's rows. Conditions: a graph, and where the table lies. -/
import Derived.Test.YtafdijcolponjaaDoorMH
namespace Go.Proofs.YtafdijcolponjaaDoor
open Go.RowKit

theorem of_yes {n : Int} {z : Nat → Nat → Int} {m : Nat} (h : ofB n z m = true) : ∃ q : Nat, n = (q : Int) ∧ q ≤ 500 ∧ mayE q z m = true := by
  unfold ofB at h
  rw [Bool.and_eq_true] at h
  have h1 := of_decide_eq_true h.1
  exact ⟨n.toNat, by omega, by omega, h.2⟩
theorem mem_put1 {ws : List Nat} (h : ws.length = 8) {k : Nat} (hk : k < 500) (i : Nat) : mem (put1 ws (k : Int)) i = (decide (i = k) || mem ws i) ∧ (put1 ws (k : Int)).length = 8 := by
  unfold put1
  rw [if_pos (by omega), Int.toNat_natCast]
  exact ⟨mem_put (by omega) i, by simp [putW, h]⟩
theorem below_all {w w' : World} {F : Nat → Prop} (h : Below w.heap.size w w') : Chg F w w' := ⟨h.os, h.tape, h.output, h.size, fun k hk _ => h.block k hk⟩
set_option maxRecDepth 20000 in
theorem mem_newW {l : List Nat} (h : ∀ x ∈ l, x < 500) (i : Nat) : mem (newW (natI l)) i = decide (i ∈ l) := by
  suffices hh : ∀ (l : List Nat) (ws : List Nat), ws.length = 8 → (∀ x ∈ l, x < 500) → mem ((natI l).foldl put1 ws) i = (mem ws i || decide (i ∈ l)) by
    have e0 : mem [0, 0, 0, 0, 0, 0, 0, 0] i = false := mem_W0 i
    unfold newW
    rw [hh l _ rfl h, e0, Bool.false_or]
  intro l
  induction l with
  | nil => intro ws _ _; simp [natI]
  | cons x l ih =>
    intro ws h8 hl
    obtain ⟨h1, h2⟩ := mem_put1 h8 (hl x (by simp)) i
    have e : (natI (x :: l)).foldl put1 ws = (natI l).foldl put1 (put1 ws (x : Int)) := rfl
    rw [e, ih _ h2 (fun y hy => hl y (by simp [hy])), h1]
    by_cases hx : i = x
    · subst hx; simp
    · simp [hx]
theorem mem_joinW {x y : List Nat} (hx : x.length = 8) (hy : y.length = 8) (j : Nat) : mem (joinW x y) j = (mem x j || mem y j) := by
  unfold mem joinW
  by_cases h : j / 64 < 8
  · rw [mixW_at x y h, if_pos h, Nat.testBit_or]
  · have e : ∀ ws : List Nat, ws.length = 8 → ws.getD (j / 64) 0 = 0 := fun ws h8 => by rw [List.getD_eq_getElem?_getD, List.getElem?_eq_none (by omega)]; rfl
    rw [e _ (mixW_len _ _ _), e _ hx, e _ hy]; simp
theorem preL_of {ws : List Nat} {n : Nat} (hn : n ≤ 500) {p : Nat → Bool} (h : ∀ i, i < 512 → mem ws i = p i) (hp : ∀ i, n ≤ i → p i = false) : preL ws 8 = (List.range n).filter p := by
  rw [preL_filter]
  have e : (List.range (8 * 64)).filter (mem ws) = (List.range (8 * 64)).filter p := List.filter_congr fun i hi => h i (by have := List.mem_range.1 hi; omega)
  rw [e, filter_range_le p n (8 * 64) (by omega) hp]

theorem infoSetP : (Tryd.prog.info? 24).map (fun i => (i.zero, i.size, i.bytes)) = some (some (.pointer none), 1, 8) := by kernel_rfl
def ptrL (n k : Nat) (bs : Nat → Nat) : List Value := (List.range n).map fun a => if a < k then .pointer (some ⟨bs a, 0, none⟩) else .pointer none
theorem ptrL_at {n k : Nat} {bs : Nat → Nat} {a : Nat} (h : a < k) (hn : k ≤ n) : (ptrL n k bs)[a]? = some (.pointer (some ⟨bs a, 0, none⟩)) := by
  simp [ptrL, show a < n by omega, h]
theorem ptrL_step {n k : Nat} {bs : Nat → Nat} (b : Nat) : (ptrL n k bs).set k (.pointer (some ⟨b, 0, none⟩)) = ptrL n (k + 1) (fun a => if a = k then b else bs a) := by
  refine List.ext_getElem (by simp [ptrL]) fun i h1 h2 => ?_
  simp only [ptrL, List.getElem_set, List.getElem_map, List.getElem_range]
  by_cases e : k = i
  · subst e
    rw [if_pos rfl, if_pos (Nat.lt_succ_self _), if_pos rfl]
  · have e' : ¬ i = k := fun h => e h.symm
    rw [if_neg e, if_neg e']
    by_cases h : i < k
    · rw [if_pos h, if_pos (by omega)]
    · rw [if_neg h, if_neg (by omega)]
theorem ptrL_made (n : Nat) : (madeCells #[Value.pointer none] n).toList = ptrL n 0 (fun _ => 0) := by
  rw [toList_madeCells_one]
  exact List.ext_getElem (by simp [ptrL]) fun i h1 h2 => by simp [ptrL]
/-- A row of sets: the first k of n lie in memory, apart, and hold what P tells. -/
structure SetsAt (w : World) (g n k : Nat) (bs : Nat → Nat) (P : Nat → Nat → Bool) : Prop where
  row : w.ownsRow 0 24 1 (.slice (some ⟨g, 0, none⟩) n n) n (ptrL n k bs)
  sat : ∀ a, a < k → ∃ ws, SetAt w (bs a) ws ∧ ∀ i, i < 512 → mem ws i = P a i
  gl : ∀ a, a < k → g < bs a
  inc : ∀ a b, a < b → b < k → bs a < bs b
variable {w w' : World} {g n k : Nat} {bs : Nat → Nat} {P Q : Nat → Nat → Bool}
theorem SetsAt.lt (h : SetsAt w g n k bs P) {a : Nat} (ha : a < k) : bs a < w.heap.size := by
  obtain ⟨ws, h1, -⟩ := h.sat a ha
  exact lt_of_block h1.1
theorem SetsAt.glt (h : SetsAt w g n k bs P) : g < w.heap.size := owns_lt h.row g rfl
theorem SetsAt.frame (h : SetsAt w g n k bs P) (h0 : w'.heap[g]? = w.heap[g]?) (h1 : ∀ a, a < k → w'.heap[bs a]? = w.heap[bs a]?) : SetsAt w' g n k bs P := by
  refine ⟨owns_of_heap h.row fun q hq => (by cases hq; exact h0), fun a ha => ?_, h.gl, h.inc⟩
  obtain ⟨ws, ⟨q1, q2⟩, q3⟩ := h.sat a ha
  exact ⟨ws, ⟨(h1 a ha).trans q1, q2⟩, q3⟩
theorem SetsAt.below (h : SetsAt w g n k bs P) {B : Nat} (hB : Below B w w') (hw : w.heap.size ≤ B) : SetsAt w' g n k bs P :=
  h.frame (hB.block g (Nat.lt_of_lt_of_le h.glt hw)) fun a ha => hB.block _ (Nat.lt_of_lt_of_le (h.lt ha) hw)
theorem SetsAt.congr (h : SetsAt w g n k bs P) (hq : ∀ a, a < k → ∀ i, i < 512 → P a i = Q a i) : SetsAt w g n k bs Q := by
  refine ⟨h.row, fun a ha => ?_, h.gl, h.inc⟩
  obtain ⟨ws, h1, h2⟩ := h.sat a ha
  exact ⟨ws, h1, fun i hi => (h2 i hi).trans (hq a ha i hi)⟩
theorem SetsAt.cell (h : SetsAt w g n k bs P) (hk : k ≤ n) {a : Nat} (ha : a < k) : w.cell? ⟨g, a, none⟩ = some (.pointer (some ⟨bs a, 0, none⟩)) := (h.row.cellAt a (by omega)).trans (ptrL_at ha hk)
theorem SetsAt.push (h : SetsAt w g n k bs P) (hk : k < n) {b : Nat} {p : Nat → Bool} {ws : List Nat} (hb : SetAt w b ws) (hp : ∀ i, i < 512 → mem ws i = p i) (hgb : g < b) (hinc : ∀ a, a < k → bs a < b) :
    SetsAt (w.setCell ⟨g, k, none⟩ (.pointer (some ⟨b, 0, none⟩))) g n (k + 1) (fun a => if a = k then b else bs a) (fun a i => if a = k then p i else P a i) := by
  refine ⟨by rw [← ptrL_step]; exact (h.row.stored k _).1, fun a ha => ?_, fun a ha => ?_, fun a c hac hc => ?_⟩
  · by_cases e : a = k
    · subst e
      simp only [if_true]
      exact ⟨ws, ⟨(heap_set_ne _ _ (by omega)).trans hb.1, hb.2⟩, hp⟩
    · simp only [if_neg e]
      obtain ⟨ws', ⟨q1, q2⟩, q3⟩ := h.sat a (by omega)
      have := h.gl a (by omega)
      exact ⟨ws', ⟨(heap_set_ne _ _ (by omega)).trans q1, q2⟩, q3⟩
  · show g < if a = k then b else bs a
    split
    · exact hgb
    · exact h.gl a (by omega)
  · show (if a = k then b else bs a) < if c = k then b else bs c
    rw [if_neg (show ¬ a = k by omega)]
    split
    · exact hinc a (by omega)
    · exact h.inc a c hac (by omega)
theorem SetsAt.apart (h : SetsAt w g n k bs P) {a b : Nat} (ha : a < k) (hb : b < k) (hne : a ≠ b) : bs a ≠ bs b := by
  rcases Nat.lt_or_ge a b with h1 | h1
  · have := h.inc a b h1 hb; omega
  · have := h.inc b a (by omega) ha; omega
/-- One set is changed. -/
theorem SetsAt.set (h : SetsAt w g n k bs P) {a : Nat} (ha : a < k) (hc : Chg (· = bs a) w w') {ws : List Nat} {p : Nat → Bool} (hs : SetAt w' (bs a) ws) (hp : ∀ i, i < 512 → mem ws i = p i) : SetsAt w' g n k bs (fun c i => if c = a then p i else P c i) := by
  have hga := h.gl a ha
  refine ⟨owns_of_heap h.row fun q hq => (by cases hq; exact hc.block g h.glt (by omega)), fun c hck => ?_, h.gl, h.inc⟩
  by_cases e : c = a
  · subst e
    simp only [if_true]
    exact ⟨ws, hs, hp⟩
  · simp only [if_neg e]
    obtain ⟨ws', ⟨q1, q2⟩, q3⟩ := h.sat c hck
    exact ⟨ws', ⟨(hc.block _ (lt_of_block q1) (h.apart hck ha e)).trans q1, q2⟩, q3⟩

def RowsEnds (n : Nat) (L : List (Nat × Nat)) (w : World) (e : Ending) (w' : World) : Prop :=
  ∃ g bs, e = .returned (.slice (some ⟨g, 0, none⟩) n n) ∧ SetsAt w' g n n bs (reachB L) ∧ w.heap.size ≤ g ∧ Below w.heap.size w w'
def RowFillRel (w : World) (n : Nat) (L : List (Nat × Nat)) (i : Value) (wr : World) : Prop :=
  ∃ (k : Nat) (bs : Nat → Nat), k ≤ n ∧ i = .int .i64 k ∧ SetsAt wr w.heap.size n k bs (viaB L 0) ∧ Below w.heap.size w wr
def WarOut (w : World) (n : Nat) (L : List (Nat × Nat)) (bs : Nat → Nat) (i : Value) (wr : World) : Prop :=
  ∃ k : Nat, k ≤ n ∧ i = .int .i64 k ∧ SetsAt wr w.heap.size n n bs (viaB L k) ∧ Below w.heap.size w wr
def WarIn (w : World) (n k : Nat) (L : List (Nat × Nat)) (bs : Nat → Nat) (i : Value) (wr : World) : Prop :=
  ∃ j : Nat, j ≤ n ∧ i = .int .i64 j ∧ SetsAt wr w.heap.size n n bs (fun a b => if a < j then viaB L (k + 1) a b else viaB L k a b) ∧ Below w.heap.size w wr

set_option maxRecDepth 20000 in
set_option maxHeartbeats 2000000 in
theorem rows_any (b n : Nat) (F : List Nat) (L : List (Nat × Nat)) (w : World) (h : GrAt w b F n L) (hT : TabIs w) :
    Calls Tryd.prog 97 #[.pointer (some ⟨b, 0, none⟩)] w (RowsEnds n L w) := by
  obtain ⟨j0, hj, hy0, hy1, hy2⟩ := info_parts infoSetP
  have hn := h.n500
  have HL := Lib.hid h.inr
  have HG := Lib.hid h
  have HT := Lib.hid hT
  have HLn := Lib.hid (gr_len b n F L w h)
  clear h hT
  go_enter Tryd.func97, Tryd.ntmps97
  go_wp2_with fail
  go_fit HLn.out
  rintro e w' ⟨rfl, rfl⟩
  go_wp2_with (at_make; refine wpList_make_full _ rfl _ _ 75 rfl 0 24 j0 (.pointer none) 1 Tryd.underlying75 hj hy0 hy1 .i64 .i64 _ _ n rfl rfl rfl rfl (by rw [hy2]; omega) (by unfold maxLen; omega) (Nat.zero_le _) ?_)
  intro w1 hown hgrow
  have hB1 : Below w.heap.size w w1 := (Below.refl _ _).grown hgrow (Nat.le_refl _) (fun k hk => by cases hk)
  have hR1 : SetsAt w1 w.heap.size n 0 (fun _ => 0) (viaB L 0) := by
    have e : (madeCells #[Value.pointer none] n).toList = ptrL n 0 (fun _ => 0) := ptrL_made n
    rw [e] at hown
    exact ⟨hown, fun a ha => absurd ha (Nat.not_lt_zero a), fun a ha => absurd ha (Nat.not_lt_zero a), fun a c _ hc => absurd hc (Nat.not_lt_zero c)⟩
  have HB1 := Lib.hid hB1
  have HR1 := Lib.hid hR1
  clear hown hgrow hB1 hR1
  go_wp2_with fail
  go_loopw [12] (fun i wr => RowFillRel w n L i wr) (fun i _ => n - (intOf i).toNat)
  case atStart => exact ⟨0, _, Nat.zero_le _, rfl, HR1.out, HB1.out⟩
  case round =>
    clear HR1 HB1
    obtain ⟨k, bs, hk, rfl, hR, hB⟩ := hrel
    obtain ⟨wa, rfl⟩ : ∃ x, x = wr := ⟨_, rfl⟩
    have HR := Lib.hid hR
    have HB := Lib.hid hB
    have hgl := hR.glt
    have hz := hB.size
    clear hR hB
    by_cases hlt : k < n
    · have hk0 : (0 : Int) ≤ (k : Int) := by omega
      have hk1 : (k : Int) < (n : Int) := by omega
      have hN := gr_next b n F L k wa (HG.out.below HB.out (Nat.le_refl _)) (tab_below HT.out HB.out (Nat.le_refl _))
      have HMem : Hid (∀ i, mem (newW (natI (nextR n L (k : Nat)))) i = viaB L 0 k i) := fun i => by
        rw [mem_newW (fun x hx => by have := nextR_lt hx; omega), viaB_zero, Bool.eq_iff_iff, decide_eq_true_iff, decide_eq_true_iff, mem_nextR HL.out]
      generalize nextR n L (k : Nat) = l at *
      have HN := Lib.hid hN
      clear hN
      go_wp2_with fail
      go_fit HN.out
      rintro e w8 ⟨v8, rfl, hO8, hB8⟩
      obtain ⟨ad8, c8, rfl, hs8⟩ := src_list hO8
      have HW := Lib.hid (new_any ad8 _ c8 _ w8 hs8)
      have HR8 := Lib.hid (HR.out.below hB8 (Nat.le_refl _))
      have HB8 := Lib.hid (HB.out.trans (hB8.mono hz))
      have hz8 := hB8.size
      clear hO8 hs8 hB8
      go_wp2_with fail
      go_fit HW.out
      rintro e w9 ⟨rfl, hS9, hB9⟩
      have hR9 := HR8.out.below hB9 (Nat.le_refl _)
      have c9 : ∃ v, w9.cell? ⟨w.heap.size, k, none⟩ = some v := ⟨_, (hR9.row.cellAt k (by omega)).trans (by simp [ptrL, hlt]; rfl)⟩
      obtain ⟨v9, c9⟩ := c9
      have f9 := hR9.row.frozenAt k
      have HR9 := Lib.hid (hR9.push hlt hS9 (fun i _ => HMem.out i) (by omega) (fun a ha => HR8.out.lt ha))
      have HB9 := Lib.hid (HB8.out.trans (hB9.mono (Nat.le_trans hz hz8)))
      clear hR9 hS9 hB9
      go_wp2_with fail
      go_roundw
      case rel =>
        refine ⟨k + 1, _, hlt, by go_num, HR9.out.congr fun a ha i hi => ?_, HB9.out.setCell (Nat.le_refl _) _⟩
        show (if a = k then viaB L 0 k i else viaB L 0 a i) = viaB L 0 a i
        split
        · rename_i e; rw [e]
        · rfl
      case measure => simp [intOf]; omega
    · obtain rfl : k = n := by omega
      go_wp2_with fail
      go_loopw [25] (fun i wr => WarOut w k L bs i wr) (fun i _ => k - (intOf i).toNat)
      case atStart => exact ⟨0, Nat.zero_le _, rfl, HR.out, HB.out⟩
      case round =>
        clear HR HB hgl hz
        obtain ⟨q, hq, rfl, hR, hB⟩ := hrel
        obtain ⟨wb, rfl⟩ : ∃ x, x = wr := ⟨_, rfl⟩
        have HR := Lib.hid hR
        have HB := Lib.hid hB
        clear hR hB
        by_cases hqk : q < k
        · have hq1 : (q : Int) < (k : Int) := by omega
          have hq0 : (0 : Int) ≤ (q : Int) := by omega
          go_wp2_with fail
          go_loopw [30] (fun i wr => WarIn w k q L bs i wr) (fun i _ => k - (intOf i).toNat)
          case atStart => exact ⟨0, Nat.zero_le _, rfl, HR.out.congr fun a ha i hi => by rw [if_neg (Nat.not_lt_zero a)], HB.out⟩
          case round =>
            clear HR HB
            obtain ⟨j, hj', rfl, hR, hB⟩ := hrel
            obtain ⟨wc, rfl⟩ : ∃ x, x = wr := ⟨_, rfl⟩
            have HR := Lib.hid hR
            have HB := Lib.hid hB
            by_cases hjk : j < k
            · obtain ⟨x, hx1, hx2⟩ := hR.sat j hjk
              obtain ⟨y, hy1', hy2'⟩ := hR.sat q hqk
              have c1 := hR.cell (Nat.le_refl _) hjk
              have c2 := hR.cell (Nat.le_refl _) hqk
              have hH := has_yes (bs j) q x wc hx1 (by omega)
              have hm : mem x q = viaB L q j q := by rw [hx2 q (by omega), if_neg (Nat.lt_irrefl _)]
              rw [hm] at hH
              have hj0 : (0 : Int) ≤ (j : Int) := by omega
              have hj1 : (j : Int) < (k : Int) := by omega
              have HX1 := Lib.hid hx1
              have HX2 := Lib.hid hx2
              have HY1 := Lib.hid hy1'
              have HY2 := Lib.hid hy2'
              have HC2 := Lib.hid c2
              have HC1 := Lib.hid c1
              clear hR hB hx1 hx2 hy1' hy2' hm c2
              cases hv : viaB L q j q with
              | false =>
                rw [hv] at hH
                have HH := Lib.hid hH
                have HV := Lib.hid hv
                clear hH hv
                go_wp2_with fail
                go_fit HH.out
                rintro e w' ⟨rfl, rfl⟩
                go_wp2_with fail
                go_roundw
                case rel =>
                  refine ⟨j + 1, hjk, by go_num, HR.out.congr fun a ha i hi => ?_, HB.out⟩
                  by_cases e : a = j
                  · subst e
                    rw [if_neg (Nat.lt_irrefl _), if_pos (Nat.lt_succ_self _), viaB_succ, HV.out, Bool.false_and, Bool.or_false]
                  · by_cases h : a < j
                    · rw [if_pos h, if_pos (by omega)]
                    · rw [if_neg h, if_neg (by omega)]
                case measure => simp [intOf]; omega
              | true =>
                rw [hv] at hH
                have HH := Lib.hid hH
                have HV := Lib.hid hv
                have HJ := Lib.hid (fun W (hS : Same wc W) => join_any (bs j) (bs q) x y W ⟨(hS.at _).trans HX1.out.1, HX1.out.2⟩ ⟨(hS.at _).trans HY1.out.1, HY1.out.2⟩)
                clear hH hv
                go_wp2_with fail
                go_fit HH.out
                rintro e w' ⟨rfl, rfl⟩
                clear c1
                go_wp2_with fail
                refine region_tail 8 (by kernel_rfl) (by kernel_rfl) fun w3 hS => ?_
                have d1 := hS.cell HC1.out
                have d2 := hS.cell HC2.out
                have HS := Lib.hid hS
                have HJ3 := Lib.hid (HJ.out w3 hS)
                clear hS
                simp only [List.take_succ_cons, List.take_zero, List.drop_succ_cons, List.drop_zero]
                repeat still_step
                refine wpStill_nil ?_
                go_wp2_with fail
                go_fit HJ3.out
                rintro e w4 ⟨rfl, hS4, hC4⟩
                have HR4 := Lib.hid ((HR.out.frame (HS.out.at _) (fun a _ => HS.out.at _)).set hjk hC4 hS4 (p := viaB L (q + 1) j) (fun i hi => by
                  rw [mem_joinW HX1.out.2.1 HY1.out.2.1, HX2.out i hi, HY2.out i hi, if_neg (Nat.lt_irrefl _), viaB_succ (a := j) (b := i), HV.out, Bool.true_and]
                  congr 1
                  split
                  · exact viaB_self
                  · rfl))
                have hgj := HR.out.gl j hjk
                have hzc := HB.out.size
                have HB4 := Lib.hid (HB.out.trans ((HS.out.chg (F := (· = bs j))).trans hC4 |>.below hzc fun x hx e => by omega))
                clear hS4 hC4 d1 d2
                go_wp2_with fail
                go_roundw
                case rel =>
                  refine ⟨j + 1, hjk, by go_num, HR4.out.congr fun a ha i hi => ?_, HB4.out⟩
                  by_cases e : a = j
                  · subst e
                    rw [if_pos rfl, if_pos (Nat.lt_succ_self _)]
                  · rw [if_neg e]
                    by_cases h : a < j
                    · rw [if_pos h, if_pos (by omega)]
                    · rw [if_neg h, if_neg (by omega)]
                case measure => simp [intOf]; omega
            · obtain rfl : j = k := by omega
              clear hR hB
              go_wp2_with fail
              go_roundw
              case rel => exact ⟨q + 1, hqk, by go_num, HR.out.congr fun a ha i hi => by rw [if_pos ha], HB.out⟩
              case measure => simp [intOf]; omega
        · obtain rfl : q = k := by omega
          go_wp2_with fail
          go_ret
          exact ⟨_, bs, rfl, HR.out.congr fun a ha i hi => viaB_reach HL.out, Nat.le_refl _, HB.out⟩
end Go.Proofs.YtafdijcolponjaaDoor
