/- The contract of a graph's Is: is a list an order? Conditions: numbers that are numbers. The contract of a graph's Is. Conditions: numbers that are numbers. The contract of the document's Is (topo). Conditions: numbers that are numbers. -/
import Derived.Test.YtafdijcolponjaaDoorMF
import Derived.WalkArith
import Derived.Deep.QuietTactic
import Derived.BigQuiet
namespace Go.Proofs.YtafdijcolponjaaDoor
open Go.RowKit

theorem Src.belowAll {w w' : World} {a : Option Addr} {n cap : Nat} {l : List Int} (h : Src w a n cap 1 (intl l)) {B : Nat} (hb : Below B w w') (hB : w.heap.size ≤ B) : Src w' a n cap 1 (intl l) := by
  refine h.of_block fun ad had hne => hb.block _ ?_
  have hn : 0 < n := by omega
  obtain ⟨x, hx, hc⟩ := h.nth (i := 0) hn
  rw [had] at hx
  cases hx
  exact Nat.lt_of_lt_of_le (World.block_lt_of_cell? w _ hc) hB
/-- Where each number stands among the first ones. -/
def posF (ord : List Int) : Nat → Int → Option Int
  | 0 => fun _ => none
  | k + 1 => putF (posF ord k) (ord.getD k 0) k
def posI (ord : List Int) (x : Int) : Int := (posF ord ord.length x).getD 0
def okAt (ord : List Int) (i : Nat) : Bool := (posF ord i (ord.getD i 0)).isNone && decide (0 ≤ ord.getD i 0 ∧ ord.getD i 0 < (ord.length : Int))
def okP (ord : List Int) : Bool := (List.range ord.length).all (okAt ord)
def isT (ord : List Int) (z : Nat → Nat → Int) (m : Nat) : Bool := ofB ord.length z m && (okP ord && !(List.range m).any fun i => decide (posI ord (z i 1) ≤ posI ord (z i 0)))
theorem okP_no {ord : List Int} {i : Nat} (hi : i < ord.length) (h : okAt ord i = false) : okP ord = false := by
  unfold okP
  rw [Bool.eq_false_iff]
  intro ht
  have := List.all_eq_true.1 ht i (List.mem_range.2 hi)
  rw [h] at this; cases this
theorem okP_yes {ord : List Int} (h : ∀ i, i < ord.length → okAt ord i = true) : okP ord = true := List.all_eq_true.2 fun i hi => h i (List.mem_range.1 hi)

theorem isf_any (B mb n : Nat) (f : Int → Option Int) (x y : Int) (w0 W : World) (hW : Below w0.heap.size w0 W) (hb : B < w0.heap.size) (hm : mb < w0.heap.size) (hc : w0.cell? ⟨B, 0, none⟩ = some (.map (some mb))) (h : MapAt w0 mb n f)
    (hx : (Lit.int .i64 x).wf = true) (hy : (Lit.int .i64 y).wf = true) :
    Calls Tryd.prog 93 #[.agg #[.int .i64 x, .int .i64 y], .pointer (some ⟨B, 0, none⟩)] W (AskEnds w0 (decide ((f y).getD 0 ≤ (f x).getD 0))) := by
  have hz := hW.size
  have hM := h.below hW hm
  have c0 : W.cell? ⟨B, 0, none⟩ = some (.map (some mb)) := (hW.cell (p := ⟨B, 0, none⟩) hb).trans hc
  have hlx : ∀ o, (Instr.lookup 107 (.map (some mb)) (.int .i64 x) false).run Tryd.prog (W.alloc o) = .ok (.int .i64 ((f x).getD 0)) (W.alloc o) := fun o => (hM.frame (heap_alloc_lt hM.lt)).look hx
  have hly : ∀ o, (Instr.lookup 107 (.map (some mb)) (.int .i64 y) false).run Tryd.prog (W.alloc o) = .ok (.int .i64 ((f y).getD 0)) (W.alloc o) := fun o => (hM.frame (heap_alloc_lt hM.lt)).look hy
  have hbW : B < W.heap.size := by omega
  generalize (f x).getD 0 = a at *
  generalize (f y).getD 0 = b at *
  have HW := Lib.hid hW
  clear hW hM h hc hx hy
  go_enter Tryd.func93, Tryd.ntmps93
  go_wp2_with fail
  go_ret
  exact ⟨rfl, HW.out.alloc hz _⟩
def IsRel (wo : World) (ord : List Int) (i : Value) (wr : World) : Prop :=
  ∃ k : Nat, k ≤ ord.length ∧ i = .int .i64 k ∧ MapAt wr wo.heap.size k (posF ord k) ∧ wr.cell? ⟨wo.heap.size + 1, 0, none⟩ = some (.map (some wo.heap.size)) ∧ Below wo.heap.size wo wr ∧ ∀ j, j < k → okAt ord j = true
end Go.Proofs.YtafdijcolponjaaDoor

namespace Go.Proofs.YtafdijcolponjaaDoor
open Go.RowKit

set_option maxRecDepth 20000 in
set_option maxHeartbeats 1000000 in
theorem tis_any (a : Option Addr) (len cap : Nat) (ord : List Int) (ad : Option Addr) (m c : Nat) (z : Nat → Nat → Int) (w : World) (hO : Src w a len cap 1 (intl ord)) (hw : ∀ x ∈ ord, (Lit.int .i64 x).wf = true) (hE : EdgesIn w ad m z) :
    Calls Tryd.prog 66 #[.slice a len cap, .slice ad m c] w (AskEnds w (isT ord z m)) := by
  have hl : ord.length = len := by have := hO.1; simpa [intl] using this
  have hle := hO.2.2.1
  have hx := hO.2.2.2.1
  unfold maxLen at hx
  subst hl
  have HA := Lib.hid hO
  have HE := Lib.hid hE
  have HW := Lib.hid hw
  have HG := Lib.hid (gr_of ord.length ad m c z w hE)
  have hmm := @run_makeMap Tryd.prog
  clear hO hE hw
  go_enter Tryd.func66, Tryd.ntmps66
  go_wp2_with fail
  go_fit HG.out
  rintro e wo (⟨hyes, b, F, rfl, hG, hF, hB⟩ | ⟨hno, rfl, hB⟩)
  · have hM : mayE ord.length z m = true := by
      unfold ofB at hyes
      rw [Bool.and_eq_true, Int.toNat_natCast] at hyes
      exact hyes.2
    have HM := Lib.hid hM
    have HY := Lib.hid hyes
    have HB := Lib.hid hB
    have hz := hB.size
    have HA2 := Lib.hid (HA.out.belowAll hB (Nat.le_refl _))
    have HE2 := Lib.hid (HE.out.below hB (Nat.le_refl _))
    have hm0 := (mapAt_made wo)
    clear hyes hG hF hB hM
    go_wp2_with fail
    go_loopw [26] (fun i wr => IsRel wo ord i wr) (fun i _ => ord.length - (intOf i).toNat)
    case atStart =>
      refine ⟨0, Nat.zero_le _, rfl, hm0.frame (heap_alloc_lt (by simp)), ?_, ((Below.refl _ _).alloc (Nat.le_refl _) _).alloc (by simp) _, fun j hj => absurd hj (Nat.not_lt_zero j)⟩
      have := heap_new (wo.alloc (.map #[] 0)) (.cells #[.map (some wo.heap.size)] 107)
      exact cell_at 0 (by simpa using this) rfl
    case round =>
      clear hm0
      obtain ⟨k, hk, rfl, hM, hcB, hB, hall⟩ := hrel
      obtain ⟨wa, rfl⟩ : ∃ x, x = wr := ⟨_, rfl⟩
      have HB2 := Lib.hid hB
      have HAll := Lib.hid hall
      have HMp := Lib.hid hM
      have HA3 := Lib.hid (HA2.out.belowAll hB (Nat.le_refl _))
      have hz2 := hB.size
      have hBlt : wo.heap.size + 1 < wa.heap.size := World.block_lt_of_cell? wa _ hcB
      clear hB hall hM
      by_cases hlt : k < ord.length
      · obtain ⟨b1, o1, hab, hc⟩ := HA3.out.plain (by omega)
        cases hab
        have hc1 := hc k hlt
        have hwa := HW.out (ord.getD k 0) (by simp [List.getD, hlt])
        have hlk := HMp.out.lookOk hwa
        generalize hz' : ord.getD k 0 = x at *
        have HZ := Lib.hid hz'
        have hk0 : (0 : Int) ≤ (k : Int) := by omega
        have hk1 : (k : Int) < (ord.length : Int) := by omega
        have hno : ∀ (_ : okAt ord k = false), isT ord z m = false := fun h => by
          unfold isT; rw [okP_no hlt h]; simp
        have HNo := Lib.hid hno
        clear hc hz' hno
        cases hp : posF ord k x with
        | some v =>
          rw [hp, Option.getD_some, Option.isSome_some] at hlk
          have HF : Hid (isT ord z m = false) := HNo.out (by unfold okAt; rw [HZ.out, hp]; rfl)
          clear hp
          go_wp2_with fail
          go_ret
          exact ⟨ret_bool HF.out.symm, HB.out.trans (HB2.out.mono hz)⟩
        | none =>
          rw [hp, Option.getD_none, Option.isSome_none] at hlk
          by_cases h0 : 0 ≤ x
          · by_cases h1 : x < (ord.length : Int)
            · have HK : Hid (okAt ord k = true) := by
                show _ = _
                unfold okAt; rw [HZ.out, hp, decide_eq_true ⟨h0, h1⟩]; rfl
              have hkw : (Lit.int .i64 (k : Int)).wf = true := WalkArith.wf_i64 (by omega)
              have HKw := Lib.hid hkw
              have HXw := Lib.hid hwa
              clear hp hkw hwa
              go_wp2_with (at_mapUpdate; refine wpList_map_put rfl _ _ _ rfl wo.heap.size k (posF ord k) rfl HMp.out (by unfold maxLen; omega) x k rfl rfl HXw.out HKw.out ?_)
              intro w1 hM1 hgrow
              have HM1 := Lib.hid hM1
              have HG1 := Lib.hid hgrow
              clear hM1 hgrow
              go_wp2_with fail
              go_roundw
              case rel =>
                refine ⟨k + 1, hlt, by go_num, ?_, (World.cell?_of_block (HG1.out.block _ hBlt (by simp))).trans hcB, HB2.out.grown HG1.out hz2 (fun j hj => by cases hj; exact Nat.le_refl _), fun j hj => ?_⟩
                · show MapAt w1 wo.heap.size (k + 1) (putF (posF ord k) (ord.getD k 0) k)
                  rw [HZ.out]; exact HM1.out
                · by_cases hjk : j < k
                  · exact HAll.out j hjk
                  · obtain rfl : j = k := by omega
                    exact HK.out
              case measure => simp [intOf]; omega
            · have HF : Hid (isT ord z m = false) := HNo.out (by unfold okAt; rw [decide_eq_false (fun h => h1 (by rw [← HZ.out]; exact h.2))]; simp)
              clear hp
              go_wp2_with fail
              go_ret
              exact ⟨ret_bool HF.out.symm, HB.out.trans (HB2.out.mono hz)⟩
          · have HF : Hid (isT ord z m = false) := HNo.out (by unfold okAt; rw [decide_eq_false (fun h => h0 (by rw [← HZ.out]; exact h.1))]; simp)
            clear hp
            go_wp2_with fail
            go_ret
            exact ⟨ret_bool HF.out.symm, HB.out.trans (HB2.out.mono hz)⟩
      · obtain rfl : k = ord.length := by omega
        have hE3 := HE2.out.below HB2.out (Nat.le_refl _)
        have hwz : ∀ i, i < m → (Lit.int .i64 (z i 0)).wf = true ∧ (Lit.int .i64 (z i 1)).wf = true := fun i hi => by
          have := mayE_at HM.out hi
          have h5 : ord.length ≤ 500 := by
            have := HY.out
            unfold ofB at this
            rw [Bool.and_eq_true] at this
            have := of_decide_eq_true this.1
            omega
          exact ⟨WalkArith.wf_i64 (by omega), WalkArith.wf_i64 (by omega)⟩
        have hC := containsE_any 93 #[.pointer (some ⟨wo.heap.size + 1, 0, none⟩)] (fun i => decide (posI ord (z i 1) ≤ posI ord (z i 0))) (enters_of Tryd.func93 (by kernel_rfl) rfl) ad m c z wa hE3
          (fun W i hi hW => isf_any (wo.heap.size + 1) wo.heap.size ord.length (posF ord ord.length) (z i 0) (z i 1) wa W hW hBlt (by omega) hcB HMp.out (hwz i hi).1 (hwz i hi).2)
        have hF : isT ord z m = !(List.range m).any fun i => decide (posI ord (z i 1) ≤ posI ord (z i 0)) := by
          unfold isT
          rw [HY.out, okP_yes HAll.out, Bool.true_and, Bool.true_and]
        generalize (List.range m).any (fun i => decide (posI ord (z i 1) ≤ posI ord (z i 0))) = q at *
        have HC := Lib.hid hC
        have HF := Lib.hid hF
        clear hC hF hwz hE3
        go_wp2_with fail
        go_fit HC.out
        rintro e w' ⟨rfl, hB'⟩
        have HB' := Lib.hid hB'
        clear hB'
        go_wp2_with fail
        go_ret
        exact ⟨ret_bool HF.out.symm, HB.out.trans ((HB2.out.trans (HB'.out.mono hz2)).mono hz)⟩
  · have HB := Lib.hid hB
    have HF : Hid (isT ord z m = false) := by
      show _ = _
      unfold isT; rw [hno]; rfl
    clear hB hno
    go_wp2_with fail
    go_ret
    exact ⟨ret_bool HF.out.symm, HB.out⟩
end Go.Proofs.YtafdijcolponjaaDoor

namespace Go.Proofs.YtafdijcolponjaaDoor
open Go.RowKit

theorem posF_at {ord : List Int} : ∀ {k : Nat} {x p : Int}, posF ord k x = some p → 0 ≤ p ∧ p < k
  | 0, x, p, h => by cases h
  | k + 1, x, p, h => by
    have h' : putF (posF ord k) (ord.getD k 0) k x = some p := h
    unfold putF at h'
    split at h'
    · cases h'; omega
    · have := posF_at h'; omega
theorem posF_isSome {ord : List Int} : ∀ {k : Nat} {x : Int}, (posF ord k x).isSome = true ↔ ∃ j, j < k ∧ ord.getD j 0 = x
  | 0, x => by simp [posF]
  | k + 1, x => by
    have h' : posF ord (k + 1) x = if x = ord.getD k 0 then some (k : Int) else posF ord k x := rfl
    rw [h']
    by_cases hx : x = ord.getD k 0
    · rw [if_pos hx]
      exact ⟨fun _ => ⟨k, Nat.lt_succ_self k, hx.symm⟩, fun _ => rfl⟩
    · rw [if_neg hx, posF_isSome]
      constructor
      · rintro ⟨j, h1, h2⟩; exact ⟨j, by omega, h2⟩
      · rintro ⟨j, h1, h2⟩
        refine ⟨j, ?_, h2⟩
        by_cases hj : j < k
        · exact hj
        · obtain rfl : j = k := by omega
          exact absurd h2.symm hx
theorem pos_all {ord : List Int} (h : ∀ i, i < ord.length → okAt ord i = true) {x : Nat} (hx : x < ord.length) : ∃ p, posF ord ord.length x = some p := by
  have hr : ∀ i, i < ord.length → 0 ≤ ord.getD i 0 ∧ ord.getD i 0 < (ord.length : Int) := fun i hi => by
    have := h i hi
    unfold okAt at this
    rw [Bool.and_eq_true] at this
    exact of_decide_eq_true this.2
  have hnd : ∀ i j, j < i → i < ord.length → ord.getD j 0 ≠ ord.getD i 0 := fun i j hj hi he => by
    have h1 := h i hi
    unfold okAt at h1
    rw [Bool.and_eq_true] at h1
    have h2 := posF_isSome.2 ⟨j, hj, he⟩
    have h3 := h1.1
    cases hp : posF ord i (ord.getD i 0) with
    | some v => rw [hp] at h3; cases h3
    | none => rw [hp] at h2; cases h2
  have hm : x ∈ (List.range ord.length).map fun i => (ord.getD i 0).toNat := by
    refine all_in ?_ (fun y hy => ?_) (by simp) hx
    · rw [List.nodup_iff_pairwise_ne, List.pairwise_map]
      refine List.Pairwise.imp_of_mem ?_ (List.pairwise_lt_range (n := ord.length))
      intro a b ha hb hab he
      have hb' := List.mem_range.1 hb
      have r1 := hr a (List.mem_range.1 ha)
      have r2 := hr b hb'
      exact hnd b a hab hb' (by omega)
    · obtain ⟨i, hi, rfl⟩ := List.mem_map.1 hy
      have := hr i (List.mem_range.1 hi)
      omega
  obtain ⟨i, hi, he⟩ := List.mem_map.1 hm
  have hi' := List.mem_range.1 hi
  have r1 := hr i hi'
  have := posF_isSome.2 ⟨i, hi', (by omega : ord.getD i 0 = (x : Int))⟩
  exact Option.isSome_iff_exists.1 this
def posV (ord : List Int) (k : Nat) (x : Int) : Int := ((posF ord k x).map (· + 1)).getD 0
def posL (ord : List Int) (n k : Nat) : List Int := (List.range n).map fun x => posV ord k (x : Nat)
theorem posL_zero (ord : List Int) (n : Nat) : posL ord n 0 = List.replicate n 0 := List.ext_getElem (by simp [posL]) fun i h1 h2 => by simp [posL, posV, posF]
theorem posL_at {ord : List Int} {n k x : Nat} (h : x < n) : (posL ord n k).getD x 0 = posV ord k (x : Nat) := by simp [posL, h]
theorem posL_step {ord : List Int} {n k : Nat} {x : Nat} (h : ord.getD k 0 = (x : Int)) : (posL ord n k).set x ((k : Int) + 1) = posL ord n (k + 1) := by
  refine List.ext_getElem (by simp [posL]) fun i h1 h2 => ?_
  simp only [posL, List.getElem_set, List.getElem_map, List.getElem_range]
  have h' : ∀ y : Int, posF ord (k + 1) y = if y = ord.getD k 0 then some (k : Int) else posF ord k y := fun _ => rfl
  unfold posV
  rw [h', h]
  by_cases e : x = i
  · subst e; rw [if_pos rfl, if_pos rfl]; rfl
  · rw [if_neg e, if_neg (show ¬ ((i : Nat) : Int) = (x : Nat) by omega)]
theorem posV_rng (ord : List Int) (k : Nat) (x : Int) : 0 ≤ posV ord k x ∧ posV ord k x ≤ k := by
  unfold posV
  cases hp : posF ord k x with
  | none => exact ⟨Int.le_refl _, by show (0 : Int) ≤ _; omega⟩
  | some p =>
    have := posF_at hp
    show 0 ≤ p + 1 ∧ p + 1 ≤ (k : Int)
    omega
theorem posV_pos {ord : List Int} {k : Nat} {x : Int} : 0 < posV ord k x ↔ (posF ord k x).isSome = true := by
  unfold posV
  cases hp : posF ord k x with
  | none => simp
  | some p =>
    have := posF_at hp
    constructor
    · intro _; rfl
    · intro _; show 0 < p + 1; omega
theorem posV_posI {ord : List Int} (h : ∀ i, i < ord.length → okAt ord i = true) {x : Nat} (hx : x < ord.length) : posV ord ord.length x = posI ord x + 1 := by
  obtain ⟨p, hp⟩ := pos_all h hx
  unfold posV posI
  rw [hp]; rfl
def RIsRel (w : World) (ord : List Int) (i : Value) (wr : World) : Prop :=
  ∃ k : Nat, k ≤ ord.length ∧ i = .int .i64 k ∧ IntRow wr w.heap.size ord.length (posL ord ord.length k) ∧ Below w.heap.size w wr ∧ ∀ j, j < k → okAt ord j = true
def RIsRel2 (wb : World) (ord : List Int) (z : Nat → Nat → Int) (m : Nat) (i : Value) (wr : World) : Prop :=
  ∃ k : Nat, k ≤ m ∧ i = .int .i64 k ∧ Same wb wr ∧ ∀ j, j < k → decide (posI ord (z j 1) ≤ posI ord (z j 0)) = false
theorem any_some {m : Nat} {p : Nat → Bool} {k : Nat} (hk : k < m) (h : p k = true) : (List.range m).any p = true := any_idx hk h

set_option maxRecDepth 20000 in
set_option maxHeartbeats 1000000 in
theorem ris_any (a : Option Addr) (len cap : Nat) (ord : List Int) (ad : Option Addr) (m c : Nat) (z : Nat → Nat → Int) (w : World) (hO : Src w a len cap 1 (intl ord)) (hE : EdgesIn w ad m z) :
    Calls Tryd.prog 67 #[.slice a len cap, .slice ad m c] w (AskEnds w (isT ord z m)) := by
  obtain ⟨i0, hi, hz0, hz1, hz2⟩ := info_parts infoInt
  have hl : ord.length = len := by have := hO.1; simpa [intl] using this
  have hle := hO.2.2.1
  have hx := hO.2.2.2.1
  unfold maxLen at hx
  subst hl
  have HA := Lib.hid hO
  have HE := Lib.hid hE
  have HMay := Lib.hid (rg_may ord.length ad m c z w hE)
  have hm0 := hE.1
  clear hO hE
  go_enter Tryd.func67, Tryd.ntmps67
  go_wp2_with fail
  go_fit HMay.out
  rintro e w' ⟨rfl, rfl⟩
  cases hob : ofB ord.length z m with
  | false =>
    have HF : Hid (isT ord z m = false) := by
      show _ = _
      unfold isT; rw [hob]; rfl
    clear hob
    go_wp2_with fail
    go_ret
    exact ⟨ret_bool HF.out.symm, Below.refl _ _⟩
  | true =>
    have HY := Lib.hid hob
    obtain ⟨hn5, hM⟩ : ord.length ≤ 500 ∧ mayE ord.length z m = true := by
      unfold ofB at hob
      rw [Bool.and_eq_true, Int.toNat_natCast] at hob
      have := of_decide_eq_true hob.1
      exact ⟨by omega, hob.2⟩
    have HM := Lib.hid hM
    clear hob hM
    go_wp2_with (at_make; refine wpList_make_full _ rfl _ _ 22 rfl 0 3 i0 (.int .i64 0) 1 Tryd.underlying22 hi hz0 hz1 .i64 .i64 _ _ ord.length rfl rfl rfl rfl (by rw [hz2]; omega) (by unfold maxLen; omega) (Nat.zero_le _) ?_)
    intro w1 hown hgrow
    have hB1 : Below w.heap.size w w1 := (Below.refl _ _).grown hgrow (Nat.le_refl _) (fun k hk => by cases hk)
    have hR1 : IntRow w1 w.heap.size ord.length (posL ord ord.length 0) := by
      have e : (madeCells #[Value.int .i64 0] ord.length).toList = intl (List.replicate ord.length 0) := intl_made _
      rw [e] at hown
      rw [posL_zero]; exact hown
    have HB1 := Lib.hid hB1
    have HR1 := Lib.hid hR1
    clear hown hgrow hB1 hR1
    go_wp2_with fail
    go_loopw [7] (fun i wr => RIsRel w ord i wr) (fun i _ => ord.length - (intOf i).toNat)
    case atStart => exact ⟨0, Nat.zero_le _, rfl, HR1.out, HB1.out, fun j hj => absurd hj (Nat.not_lt_zero j)⟩
    case round =>
      clear HR1 HB1
      obtain ⟨k, hk, rfl, hrow, hB, hall⟩ := hrel
      obtain ⟨wa, rfl⟩ : ∃ x, x = wr := ⟨_, rfl⟩
      have HR := Lib.hid hrow
      have HB := Lib.hid hB
      have HAll := Lib.hid hall
      have hgl := hrow.lt
      have hz := hB.size
      have HA3 := Lib.hid (HA.out.belowAll hB (Nat.le_refl _))
      clear hrow hB hall
      by_cases hlt : k < ord.length
      · obtain ⟨b1, o1, hab, hc⟩ := HA3.out.plain (by omega)
        cases hab
        have hc1 := hc k hlt
        have hno : ∀ (_ : okAt ord k = false), isT ord z m = false := fun h => by
          unfold isT; rw [okP_no hlt h]; simp
        have HNo := Lib.hid hno
        have hk0 : (0 : Int) ≤ (k : Int) := by omega
        have hk1 : (k : Int) < (ord.length : Int) := by omega
        by_cases hr : 0 ≤ ord.getD k 0 ∧ ord.getD k 0 < (ord.length : Int)
        · obtain ⟨x, hxk⟩ := Int.eq_ofNat_of_zero_le hr.1
          have hxn : x < ord.length := by omega
          have z0 := HR.out.cell hxn
          have f0 := HR.out.free x
          rw [posL_at hxn] at z0
          have hv := posV_rng ord k (x : Nat)
          have hp := posV_pos (ord := ord) (k := k) (x := (x : Nat))
          have HP := Lib.hid hp
          rw [hxk] at hc1
          have HX := Lib.hid hxk
          have hx0 : (0 : Int) ≤ (x : Int) := by omega
          have hx1 : (x : Int) < (ord.length : Int) := by omega
          generalize hvv : posV ord k (x : Nat) = v at *
          have HV := Lib.hid hvv
          obtain ⟨hv0, hv1⟩ := hv
          clear hc hr hxk hno hp hvv
          by_cases hvp : 0 < v
          · have HF : Hid (isT ord z m = false) := HNo.out (by
              unfold okAt
              rw [HX.out]
              have := HP.out.1 hvp
              cases hq : posF ord k (x : Nat) with
              | some u => rfl
              | none => rw [hq] at this; cases this)
            go_wp2_with fail
            go_ret
            exact ⟨ret_bool HF.out.symm, HB.out⟩
          · have HK : Hid (okAt ord k = true) := by
              show _ = _
              unfold okAt
              rw [HX.out, decide_eq_true ⟨hx0, hx1⟩]
              cases hq : posF ord k (x : Nat) with
              | some u => exact absurd (HP.out.2 (by rw [hq]; rfl)) hvp
              | none => rfl
            go_wp2_with fail
            go_roundw
            case rel =>
              refine ⟨k + 1, hlt, by go_num, ?_, HB.out.setCell (Nat.le_refl _) _, fun j hj => ?_⟩
              · rw [← posL_step HX.out]; exact HR.out.put x _
              · by_cases hjk : j < k
                · exact HAll.out j hjk
                · obtain rfl : j = k := by omega
                  exact HK.out
            case measure => simp [intOf]; omega
        · have HF : Hid (isT ord z m = false) := HNo.out (by unfold okAt; rw [decide_eq_false hr]; simp)
          generalize ord.getD k 0 = x at *
          clear hc hno
          by_cases h0 : 0 ≤ x
          · have h1 : ¬ x < (ord.length : Int) := fun h => hr ⟨h0, h⟩
            clear hr
            go_wp2_with fail
            go_ret
            exact ⟨ret_bool HF.out.symm, HB.out⟩
          · clear hr
            go_wp2_with fail
            go_ret
            exact ⟨ret_bool HF.out.symm, HB.out⟩
      · obtain rfl : k = ord.length := by omega
        have HE3 := Lib.hid (HE.out.below HB.out (Nat.le_refl _))
        have hisT : isT ord z m = !(List.range m).any fun i => decide (posI ord (z i 1) ≤ posI ord (z i 0)) := by
          unfold isT
          rw [HY.out, okP_yes HAll.out, Bool.true_and, Bool.true_and]
        have HIs := Lib.hid hisT
        clear hisT
        go_wp2_with fail
        go_loopw [8] (fun i wr => RIsRel2 wa ord z m i wr) (fun i _ => m - (intOf i).toNat)
        case atStart => exact ⟨0, Nat.zero_le _, rfl, Same.refl _, fun j hj => absurd hj (Nat.not_lt_zero j)⟩
        case round =>
          obtain ⟨j, hj, rfl, hS, hno⟩ := hrel
          have HS := Lib.hid hS
          have HN := Lib.hid hno
          clear hS hno
          by_cases hjm : j < m
          · obtain ⟨g1, rfl, hg, hc⟩ := HE3.out.2 (by omega)
            obtain ⟨e0, e1⟩ := hc j hjm
            have hr := mayE_at HM.out hjm
            obtain ⟨x, hx'⟩ := Int.eq_ofNat_of_zero_le hr.1.1
            obtain ⟨y, hy'⟩ := Int.eq_ofNat_of_zero_le hr.2.1
            rw [hx'] at e0
            rw [hy'] at e1
            have hxn : x < ord.length := by omega
            have hyn : y < ord.length := by omega
            have z0 := HR.out.cell hxn
            have z1 := HR.out.cell hyn
            rw [posL_at hxn, posV_posI HAll.out hxn] at z0
            rw [posL_at hyn, posV_posI HAll.out hyn] at z1
            have r1 := posV_rng ord ord.length (x : Nat)
            have r2 := posV_rng ord ord.length (y : Nat)
            rw [posV_posI HAll.out hxn] at r1
            rw [posV_posI HAll.out hyn] at r2
            have e0 := HS.out.cell e0
            have e1 := HS.out.cell e1
            have z0 := HS.out.cell z0
            have z1 := HS.out.cell z1
            have HX := Lib.hid hx'
            have HYy := Lib.hid hy'
            generalize hp0 : posI ord (x : Nat) = p0 at *
            generalize hp1 : posI ord (y : Nat) = p1 at *
            have HP0 := Lib.hid hp0
            have HP1 := Lib.hid hp1
            have hj0 : (0 : Int) ≤ (j : Int) := by omega
            have hj1 : (j : Int) < (m : Int) := by omega
            have hx0 : (0 : Int) ≤ (x : Int) := by omega
            have hx1 : (x : Int) < (ord.length : Int) := by omega
            have hy0 : (0 : Int) ≤ (y : Int) := by omega
            have hy1 : (y : Int) < (ord.length : Int) := by omega
            clear hc hr hx' hy' hp0 hp1
            by_cases hle : p1 ≤ p0
            · have hle' : p1 + 1 ≤ p0 + 1 := by omega
              have HF : Hid (isT ord z m = false) := by
                show _ = _
                rw [HIs.out, any_some hjm (by show decide _ = true; rw [HX.out, HYy.out, HP0.out, HP1.out]; exact decide_eq_true hle)]; rfl
              generalize p0 + 1 = q0 at *
              generalize p1 + 1 = q1 at *
              clear r1 r2
              go_wp2_with fail
              go_quiet (fail)
              go_wp2_with fail
              go_ret
              exact ⟨ret_bool HF.out.symm, HB.out.trans (HS.out.drewN _).below⟩
            · have hle' : ¬ p1 + 1 ≤ p0 + 1 := by omega
              have HK : Hid (decide (posI ord (z j 1) ≤ posI ord (z j 0)) = false) := by
                show _ = _
                rw [HX.out, HYy.out, HP0.out, HP1.out]; exact decide_eq_false hle
              generalize p0 + 1 = q0 at *
              generalize p1 + 1 = q1 at *
              clear r1 r2
              go_wp2_with fail
              go_quiet (fail)
              go_wp2_with fail
              go_roundw
              case rel =>
                refine ⟨j + 1, hjm, by go_num, HS.out.drewN _, fun i hi => ?_⟩
                by_cases hij : i < j
                · exact HN.out i hij
                · obtain rfl : i = j := by omega
                  exact HK.out
              case measure => simp [intOf]; omega
          · obtain rfl : j = m := by omega
            have HF : Hid (isT ord z j = true) := by
              show _ = _
              rw [HIs.out, any_none HN.out]; rfl
            go_wp2_with fail
            go_ret
            exact ⟨ret_bool HF.out.symm, HB.out.trans HS.out.below⟩
end Go.Proofs.YtafdijcolponjaaDoor
