/- The contracts of slices.Min at numbers and of a ring's Is. Conditions: those in each statement; where the table lies. -/
import Derived.Test.YtafdijcolponjaaDoorRingH
namespace Go.Proofs.YtafdijcolponjaaDoor
open Go.RowKit

def minF (l : List Int) : Int := l.foldl (fun a b => min a b) (l.getD 0 0)
theorem foldl_min : ∀ (l : List Int) (a : Int), l.foldl (fun a b => min a b) a ≤ a ∧ (∀ x ∈ l, l.foldl (fun a b => min a b) a ≤ x) ∧ (l.foldl (fun a b => min a b) a = a ∨ l.foldl (fun a b => min a b) a ∈ l)
  | [], a => ⟨Int.le_refl _, (fun x hx => by cases hx), .inl rfl⟩
  | y :: l, a => by
    obtain ⟨h1, h2, h3⟩ := foldl_min l (min a y)
    rw [List.foldl_cons]
    refine ⟨by omega, fun x hx => ?_, ?_⟩
    · rcases List.mem_cons.1 hx with rfl | hx
      · omega
      · exact h2 x hx
    · rcases h3 with h3 | h3
      · rw [h3]
        by_cases h : a ≤ y
        · exact .inl (by omega)
        · exact .inr (by rw [show min a y = y by omega]; simp)
      · exact .inr (List.mem_cons_of_mem _ h3)
theorem minF_first {l : List Int} : minF l = l.getD 0 0 ↔ ∀ i, i < l.length → l.getD 0 0 ≤ l.getD i 0 := by
  obtain ⟨h1, h2, h3⟩ := foldl_min l (l.getD 0 0)
  unfold minF
  constructor
  · intro h i hi
    have := h2 (l.getD i 0) (by simp [List.getD, hi])
    omega
  · intro h
    rcases h3 with h3 | h3
    · exact h3
    · obtain ⟨i, hi, he⟩ := List.mem_iff_getElem.1 h3
      have := h i hi
      have e : l.getD i 0 = l[i] := by simp [List.getD, hi]
      omega
def MinRel (l : List Int) (w : World) (v i : Value) (wr : World) : Prop :=
  ∃ k : Nat, 1 ≤ k ∧ k ≤ l.length ∧ i = .int .i64 k ∧ v = .int .i64 ((l.take k).foldl (fun a b => min a b) (l.getD 0 0)) ∧ w = wr

set_option maxRecDepth 20000 in
set_option maxHeartbeats 1000000 in
theorem min_any (a : Option Addr) (len cap : Nat) (l : List Int) (w : World) (h : Src w a len cap 1 (intl l)) (h0 : 0 < len) :
    Calls Tryd.prog 106 #[.slice a len cap] w fun e w' => e = .returned (.int .i64 (minF l)) ∧ w = w' := by
  have hl : l.length = len := by have := h.1; simpa [intl] using this
  have hx := h.2.2.2.1
  have hle := h.2.2.1
  unfold maxLen at hx
  subst hl
  obtain ⟨b, o, rfl, hc⟩ := h.plain h0
  have HC := Lib.hid hc
  have c0 := hc 0 h0
  have hl1 : ¬ (l.length : Int) < 1 := by omega
  have hl0 : (0 : Int) < (l.length : Int) := by omega
  have h1f : Hid ((l.take 1).foldl (fun a b => min a b) (l.getD 0 0) = l.getD 0 0) := by
    show _ = _
    cases l with
    | nil => cases h0
    | cons x l => simp
  have HMf : Hid (minF l = (l.take l.length).foldl (fun a b => min a b) (l.getD 0 0)) := by show _ = _; rw [List.take_length]; rfl
  clear hc h
  obtain ⟨x0, hx0⟩ : ∃ x, l.getD 0 0 = x := ⟨_, rfl⟩
  rw [hx0, Nat.add_zero] at c0
  have HX0 := Lib.hid hx0
  clear hx0
  go_enter Tryd.func106, Tryd.ntmps106
  go_wp2_with fail
  go_loopw [3, 4] (fun v i wr => MinRel l w v i wr) (fun _ i _ => l.length - (intOf i).toNat)
  case atStart => exact ⟨1, Nat.le_refl _, h0, rfl, by rw [h1f.out, HX0.out], rfl⟩
  case round =>
    obtain ⟨k, hk1, hk, rfl, rfl, rfl⟩ := hrel
    by_cases hlt : k < l.length
    · have hki : (k : Int) < (l.length : Int) := by omega
      have hk0 : (0 : Int) ≤ (k : Int) := by omega
      have cx := HC.out k hlt
      have htk : (l.take (k + 1)).foldl (fun a b => min a b) (l.getD 0 0) = min ((l.take k).foldl (fun a b => min a b) (l.getD 0 0)) (l.getD k 0) := by
        rw [List.take_succ_eq_append_getElem hlt, List.foldl_append]
        simp [List.getD, hlt]
      generalize (l.take k).foldl (fun a b => min a b) (l.getD 0 0) = u at *
      generalize l.getD k 0 = x at *
      have HTk := Lib.hid htk
      clear htk
      by_cases hux : u ≤ x
      · have hm : min u x = u := by omega
        have hxu : ¬ x < u := by omega
        go_wp2_with fail
        go_roundw
        case rel => exact ⟨k + 1, by omega, hlt, by go_num, by rw [HTk.out, hm], rfl⟩
        case measure => simp [intOf]; omega
      · have hm : min u x = x := by omega
        have hxu : x < u := by omega
        go_wp2_with fail
        go_roundw
        case rel => exact ⟨k + 1, by omega, hlt, by go_num, by rw [HTk.out, hm], rfl⟩
        case measure => simp [intOf]; omega
    · obtain rfl : k = l.length := by omega
      go_wp2_with fail
      go_ret
      exact ⟨ret_int HMf.out.symm, rfl⟩

def okR (x : List Int) (L : List (Nat × Nat)) (i : Nat) : Bool := decide (x.getD i 0 ∉ x.take i) && hasR L (x.getD i 0) (x.getD ((i + 1) % x.length) 0)
/-- Is a list a ring of a graph? -/
def ringB (x : List Int) (L : List (Nat × Nat)) : Bool := decide (x ≠ []) && (decide (∀ i, i < x.length → x.getD 0 0 ≤ x.getD i 0) && (List.range x.length).all fun i => okR x L i)
def RgIsEnds (n : Int) (x : List Int) (z : Nat → Nat → Int) (m : Nat) (w : World) (e : Ending) (w' : World) : Prop :=
  e = .returned (.bool (ofB n z m && ringB x (ofZ n.toNat z m))) ∧ Below w.heap.size w w'
def RgIsRel (wo : World) (mb : Nat) (x : List Int) (L : List (Nat × Nat)) (i : Value) (wr : World) : Prop :=
  ∃ (k : Nat) (f : Int → Option Int), k ≤ x.length ∧ i = .int .i64 k ∧ MapAt wr mb k f ∧ (∀ v, (f v).getD 0 = ((x.take k).count v : Nat)) ∧ Below wo.heap.size wo wr ∧ ∀ j, j < k → okR x L j = true
theorem below_drewN {B : Nat} {w : World} (k : Nat) : Below B w (w.drewN k) := ⟨rfl, rfl, rfl, Nat.le_refl _, fun _ _ => rfl⟩
theorem src_drewN {w : World} {a : Option Addr} {n c k : Nat} {l : List Int} (h : Src w a n c 1 (intl l)) : Src (w.drewN k) a n c 1 (intl l) := h.belowAll (below_drewN (B := w.heap.size) k) (Nat.le_refl _)

set_option maxRecDepth 20000 in
set_option maxHeartbeats 4000000 in
theorem rgis_any (n : Int) (ax : Option Addr) (cx : Nat) (x : List Int) (ad : Option Addr) (m c : Nat) (z : Nat → Nat → Int) (w : World) (hx : Src w ax x.length cx 1 (intl x)) (hwf : ∀ v ∈ x, (Lit.int .i64 v).wf = true) (hE : EdgesIn w ad m z) (hT : TabIs w) :
    Calls Tryd.prog 83 #[.int .i64 n, .slice ax x.length cx, .slice ad m c] w (RgIsEnds n x z m w) := by
  have hxl : x.length < maxLen ∨ x.length = maxLen := by have := hx.2.2.2.1; have := hx.2.2.1; omega
  have hmx : maxLen = 9223372036854775807 := rfl
  have HO := Lib.hid (gr_of n ad m c z w hE)
  have HT := Lib.hid hT
  have HX := Lib.hid hx
  have HWf := Lib.hid hwf
  have hmm := @run_makeMap Tryd.prog
  clear hE hT hx hwf
  unfold RgIsEnds
  obtain ⟨bb, hbb⟩ : ∃ b, (ofB n z m && ringB x (ofZ n.toNat z m)) = b := ⟨_, rfl⟩
  rw [hbb]
  have HBb := Lib.hid hbb
  clear hbb
  go_enter Tryd.func83, Tryd.ntmps83
  go_wp2_with fail
  go_fit HO.out
  rintro e wo (⟨hyes, b, F, rfl, hG, hF, hB⟩ | ⟨hno, rfl, hB⟩)
  · have HY := Lib.hid hyes
    have hLr : ∀ e ∈ ofZ n.toNat z m, e.1 < n.toNat ∧ e.2 < n.toNat := by
      unfold ofB at hyes
      rw [Bool.and_eq_true] at hyes
      exact ofZ_inr hyes.2
    generalize ofZ n.toNat z m = L at *
    have HG := Lib.hid hG
    have HB := Lib.hid hB
    have hz := hB.size
    have hsx := HX.out.belowAll hB (Nat.le_refl _)
    clear hyes hLr hG hF hB HO
    by_cases hx0 : x = []
    · have hl0 : x.length = 0 := by rw [hx0]; rfl
      have HF : Hid (bb = false) := by
        show _ = _
        rw [← HBb.out, ringB, decide_eq_false (fun h => h hx0), Bool.false_and, Bool.and_false]
      rw [hl0]
      clear hx0 hsx
      go_wp2_with fail
      go_quiet (fail)
      go_wp2_with fail
      go_ret
      exact ⟨ret_bool HF.out.symm, HB.out.trans (below_drewN _)⟩
    · have hl0 : 0 < x.length := List.length_pos_iff.2 hx0
      have HSx := Lib.hid hsx
      obtain ⟨b1, o1, rfl, hc1⟩ := hsx.plain hl0
      have hne0 : ((x.length : Int) == 0) = false := by rw [beq_eq_false_iff_ne]; omega
      have hne1 : ¬ (x.length : Int) = 0 := by omega
      have hl0' : (0 : Int) < (x.length : Int) := by omega
      have c0 := hc1 0 hl0
      rw [Nat.add_zero] at c0
      have HC1 := Lib.hid hc1
      have HMin : Hid (∀ N, Calls Tryd.prog 106 #[.slice (some ⟨b1, o1, none⟩) x.length cx] (wo.drewN N) fun e w' => e = .returned (.int .i64 (minF x)) ∧ w' = wo.drewN N) := fun N =>
        (min_any _ _ _ x (wo.drewN N) (src_drewN HSx.out) hl0).mono fun e w' h => ⟨h.1, h.2.symm⟩
      have hmf := minF_first (l := x)
      clear hc1 hsx
      by_cases hmn : minF x = x.getD 0 0
      · rw [hmn] at HMin
        have HLo := Lib.hid (hmf.1 hmn)
        obtain ⟨x0, hx0e⟩ : ∃ v, x.getD 0 0 = v := ⟨_, rfl⟩
        rw [hx0e] at HMin HLo c0
        have HX0 := Lib.hid hx0e
        clear hmn hmf hx0e
        go_wp2_with fail
        go_quiet (first | (go_at_call 106; exact Calls.quiet_of_same (HMin.out _)) | fail)
        go_wp2_with fail
        have HBd : Hid (ringB x L = (List.range x.length).all fun i => okR x L i) := by
          show _ = _
          unfold ringB
          rw [decide_eq_true hx0, decide_eq_true (fun i hi => by rw [HX0.out]; exact HLo.out i hi), Bool.true_and, Bool.true_and]
        clear hx0
        go_loopw [36] (fun i wr => RgIsRel wo wo.heap.size x L i wr) (fun i _ => x.length - (intOf i).toNat)
        case atStart => exact ⟨0, fun _ => none, Nat.zero_le _, rfl, mapAt_made _, fun v => by simp, (below_drewN _).alloc (Nat.le_refl _) _, fun j hj => absurd hj (Nat.not_lt_zero j)⟩
        case round =>
          obtain ⟨k, f, hk, rfl, hmap, hf, hC, hall⟩ := hrel
          obtain ⟨wa, rfl⟩ : ∃ y, y = wr := ⟨_, rfl⟩
          have HAll := Lib.hid hall
          have HC := Lib.hid hC
          have HMp := Lib.hid hmap
          have HFf := Lib.hid hf
          have hCw := HB.out.trans (hC.mono hz)
          have HCw := Lib.hid hCw
          by_cases hlt : k < x.length
          · have hr : (k + 1) % x.length < x.length := Nat.mod_lt _ hl0
            have hsa := HSx.out.belowAll hC (Nat.le_refl _)
            obtain ⟨b2, o2, he2, hc2⟩ := hsa.plain hl0
            cases he2
            have ca := hc2 k hlt
            have cy := hc2 _ hr
            have hwa := HWf.out (x.getD k 0) (by simp [List.getD, hlt])
            have hlk := hmap.look hwa
            rw [hf] at hlk
            have hrem : ((k : Int) + 1).tmod (x.length : Int) = (((k + 1) % x.length : Nat) : Int) := by
              rw [Int.tmod_eq_emod_of_nonneg (by omega)]
              exact (Int.natCast_emod (k + 1) x.length).symm
            have hHas := gr_has b n.toNat F L (x.getD k 0) (x.getD ((k + 1) % x.length) 0) wa (HG.out.below hC (Nat.le_refl _))
            have HOk : Hid (okR x L k = (decide (x.getD k 0 ∉ x.take k) && hasR L (x.getD k 0) (x.getD ((k + 1) % x.length) 0))) := rfl
            have HMem : Hid (x.getD k 0 ∈ x.take k ↔ 0 < (x.take k).count (x.getD k 0)) := by
              show _ ↔ _
              exact List.count_pos_iff.symm
            have HStep : Hid (∀ v, ((x.take (k + 1)).count v : Nat) = (x.take k).count v + if x.getD k 0 = v then 1 else 0) := fun v => by
              rw [List.take_succ_eq_append_getElem hlt, List.count_append]
              simp only [List.getD, List.getElem?_eq_getElem hlt, Option.getD_some, List.count_cons, List.count_nil, beq_iff_eq, Nat.zero_add]
            have hcnt : (x.take k).count (x.getD k 0) ≤ k := by
              have h1 := List.count_le_length (a := x.getD k 0) (l := x.take k)
              rw [List.length_take] at h1; omega
            have HKw := Lib.hid hwa
            generalize (k + 1) % x.length = r at *
            generalize x.getD r 0 = y at *
            generalize x.getD k 0 = a at *
            have HHas := Lib.hid hHas
            have hk0 : (0 : Int) ≤ (k : Int) := by omega
            have hk1 : (k : Int) < (x.length : Int) := by omega
            have hr0 : (0 : Int) ≤ (r : Int) := by omega
            have hr1 : (r : Int) < (x.length : Int) := by omega
            have HLk := Lib.hid hlk
            clear hmap hf hC hall hsa hc2 hHas hwa hCw
            by_cases hc : 0 < (x.take k).count a
            · have HF : Hid (bb = false) := by
                show _ = _
                rw [← HBb.out, HBd.out, List.all_eq_false.2 ⟨k, List.mem_range.2 hlt, by rw [HOk.out, decide_eq_false (fun h => h (HMem.out.2 hc))]; simp⟩, Bool.and_false]
              have hc' : (0 : Int) < ((x.take k).count a : Nat) := by omega
              generalize (x.take k).count a = cn at *
              clear hc
              go_wp2_with fail
              go_ret
              exact ⟨ret_bool HF.out.symm, HCw.out⟩
            · have hc0 : (x.take k).count a = 0 := by omega
              rw [hc0] at hlk
              have hlk' : (Instr.lookup 107 (.map (some wo.heap.size)) (.int .i64 a) false).run Tryd.prog wa = .ok (.int .i64 0) wa := hlk
              have HNm : Hid (decide (a ∉ x.take k) = true) := by
                show _ = _
                exact decide_eq_true fun h => hc (HMem.out.1 h)
              have HC0 := Lib.hid hc0
              clear hc hc0 hlk HLk
              cases hh : hasR L a y with
              | false =>
                rw [hh] at HHas
                have HF : Hid (bb = false) := by
                  show _ = _
                  rw [← HBb.out, HBd.out, List.all_eq_false.2 ⟨k, List.mem_range.2 hlt, by rw [HOk.out, hh]; simp⟩, Bool.and_false]
                clear hh
                go_wp2_with fail
                go_fit HHas.out
                rintro e w' ⟨rfl, rfl⟩
                go_wp2_with fail
                go_ret
                exact ⟨ret_bool HF.out.symm, HCw.out⟩
              | true =>
                rw [hh] at HHas
                have HOt : Hid (okR x L k = true) := by show _ = _; rw [HOk.out, HNm.out, hh]; rfl
                have HB1 : Hid (k < maxLen) := by show _ < _; omega
                have HVw : Hid ((Lit.int .i64 1).wf = true) := by show _ = _; decide
                clear hh
                go_wp2_with fail
                go_fit HHas.out
                rintro e w' ⟨rfl, rfl⟩
                go_wp2_with (at_mapUpdate; refine wpList_map_put rfl _ _ _ rfl wo.heap.size k f rfl HMp.out HB1.out a 1 rfl rfl HKw.out HVw.out ?_)
                intro w8 hM8 hgrow
                have HM8 := Lib.hid hM8
                have HG8 := Lib.hid hgrow
                clear hM8 hgrow
                go_wp2_with fail
                go_roundw
                case rel =>
                  refine ⟨k + 1, _, hlt, by go_num, HM8.out, fun v => ?_, HC.out.trans (Chg.below (chg_grown (F := (· = wo.heap.size)) HG8.out fun x hx => by cases hx; rfl) HC.out.size (fun j hj e => by omega)), fun j hj => ?_⟩
                  · unfold putF
                    rw [HStep.out]
                    by_cases hv : v = a
                    · subst hv
                      simp [HC0.out]
                    · rw [if_neg hv, if_neg (fun e => hv e.symm)]
                      exact HFf.out v
                  · by_cases hjk : j < k
                    · exact HAll.out j hjk
                    · obtain rfl : j = k := by omega
                      exact HOt.out
                case measure => simp [intOf]; omega
          · obtain rfl : k = x.length := by omega
            have HF : Hid (bb = true) := by
              show _ = _
              rw [← HBb.out, HY.out, HBd.out, List.all_eq_true.2 (fun i hi => HAll.out i (List.mem_range.1 hi))]; rfl
            clear hmap hf hC hall hCw
            go_wp2_with fail
            go_ret
            exact ⟨ret_bool HF.out.symm, HCw.out⟩
      · have HF : Hid (bb = false) := by
          show _ = _
          rw [← HBb.out, ringB, decide_eq_false (fun h => hmn (hmf.2 h)), Bool.false_and, Bool.and_false, Bool.and_false]
        generalize x.getD 0 0 = x0 at *
        generalize minF x = y0 at *
        have hnb : (y0 != x0) = true := by simp [hmn]
        clear hmf
        go_wp2_with fail
        go_quiet (first | (go_at_call 106; exact Calls.quiet_of_same (HMin.out _)) | fail)
        go_wp2_with fail
        go_ret
        exact ⟨ret_bool HF.out.symm, HB.out.trans (below_drewN _)⟩
  · have HF : Hid (bb = false) := by
      show _ = _
      rw [← HBb.out, hno, Bool.false_and]
    have HB := Lib.hid hB
    clear hno hB HO
    go_wp2_with fail
    go_quiet (fail)
    go_wp2_with fail
    go_ret
    exact ⟨ret_bool HF.out.symm, HB.out.trans (below_drewN _)⟩
end Go.Proofs.YtafdijcolponjaaDoor
