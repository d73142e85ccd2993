/- DomainKeeps returns true for every input. Condition: where the tables lie. -/
import Derived.Test.YtifjjcenmilohaaDoorDomI
import Derived.Test.YtifjjcenmilohaaDoorSlices
namespace Go.Proofs.YtifjjcenmilohaaDoor
open Go.RowKit

def KLoop1 (w0 : World) (d n : Nat) (sz X F : List Nat) (T : TM) (vw i : Value) (wr : World) : Prop :=
  ∃ k : Nat, k ≤ n ∧ i = .int .i64 k ∧ DomAt wr d F sz T ∧ WasAt wr vw k (fun v => leftL sz X (v : Nat)) F ∧ Below w0.heap.size w0 wr ∧ ∀ x, vw.ownBlock = some x → w0.heap.size ≤ x
def KLoop2 (w0 : World) (d n m : Nat) (sz X0 : List Nat) (C : List Int) (vw i : Value) (wr : World) : Prop :=
  ∃ (k : Nat) (F X : List Nat) (T : TM), k ≤ m ∧ k ≤ 60 ∧ i = .int .i64 k ∧ DomAt wr d F sz T ∧ DOk sz X T ∧ Kept0 C T ∧ T.ok k ∧ WasAt wr vw n (fun v => leftL sz X0 (v : Nat)) F ∧ (∀ q ∈ F, w0.heap.size ≤ q) ∧ Below w0.heap.size w0 wr
def KLoop3 (w0 : World) (d n : Nat) (sz X0 F : List Nat) (T : TM) (vw i : Value) (wr : World) : Prop :=
  ∃ k : Nat, k ≤ n ∧ i = .int .i64 k ∧ DomAt wr d F sz T ∧ WasAt wr vw n (fun v => leftL sz X0 (v : Nat)) F ∧ Below w0.heap.size w0 wr
theorem act_len (sz : List Nat) (T : TM) (v k : Int) (x : Nat) : (actT sz T v k x).cells.length = T.cells.length := by
  unfold actT setT TM.set; split <;> simp

theorem below_undrew {B : Nat} {w w' : World} (h : Below B w.drew w') : Below B w w' := ⟨h.os, h.tape, h.output, h.size, h.block⟩
theorem DOk.cells {sz X : List Nat} {T T' : TM} (h : DOk sz X T) (he : T'.cells = T.cells) : DOk sz X T' := ⟨h.rng, fun v hv => by rw [he]; exact h.cel v hv, by rw [he]; exact h.cl, h.xl⟩
theorem IsRowS.below {m : Nat} {w w' : World} {a : Option Addr} {len cap : Nat} {zs : Nat → Nat → Int} (h : IsRowS m w a len cap zs) {B : Nat} (hb : Below B w w') (hB : w.heap.size ≤ B) : IsRowS m w' a len cap zs := by
  rcases h with h | ⟨x, rfl, h1, h2, hc⟩
  · exact .inl h
  · refine .inr ⟨x, rfl, h1, h2, fun i hi j hj => ?_⟩
    have h := hc i hi j hj
    refine ⟨?_, h.2⟩
    have hlt := World.block_lt_of_cell? w (x.add (i * m + j)) h.1
    exact (World.cell?_of_block (a := x.add (i * m + j)) (hb.block _ (by omega))).trans h.1

set_option maxRecDepth 100000 in
set_option maxHeartbeats 4000000 in
theorem dkeeps_walk (a1 : Option Addr) (len1 cap1 : Nat) (z1 : List Int) (a2 : Option Addr) (len2 cap2 : Nat) (z2 : Nat → Nat → Int) (w : World)
    (h1 : IsRow .i64 w a1 len1 cap1 z1) (h2 : IsRowS 3 w a2 len2 cap2 z2) (hT : TabIs w) :
    Calls Tryd.prog 4 #[.slice a1 len1 cap1, .slice a2 len2 cap2] w (YesEnds w) := by
  have HW := Lib.hid (dworks_any w hT)
  have HT := Lib.hid hT
  have HI2 := Lib.hid h2
  have hl2 := h2.len_le
  have hsrc := h1.src (Nat.le_refl len1)
  obtain ⟨l, hl⟩ : ∃ l, l = z1.take len1 := ⟨_, rfl⟩
  have hsrc' : Src w a1 len1 cap1 1 (intl l) := by rw [hl]; exact hsrc
  have HS1 := Lib.hid hsrc'
  clear hT h1 h2 hsrc hsrc' hl
  obtain ⟨i0, hi, hz0, hz1, hz2⟩ := info_parts infoInts
  go_enter Tryd.func4, Tryd.ntmps4
  go_wp2_with fail
  go_fit HW.out
  rintro e wa ⟨rfl, hB1⟩
  have HF1 := Lib.hid (few_any a1 len1 cap1 l wa (HS1.out.belowAll hB1 (Nat.le_refl _)))
  have HB1 := Lib.hid hB1
  clear hB1
  go_wp2_with fail
  go_fit HF1.out
  rintro e wb ⟨g, c, rfl, hB2, hs2⟩
  have HN := Lib.hid (dnew_any _ _ _ _ wb hs2)
  have HB2 := Lib.hid (HB1.out.trans (hB2.mono HB1.out.size))
  generalize hq : fewD l = q at *
  clear hB2 hs2
  go_wp2_with fail
  go_fit HN.out
  rintro e wc (⟨hyes, d, F, rfl, hD, hF, hB3⟩ | ⟨hno, rfl, rfl⟩)
  · have hz2' := HB2.out.size
    have hB3' := HB2.out.trans (hB3.mono hz2')
    have HF2 := Lib.hid (few_any a1 len1 cap1 l wc (HS1.out.belowAll hB3' (Nat.le_refl _)))
    rw [show FewEnds l wc = FewEnds l wc from rfl] at HF2
    have hn200 := (szB_rng hyes).1
    have HOk := Lib.hid (dok_new hyes)
    have HD := Lib.hid hD
    have HF := Lib.hid (fun k hk => Nat.le_trans hz2' (hF k hk) : ∀ k ∈ F, w.heap.size ≤ k)
    have HB3 := Lib.hid hB3'
    have HLen := Lib.hid (szN_len q)
    have HCl : Hid ((newT q).cells.length = q.length) := by show _ = _; simp [newT]
    have hq8 : Hid (newT q = ⟨(newT q).cells, [], []⟩) := rfl
    unfold FewEnds at HF2
    rw [hq] at HF2
    clear hD hF hB3 hB3' hyes hq
    go_wp2_with fail
    go_fit HF2.out
    rintro e wd ⟨g3, c3, rfl, hB4, -⟩
    have HD4 := Lib.hid (HD.out.below hB4 (Nat.le_refl _))
    have HB4 := Lib.hid (HB3.out.trans (hB4.mono HB3.out.size))
    clear hB4
    have hrow := World.ownsRow_made (base := wd.heap.size) (e := 22) (size := 1) wd #[] 0 (Nat.le_refl _) (by decide) rfl
    have hwas : WasAt (wd.alloc (.cells #[] 22)) (.slice (some ⟨wd.heap.size, 0, none⟩) 0 0) 0 (fun v => leftL (szN q) ((szN q).map full) (v : Nat)) F := by
      refine WasAt.start _ _ _ (owns_zero hrow) fun k hk hf => ?_
      cases hk
      have : wd.heap.size < wd.heap.size := HD4.out.lt _ hf
      omega
    have HWas := Lib.hid hwas
    have HD5 := Lib.hid (HD4.out.alloc (.cells #[] 22))
    have HB5 := Lib.hid (HB4.out.alloc HB4.out.size (.cells #[] 22))
    have HB5w := Lib.hid HB4.out.size
    generalize (szN q).map full = X0 at *
    generalize hsz : szN q = sz at *
    generalize hT0 : newT q = T0 at *
    have hsl : sz.length = q.length := HLen.out
    have HTn : Hid (T0.ok 0) := by show TM.ok _ _; rw [← hT0]; exact ok_newT q 0
    clear hwas hrow HN HF2 HF1 HD HD4 HB4 HB3 HB2 HB1 hsz hT0
    generalize q.length = n at *
    go_wp2_with fail
    go_loopw [8, 9] (fun vw i wr => KLoop1 w d n sz X0 F T0 vw i wr) (fun _ i _ => n - (intOf i).toNat)
    case atStart => exact ⟨0, Nat.zero_le _, rfl, HD5.out, HWas.out, HB5.out, fun x hx => by cases hx; exact HB5w.out⟩
    case round =>
      clear HD5 HWas HB5 HB5w
      obtain ⟨k, hk, rfl, hD, hW, hB, hvb⟩ := hrel
      have HVb := Lib.hid hvb
      clear hvb
      obtain ⟨wA, rfl⟩ : ∃ x, x = wr := ⟨_, rfl⟩
      obtain ⟨vA, rfl⟩ : ∃ x, x = u8 := ⟨_, rfl⟩
      have HD := Lib.hid hD
      have HW := Lib.hid hW
      have HB := Lib.hid hB
      by_cases hlt : k < n
      · have hL := dleftL_any d F sz X0 T0 k wA hD HOk.out (tab_below HT.out hB (Nat.le_refl _))
        unfold ListEnds at hL
        have HL := Lib.hid hL
        have hk0 : (0 : Int) ≤ (k : Int) := by omega
        have hk1 : (k : Int) < (n : Int) := by omega
        clear hD hW hB hL
        go_wp2_with fail
        go_fit HL.out
        rintro e w1 ⟨v2, rfl, hown, hB1⟩
        obtain ⟨ad2, c2, hv2⟩ := slice_form hown
        have HV := Lib.hid hv2
        have HO := Lib.hid hown
        have HB1 := Lib.hid hB1
        have hWb := HW.out.below hB1
        obtain ⟨vs, hvs, hvl, hv3, hv4⟩ := HW.out
        have HVs := Lib.hid hvs
        have HVl := Lib.hid hvl
        have HV3 := Lib.hid hv3
        have HV4 := Lib.hid hv4
        have hvs1 := owns_of_heap hvs fun x hx => hB1.block x (owns_lt hvs x hx)
        have HVs1 := Lib.hid hvs1
        have HM : Hid (k + 1 ≤ maxLen ∧ (k + 1) * 24 ≤ 140737488355328) := by
          show _ ∧ _
          unfold maxLen; omega
        have HN1 : Hid (∀ j u, [v2][j]? = some u → (w1.alloc (.cells #[v2] 22)).cell? ((⟨w1.heap.size, 0, none⟩ : Addr).add j) = some u) := World.news_of_block (heap_new _ _)
        have HOne := Lib.hid (slice_one v2 ⟨_, _, _, hv2⟩)
        rw [hv2] at HN1 HOne
        clear hvs hvs1 hvl hv3 hv4 hown hB1 hWb hv2
        have hv2 := HV.out
        subst hv2
        go_wp2_with (first | (at_builtin; go_loud (refine wpList_append_lies _ rfl _ _ 44 rfl 0 22 i0 (.slice none 0 0) 1 24 Tryd.underlying44 hi hz0 hz1 hz2 rfl (by decide) vA k vs rfl (HVs1.out.alloc _) ⟨w1.heap.size, 0, none⟩ 1 1 [_] rfl rfl HN1.out HOne.out (by decide) HM.out.1 HM.out.2 (Nat.zero_le _) (w1.heap.size + 1) (by simp) ?_)) | fail)
        intro g5 c5 w3 hown3 hgrow hat hg3
        have HO3 := Lib.hid hown3
        have HGr := Lib.hid hgrow
        have HAt := Lib.hid hat
        clear hown3 hgrow hat
        go_wp2_with fail
        go_roundw
        case rel =>
          have hDb := HD.out.below HB1.out (Nat.le_refl _)
          have hz1 := HB1.out.size
          refine ⟨k + 1, by omega, by go_num, ?_, ?_, ?_⟩
          · refine hDb.frame fun x hx => ?_
            have hxl := HD.out.lt x hx
            refine (HGr.out.block x (by simp; omega) (fun e => ?_)).trans (heap_alloc_lt (by omega))
            exact HV3.out x e.symm hx
          · exact WasAt.push HVs.out HVl.out HV3.out HV4.out (fun x hx => HD.out.lt x hx) HB1.out HO.out _ HGr.out (HAt.out.imp id (fun h => by simp; omega)) HO3.out
          · have hB2 := HB.out.trans (HB1.out.mono HB.out.size)
            refine ⟨(hB2.alloc hB2.size _).grown HGr.out (by have := hB2.size; simp; omega) HVb.out, fun x hx => ?_⟩
            have e : g5 = x := Option.some.inj hx
            subst e
            rcases HAt.out with h | h
            · exact HVb.out _ h
            · have := hB2.size; omega
        case measure => simp [intOf]; omega
      · have HVd := Lib.hid hW
        clear hD hW hB
        have ek : k = n := by omega
        subst ek
        have hBg := dbegin_any d F sz T0 0 wA HD.out HTn.out (by decide)
        rw [hq8.out, kept_begin] at hBg
        have HBg := Lib.hid hBg
        clear hBg
        go_wp2_with fail
        go_fit HBg.out
        intro e w5 he
        have hWas5 : ∀ F', (∀ q ∈ F', q ∈ F ∨ wA.heap.size ≤ q) → Chg (· ∈ F) wA w5 → WasAt w5 vA k (fun v => leftL sz X0 (v : Nat)) F' := fun F' h1 h2 => HW.out.chg h2 h1
        have hF5 : ∃ F', WasAt w5 vA k (fun v => leftL sz X0 (v : Nat)) F' ∧ DomAt w5 d F' sz ⟨T0.cells, [], [0]⟩ ∧ (∀ q ∈ F', w.heap.size ≤ q) ∧ Below w.heap.size w w5 := by
          obtain ⟨-, F', q1, q2, q3⟩ := he
          have hz := HB.out.size
          refine ⟨F', hWas5 F' q2 q3, q1, fun x hx => ?_, HB.out.trans (q3.below hz fun j hj hjF => by have := HF.out j hjF; omega)⟩
          rcases q2 x hx with h | h
          · exact HF.out x h
          · omega
        obtain ⟨rfl, -⟩ := he
        obtain ⟨F5, hw5, hd5, hf5, hb5⟩ := hF5
        have HW5 := Lib.hid hw5
        have HD5 := Lib.hid hd5
        have HF5 := Lib.hid hf5
        have HB5 := Lib.hid hb5
        clear hWas5 hw5 hd5 hf5 hb5
        go_wp2_with fail
        go_loopw [10] (fun i wr => KLoop2 w d k len2 sz X0 T0.cells vA i wr) (fun i _ => len2 - (intOf i).toNat)
        case atStart => exact ⟨0, F5, X0, _, Nat.zero_le _, by omega, rfl, HD5.out, HOk.out.cells rfl, ⟨rfl, rfl⟩, ⟨by simp, by simp, by simp, by simp, by simp⟩, HW5.out, HF5.out, HB5.out⟩
        case round =>
          clear HD5 HW5 HF5 HB5
          obtain ⟨N6, F6, X6, T6, hk6, hk60, rfl, hD, hok, hkept, hD2, hW, hF, hB⟩ := hrel
          have HD6 := Lib.hid hD
          have HDk := Lib.hid hok
          have HKp := Lib.hid hkept
          have HOk6 := Lib.hid hD2
          have HW6 := Lib.hid hW
          have HF6 := Lib.hid hF
          have HB6 := Lib.hid hB
          by_cases hlt2 : N6 < len2
          · by_cases h60 : N6 < 60
            · obtain ⟨xb, xo, rfl, hxb, hcell⟩ := (HI2.out.below hB (Nat.le_refl _)).at (by decide) hlt2
              have c0 := (hcell N6 hlt2 0 (by decide)).1
              have c1 := (hcell N6 hlt2 1 (by decide)).1
              have c2 := (hcell N6 hlt2 2 (by decide)).1
              rw [Nat.add_zero] at c0
              rw [← Nat.add_assoc] at c1 c2
              generalize z2 N6 0 = x at *
              generalize z2 N6 1 = y at *
              generalize z2 N6 2 = z at *
              have HC1 := Lib.hid c1
              have HC2 := Lib.hid c2
              have hk0 : (0 : Int) ≤ (N6 : Int) := by omega
              have hk1 : (N6 : Int) < (len2 : Int) := by omega
              have hk4 : (N6 : Int) < 60 := by omega
              clear hD hok hkept hD2 hW hF hB hcell hxb c1 c2
              by_cases hr : x.tmod 2 = 0
              · go_wp2_with fail
                refine region_tail 11 (by kernel_rfl) (by kernel_rfl) fun w3 hS => ?_
                have d1 := hS.cell HC1.out
                have d2 := hS.cell HC2.out
                have hP := ddrop_any d F6 sz X6 T6 y z N6 w3 (HD6.out.frame fun x _ => hS.at x) HDk.out HOk6.out (by omega)
                have HP := Lib.hid hP
                have HS := Lib.hid hS
                have HDk' := Lib.hid (dok_act HDk.out y z (dropM (X6.getD y.toNat 0) z.toNat) (fun h => drop_le HDk.out h))
                have HKp' := Lib.hid (kept_set HKp.out sz y z (dropM (X6.getD y.toNat 0) z.toNat))
                have HOk' := Lib.hid (ok_act HOk6.out HDk.out.cl y z (dropM (X6.getD y.toNat 0) z.toNat))
                generalize actT sz T6 y z (dropM (X6.getD y.toNat 0) z.toNat) = T7 at *
                generalize actX sz X6 y z (dropM (X6.getD y.toNat 0) z.toNat) = X7 at *
                generalize actC sz y z (dropM (X6.getD y.toNat 0) z.toNat) = C7 at *
                clear hP hS
                simp only [List.take_succ_cons, List.take_zero, List.drop_succ_cons, List.drop_zero]
                repeat still_step
                refine wpStill_nil ?_
                go_wp2_with fail
                go_fit HP.out
                intro e w4 he
                have hF4 : ∃ F', WasAt w4 vA k (fun v => leftL sz X0 (v : Nat)) F' ∧ DomAt w4 d F' sz T7 ∧ (∀ q ∈ F', w.heap.size ≤ q) ∧ Below w.heap.size w w4 := by
                  obtain ⟨-, F', q1, q2, q3⟩ := he
                  have hz := HB6.out.size
                  have hz3 : w3.heap.size = wr.heap.size := by rw [HS.out.heap]
                  refine ⟨F', (HW6.out.below HS.out.below).chg q3 q2, q1, fun x hx => ?_, HB6.out.trans (HS.out.below.trans (q3.below (by omega) fun j hj hjF => by have := HF6.out j hjF; omega))⟩
                  rcases q2 x hx with h | h
                  · exact HF6.out x h
                  · omega
                obtain ⟨rfl, -⟩ := he
                obtain ⟨F4, q1, q2, q3, q4⟩ := hF4
                have HW7 := Lib.hid q1
                have HD7 := Lib.hid q2
                have HF7 := Lib.hid q3
                have HB7 := Lib.hid q4
                clear q1 q2 q3 q4 d1 d2
                go_wp2_with fail
                go_roundw
                case rel => exact ⟨N6 + 1, F4, X7, T7, by omega, by omega, by go_num, HD7.out, HDk'.out, HKp'.out, HOk'.out, HW7.out, HF7.out, HB7.out⟩
                case measure => simp [intOf]; omega
              · go_wp2_with fail
                refine region_tail 11 (by kernel_rfl) (by kernel_rfl) fun w3 hS => ?_
                have d1 := hS.cell HC1.out
                have d2 := hS.cell HC2.out
                have hP := donly_any d F6 sz X6 T6 y z N6 w3 (HD6.out.frame fun x _ => hS.at x) HDk.out HOk6.out (by omega)
                have HP := Lib.hid hP
                have HS := Lib.hid hS
                have HDk' := Lib.hid (dok_act HDk.out y z (onlyM (X6.getD y.toNat 0) z.toNat) (fun h => only_le HDk.out h))
                have HKp' := Lib.hid (kept_set HKp.out sz y z (onlyM (X6.getD y.toNat 0) z.toNat))
                have HOk' := Lib.hid (ok_act HOk6.out HDk.out.cl y z (onlyM (X6.getD y.toNat 0) z.toNat))
                generalize actT sz T6 y z (onlyM (X6.getD y.toNat 0) z.toNat) = T7 at *
                generalize actX sz X6 y z (onlyM (X6.getD y.toNat 0) z.toNat) = X7 at *
                generalize actC sz y z (onlyM (X6.getD y.toNat 0) z.toNat) = C7 at *
                clear hP hS
                simp only [List.take_succ_cons, List.take_zero, List.drop_succ_cons, List.drop_zero]
                repeat still_step
                refine wpStill_nil ?_
                go_wp2_with fail
                go_fit HP.out
                intro e w4 he
                have hF4 : ∃ F', WasAt w4 vA k (fun v => leftL sz X0 (v : Nat)) F' ∧ DomAt w4 d F' sz T7 ∧ (∀ q ∈ F', w.heap.size ≤ q) ∧ Below w.heap.size w w4 := by
                  obtain ⟨-, F', q1, q2, q3⟩ := he
                  have hz := HB6.out.size
                  have hz3 : w3.heap.size = wr.heap.size := by rw [HS.out.heap]
                  refine ⟨F', (HW6.out.below HS.out.below).chg q3 q2, q1, fun x hx => ?_, HB6.out.trans (HS.out.below.trans (q3.below (by omega) fun j hj hjF => by have := HF6.out j hjF; omega))⟩
                  rcases q2 x hx with h | h
                  · exact HF6.out x h
                  · omega
                obtain ⟨rfl, -⟩ := he
                obtain ⟨F4, q1, q2, q3, q4⟩ := hF4
                have HW7 := Lib.hid q1
                have HD7 := Lib.hid q2
                have HF7 := Lib.hid q3
                have HB7 := Lib.hid q4
                clear q1 q2 q3 q4 d1 d2
                go_wp2_with fail
                go_roundw
                case rel => exact ⟨N6 + 1, F4, X7, T7, by omega, by omega, by go_num, HD7.out, HDk'.out, HKp'.out, HOk'.out, HW7.out, HF7.out, HB7.out⟩
                case measure => simp [intOf]; omega
            · have h61 : ¬ ((N6 : Int) < 60) := by omega
              have hk1 : (N6 : Int) < (len2 : Int) := by omega
              clear hD hok hkept hD2 hW hF hB
              have hd3 := HDk.out
              go_wp2_with fail
              go_loopw [11] (fun i wr => KLoop3 w d k sz X0 F6 T6 vA i wr) (fun i _ => k - (intOf i).toNat)
              case atStart => exact ⟨0, Nat.zero_le _, rfl, HD6.out, HW6.out, HB6.out⟩
              case round =>
                clear HD6 HW6 HB6
                obtain ⟨j, hj, rfl, hD, hW, hB⟩ := hrel
                obtain ⟨wC, rfl⟩ : ∃ x, x = wr := ⟨_, rfl⟩
                by_cases hjl : j < k
                · have hL := dleftL_any d F6 sz X6 T6 j wC hD HDk.out (tab_below HT.out hB (Nat.le_refl _))
                  have hne : (leftL sz X6 (j : Int)).length ≠ 0 := by
                    unfold leftL
                    rw [if_pos (show inR sz.length (j : Int) = true from decide_eq_true (by omega)), Int.toNat_natCast]
                    obtain ⟨⟨-, r2⟩, r3, r4⟩ := HDk.out.rng j (by omega)
                    exact bitL_ne r3 (by have := full_lt _ r2; omega)
                  unfold ListEnds at hL
                  generalize leftL sz X6 (j : Int) = lj at *
                  have hne2 : ¬ ((lj.length : Int) = 0) := by omega
                  have HL := Lib.hid hL
                  have HD7 := Lib.hid hD
                  have HW7 := Lib.hid hW
                  have HB7 := Lib.hid hB
                  have hj0 : (0 : Int) ≤ (j : Int) := by omega
                  have hj1 : (j : Int) < (k : Int) := by omega
                  clear hD hW hB hL hne
                  go_wp2_with fail
                  go_fit HL.out
                  rintro e w8 ⟨v8, rfl, hown, hB8⟩
                  obtain ⟨ad8, c8, rfl⟩ := slice_form hown
                  have HD8 := Lib.hid (HD7.out.below hB8 (Nat.le_refl _))
                  have HW8 := Lib.hid (HW7.out.below hB8)
                  have HB8 := Lib.hid (HB7.out.trans (hB8.mono HB7.out.size))
                  clear hown hB8
                  go_wp2_with fail
                  go_roundw
                  case rel => exact ⟨j + 1, by omega, by go_num, HD8.out, HW8.out, HB8.out⟩
                  case measure => simp [intOf]; omega
                · have ej : j = k := by omega
                  subst ej
                  have hU := dundo_any d F6 sz T6 N6 wC hD HOk6.out (by omega)
                  rw [kept_undo HKp.out] at hU
                  have HU := Lib.hid hU
                  have HD7 := Lib.hid hD
                  have HW7 := Lib.hid hW
                  have HB7 := Lib.hid hB
                  clear hD hW hB hU
                  go_wp2_with fail
                  go_fit HU.out
                  intro e w8 he
                  have hF8 : ∃ F', WasAt w8 vA j (fun v => leftL sz X0 (v : Nat)) F' ∧ DomAt w8 d F' sz ⟨T0.cells, [], []⟩ ∧ Below w.heap.size w w8 := by
                    obtain ⟨-, F', q1, q2, q3⟩ := he
                    have hz := HB7.out.size
                    exact ⟨F', HW7.out.chg q3 q2, q1, HB7.out.trans (q3.below hz fun x hx hxF => by have := HF6.out x hxF; omega)⟩
                  obtain ⟨rfl, -⟩ := he
                  obtain ⟨F8, hw8, hd8, hb8⟩ := hF8
                  have HW8 := Lib.hid hw8
                  have HD8 := Lib.hid hd8
                  have HB8 := Lib.hid hb8
                  have HOk0 := Lib.hid (HOk.out.cells (T' := ⟨T0.cells, [], []⟩) rfl)
                  clear hw8 hd8 hb8
                  go_wp2_with fail
                  go_loopw [13] (fun i wr => KLoop3 w d j sz X0 F8 ⟨T0.cells, [], []⟩ vA i wr) (fun i _ => j - (intOf i).toNat)
                  case atStart => exact ⟨0, Nat.zero_le _, rfl, HD8.out, HW8.out, HB8.out⟩
                  case round =>
                    clear HD8 HW8 HB8
                    obtain ⟨t, ht, rfl, hD, hW, hB⟩ := hrel
                    obtain ⟨wE, rfl⟩ : ∃ x, x = wr := ⟨_, rfl⟩
                    by_cases htl : t < j
                    · have hL := dleftL_any d F8 sz X0 ⟨T0.cells, [], []⟩ t wE.drew hD.drew HOk0.out (tab_below HT.out hB.drew (Nat.le_refl _))
                      obtain ⟨g9, c9, x9, hv9, hm9, hc9, ho9⟩ := hW.get htl
                      have HVA := Lib.hid hv9
                      unfold ListEnds at hL
                      have HL := Lib.hid hL
                      have HO9 := Lib.hid ho9
                      have HD9 := Lib.hid hD
                      have HW9 := Lib.hid hW
                      have HB9 := Lib.hid hB
                      have hgw : g9 < wE.heap.size := World.block_lt_of_cell? wE ⟨g9, t, none⟩ hc9
                      have ht0 : (0 : Int) ≤ (t : Int) := by omega
                      have ht1 : (t : Int) < (j : Int) := by omega
                      obtain ⟨ad9, cc9, hx9⟩ := slice_form ho9
                      rw [hx9] at hc9 HO9
                      generalize leftL sz X0 (t : Int) = lt at *
                      clear hD hW hB hL ho9 hx9
                      have hsub := HVA.out
                      go_wp2_with fail
                      rw [hsub]
                      go_region_held3 (fun w' => w'.cell? ⟨g9, t, none⟩ = some (.slice ad9 lt.length cc9))
                        (first
                          | exact n1
                          | exact m1
                          | exact hc9
                          | fail)
                        ((first
                          | (go_at_call 23
                             (with_reducible refine HL.out.mono ?_)
                             rintro e w10 ⟨v10, rfl, hO10, hB10⟩
                             obtain ⟨ad10, c10, rfl, hs10⟩ := src_list hO10
                             have m1 := (hB10.cell (p := ⟨g9, t, none⟩) hgw).trans hc9
                             obtain ⟨ad9', c9', hv9', hs9'⟩ := src_list (owns_of_heap HO9.out (w' := w10) fun x hx => hB10.block x (owns_lt HO9.out x hx))
                             cases hv9'
                             have HSM := Lib.hid (same_any _ _ _ _ _ _ _ _ w10 hs10 hs9')
                             have HD10 := Lib.hid (HD9.out.drew.below hB10 (Nat.le_refl _))
                             have HW10 := Lib.hid (HW9.out.below (w' := w10) (below_undrew hB10))
                             have HB10 := Lib.hid (HB9.out.trans ((below_undrew hB10).mono HB9.out.size))
                             clear hO10 hB10 hs10 hs9')
                          | (go_at_call 22
                             (with_reducible refine HSM.out.mono ?_)
                             rintro e w11 ⟨rfl, hS11⟩
                             rw [sameB_self]
                             have n1 := hS11.cell m1
                             have HD11 := Lib.hid (HD10.out.frame (w' := w11) (fun x _ => hS11.at x))
                             have HW11 := Lib.hid (HW10.out.below (w' := w11) hS11.below)
                             have HB11 := Lib.hid (HB10.out.trans hS11.below)
                             clear hS11)
                          | fail))
                      clear hsub
                      go_wp2_with fail
                      rw [← HVA.out]
                      go_roundw
                      case rel => exact ⟨t + 1, by omega, by go_num, HD11.out, HW11.out, HB11.out⟩
                      case measure => simp [intOf]; omega
                    · have et : t = j := by omega
                      subst et
                      have HB9 := Lib.hid hB
                      clear hD hW hB
                      go_wp2_with fail
                      go_ret
                      exact ⟨rfl, HB9.out⟩
          · have en : N6 = len2 := by omega
            subst en
            clear hD hok hkept hD2 hW hF hB
            have hd3 := HDk.out
            go_wp2_with fail
            go_loopw [11] (fun i wr => KLoop3 w d k sz X0 F6 T6 vA i wr) (fun i _ => k - (intOf i).toNat)
            case atStart => exact ⟨0, Nat.zero_le _, rfl, HD6.out, HW6.out, HB6.out⟩
            case round =>
              clear HD6 HW6 HB6
              obtain ⟨j, hj, rfl, hD, hW, hB⟩ := hrel
              obtain ⟨wC, rfl⟩ : ∃ x, x = wr := ⟨_, rfl⟩
              by_cases hjl : j < k
              · have hL := dleftL_any d F6 sz X6 T6 j wC hD HDk.out (tab_below HT.out hB (Nat.le_refl _))
                have hne : (leftL sz X6 (j : Int)).length ≠ 0 := by
                  unfold leftL
                  rw [if_pos (show inR sz.length (j : Int) = true from decide_eq_true (by omega)), Int.toNat_natCast]
                  obtain ⟨⟨-, r2⟩, r3, r4⟩ := HDk.out.rng j (by omega)
                  exact bitL_ne r3 (by have := full_lt _ r2; omega)
                unfold ListEnds at hL
                generalize leftL sz X6 (j : Int) = lj at *
                have hne2 : ¬ ((lj.length : Int) = 0) := by omega
                have HL := Lib.hid hL
                have HD7 := Lib.hid hD
                have HW7 := Lib.hid hW
                have HB7 := Lib.hid hB
                have hj0 : (0 : Int) ≤ (j : Int) := by omega
                have hj1 : (j : Int) < (k : Int) := by omega
                clear hD hW hB hL hne
                go_wp2_with fail
                go_fit HL.out
                rintro e w8 ⟨v8, rfl, hown, hB8⟩
                obtain ⟨ad8, c8, rfl⟩ := slice_form hown
                have HD8 := Lib.hid (HD7.out.below hB8 (Nat.le_refl _))
                have HW8 := Lib.hid (HW7.out.below hB8)
                have HB8 := Lib.hid (HB7.out.trans (hB8.mono HB7.out.size))
                clear hown hB8
                go_wp2_with fail
                go_roundw
                case rel => exact ⟨j + 1, by omega, by go_num, HD8.out, HW8.out, HB8.out⟩
                case measure => simp [intOf]; omega
              · have ej : j = k := by omega
                subst ej
                have hU := dundo_any d F6 sz T6 N6 wC hD HOk6.out (by omega)
                rw [kept_undo HKp.out] at hU
                have HU := Lib.hid hU
                have HD7 := Lib.hid hD
                have HW7 := Lib.hid hW
                have HB7 := Lib.hid hB
                clear hD hW hB hU
                go_wp2_with fail
                go_fit HU.out
                intro e w8 he
                have hF8 : ∃ F', WasAt w8 vA j (fun v => leftL sz X0 (v : Nat)) F' ∧ DomAt w8 d F' sz ⟨T0.cells, [], []⟩ ∧ Below w.heap.size w w8 := by
                  obtain ⟨-, F', q1, q2, q3⟩ := he
                  have hz := HB7.out.size
                  exact ⟨F', HW7.out.chg q3 q2, q1, HB7.out.trans (q3.below hz fun x hx hxF => by have := HF6.out x hxF; omega)⟩
                obtain ⟨rfl, -⟩ := he
                obtain ⟨F8, hw8, hd8, hb8⟩ := hF8
                have HW8 := Lib.hid hw8
                have HD8 := Lib.hid hd8
                have HB8 := Lib.hid hb8
                have HOk0 := Lib.hid (HOk.out.cells (T' := ⟨T0.cells, [], []⟩) rfl)
                clear hw8 hd8 hb8
                go_wp2_with fail
                go_loopw [13] (fun i wr => KLoop3 w d j sz X0 F8 ⟨T0.cells, [], []⟩ vA i wr) (fun i _ => j - (intOf i).toNat)
                case atStart => exact ⟨0, Nat.zero_le _, rfl, HD8.out, HW8.out, HB8.out⟩
                case round =>
                  clear HD8 HW8 HB8
                  obtain ⟨t, ht, rfl, hD, hW, hB⟩ := hrel
                  obtain ⟨wE, rfl⟩ : ∃ x, x = wr := ⟨_, rfl⟩
                  by_cases htl : t < j
                  · have hL := dleftL_any d F8 sz X0 ⟨T0.cells, [], []⟩ t wE.drew hD.drew HOk0.out (tab_below HT.out hB.drew (Nat.le_refl _))
                    obtain ⟨g9, c9, x9, hv9, hm9, hc9, ho9⟩ := hW.get htl
                    have HVA := Lib.hid hv9
                    unfold ListEnds at hL
                    have HL := Lib.hid hL
                    have HO9 := Lib.hid ho9
                    have HD9 := Lib.hid hD
                    have HW9 := Lib.hid hW
                    have HB9 := Lib.hid hB
                    have hgw : g9 < wE.heap.size := World.block_lt_of_cell? wE ⟨g9, t, none⟩ hc9
                    have ht0 : (0 : Int) ≤ (t : Int) := by omega
                    have ht1 : (t : Int) < (j : Int) := by omega
                    obtain ⟨ad9, cc9, hx9⟩ := slice_form ho9
                    rw [hx9] at hc9 HO9
                    generalize leftL sz X0 (t : Int) = lt at *
                    clear hD hW hB hL ho9 hx9
                    have hsub := HVA.out
                    go_wp2_with fail
                    rw [hsub]
                    go_region_held3 (fun w' => w'.cell? ⟨g9, t, none⟩ = some (.slice ad9 lt.length cc9))
                      (first
                        | exact n1
                        | exact m1
                        | exact hc9
                        | fail)
                      ((first
                        | (go_at_call 23
                           (with_reducible refine HL.out.mono ?_)
                           rintro e w10 ⟨v10, rfl, hO10, hB10⟩
                           obtain ⟨ad10, c10, rfl, hs10⟩ := src_list hO10
                           have m1 := (hB10.cell (p := ⟨g9, t, none⟩) hgw).trans hc9
                           obtain ⟨ad9', c9', hv9', hs9'⟩ := src_list (owns_of_heap HO9.out (w' := w10) fun x hx => hB10.block x (owns_lt HO9.out x hx))
                           cases hv9'
                           have HSM := Lib.hid (same_any _ _ _ _ _ _ _ _ w10 hs10 hs9')
                           have HD10 := Lib.hid (HD9.out.drew.below hB10 (Nat.le_refl _))
                           have HW10 := Lib.hid (HW9.out.below (w' := w10) (below_undrew hB10))
                           have HB10 := Lib.hid (HB9.out.trans ((below_undrew hB10).mono HB9.out.size))
                           clear hO10 hB10 hs10 hs9')
                        | (go_at_call 22
                           (with_reducible refine HSM.out.mono ?_)
                           rintro e w11 ⟨rfl, hS11⟩
                           rw [sameB_self]
                           have n1 := hS11.cell m1
                           have HD11 := Lib.hid (HD10.out.frame (w' := w11) (fun x _ => hS11.at x))
                           have HW11 := Lib.hid (HW10.out.below (w' := w11) hS11.below)
                           have HB11 := Lib.hid (HB10.out.trans hS11.below)
                           clear hS11)
                        | fail))
                    clear hsub
                    go_wp2_with fail
                    rw [← HVA.out]
                    go_roundw
                    case rel => exact ⟨t + 1, by omega, by go_num, HD11.out, HW11.out, HB11.out⟩
                    case measure => simp [intOf]; omega
                  · have et : t = j := by omega
                    subst et
                    have HB9 := Lib.hid hB
                    clear hD hW hB
                    go_wp2_with fail
                    go_ret
                    exact ⟨rfl, HB9.out⟩
  · have HB3 := Lib.hid HB2.out
    clear hno
    go_wp2_with fail
    go_ret
    exact ⟨rfl, HB3.out⟩
end Go.Proofs.YtifjjcenmilohaaDoor
