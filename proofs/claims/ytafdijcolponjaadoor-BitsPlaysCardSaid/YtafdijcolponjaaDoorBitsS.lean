/- BitsPlays returns true for every input. Condition: where the table lies. -/
import Derived.Test.YtafdijcolponjaaDoorBitsT
import Derived.Deep.CutBlock
namespace Go.Proofs.YtafdijcolponjaaDoor
open Go.RowKit

attribute [local go_sem ↓] cells_whole
attribute [local go_sem] run_wholeCells wholeOf_some

def BPlayRel (w0 : World) (r m : Nat) (s i : Value) (wr : World) : Prop :=
  ∃ (k b : Nat) (ws : List Nat), k ≤ m ∧ i = .int .i64 k ∧ s = .pointer (some ⟨b, 0, none⟩) ∧ SetAt wr b ws ∧ RefAt wr r ws ∧ inSet ws ∧ b ≠ r ∧ w0.heap.size ≤ b ∧ w0.heap.size ≤ r ∧ Below w0.heap.size w0 wr
def BPlayCut (w0 : World) (r p : Nat) (n : Int) (vl dv : Value) (s ok : Value) (wc : World) : Prop :=
  ∃ (b : Nat) (ws : List Nat), s = .pointer (some ⟨b, 0, none⟩) ∧ ok = .bool true ∧ BX w0 b r p ws ws n vl dv wc ∧ inSet ws

structure BZ (w0 : World) (b r : Nat) (x y : List Nat) (W : World) : Prop where
  set : SetAt W b x
  ref : RefAt W r y
  br : b ≠ r
  lb : w0.heap.size ≤ b
  lr : w0.heap.size ≤ r
  bel : Below w0.heap.size w0 W
theorem BZ.below {w0 W W' : World} {b r : Nat} {x y : List Nat} (h : BZ w0 b r x y W) (hB : Below W.heap.size W W') : BZ w0 b r x y W' :=
  ⟨⟨(hB.block b (lt_of_block h.set.1)).trans h.set.1, h.set.2⟩, (hB.block r (lt_of_block h.ref)).trans h.ref, h.br, h.lb, h.lr, h.bel.trans (hB.mono h.bel.size)⟩
theorem BZ.drew {w0 W : World} {b r : Nat} {x y : List Nat} (h : BZ w0 b r x y W) : BZ w0 b r x y W.drew := h.below ⟨rfl, rfl, rfl, Nat.le_refl _, fun _ _ => rfl⟩

theorem Src.belowAll {w w' : World} {a : Option Addr} {n cap : Nat} {l : List Int} (h : Src w a n cap 1 (intl l)) {B : Nat} (hb : Below B w w') (hB : w.heap.size ≤ B) : Src w' a n cap 1 (intl l) := by
  refine h.of_block fun ad had hne => hb.block _ ?_
  have hn : 0 < n := by omega
  obtain ⟨x, hx, hc⟩ := h.nth (i := 0) hn
  rw [had] at hx
  cases hx
  have := World.block_lt_of_cell? w _ hc
  have e : (ad.add 0).block = ad.block := by unfold Addr.add; split <;> rfl
  rw [e] at this
  omega

set_option maxRecDepth 100000 in
set_option maxHeartbeats 4000000 in
theorem bplays_walk (a1 : Option Addr) (len1 cap1 : Nat) (z1 : List Int) (a2 : Option Addr) (len2 cap2 : Nat) (z2 : Nat → Nat → Int) (v2 : Nat → Value) (l2 : Nat → List Int) (w : World)
    (h1 : IsRow .i64 w a1 len1 cap1 z1) (h2 : IsRowA w a2 len2 cap2 z2 v2 l2) (hT : TabIs w) :
    Calls Tryd.prog 5 #[.slice a1 len1 cap1, .slice a2 len2 cap2] w (YesEnds w) := by
  have HT := Lib.hid hT
  have HI2 := Lib.hid h2
  have hlc2 : len2 ≤ cap2 ∧ cap2 ≤ 9223372036854775807 := by
    rcases h2 with ⟨-, rfl, rfl⟩ | ⟨x, -, h, h', -⟩
    · exact ⟨Nat.le_refl _, by omega⟩
    · unfold maxLen at h'; exact ⟨h, by omega⟩
  have hsrc := h1.src (Nat.le_refl len1)
  have HF1 := Lib.hid (few_any a1 len1 cap1 (z1.take len1) w hsrc)
  have HZ := Lib.hid (zero_of_info infoRef)
  generalize z1.take len1 = l at *
  clear hT h1 h2 hsrc
  go_enter Tryd.func5, Tryd.ntmps5
  go_wp2_with fail
  go_fit HF1.out
  rintro e wa ⟨g, c, rfl, hB1, hg1, hs1⟩
  have htt : (l.take 100).take 100 = l.take 100 := by rw [List.take_take, Nat.min_self]
  generalize l.take 100 = q at *
  have hF2 := few_any _ _ _ _ wa hs1
  unfold FewEnds at hF2
  rw [htt] at hF2
  have HF2 := Lib.hid hF2
  have HS1 := Lib.hid hs1
  have HB1 := Lib.hid hB1
  clear hF2 hs1 hB1 hg1 htt
  go_wp2_with fail
  go_fit HF2.out
  rintro e wb ⟨g2, c2, rfl, hB2, hg2, hs2⟩
  have HN := Lib.hid (new_any _ _ _ _ wb hs2)
  have HS2 := Lib.hid (HS1.out.belowAll hB2 (Nat.le_refl _))
  have HB2 := Lib.hid (HB1.out.trans (hB2.mono HB1.out.size))
  clear hs2 hB2 hg2
  go_wp2_with fail
  go_fit HN.out
  rintro e wc ⟨rfl, hS3, hB3⟩
  obtain ⟨b, hb⟩ : ∃ b, b = wb.heap.size := ⟨_, rfl⟩
  rw [← hb] at hS3 ⊢
  have hM := make_any _ _ _ _ wc (HS2.out.belowAll hB3 (Nat.le_refl _))
  have hin := newW_in q
  unfold AggEnds at hM
  have hS3' := hS3
  obtain ⟨ws, hws⟩ : ∃ ws, ws = newW q := ⟨_, rfl⟩
  rw [← hws] at hS3 hM hin
  have hz2 := HB2.out.size
  have HM := Lib.hid hM
  have HS3 := Lib.hid hS3
  have HIn := Lib.hid hin
  have HB3 := Lib.hid (HB2.out.trans (hB3.mono hz2))
  have HLb : Hid (w.heap.size ≤ b) := by show _ ≤ _; omega
  have hsz := bools_size ws
  have hon := bools_one (bl ws)
  have HRf : Hid (∀ W : World, ∀ r, W.heap[r]? = some (.cells (bools (bl ws)) 35 (0, 0)) → RefAt W r ws) := fun W r h => h
  clear hS3 hS3' hM hin hB3 hws hb
  generalize bools (bl ws) = cs at *
  have hs0 : (bools (List.replicate 500 false)).size = 500 := by simp [bools]
  generalize bools (List.replicate 500 false) = c0 at *
  have HI : Hid ((Tryd.prog.info? 35).map (·.size) = some cs.size) := by show _ = _; rw [hsz]; exact HZ.out.2
  have HSS : Hid (c0.size = cs.size) := by show _ = _; rw [hsz, hs0]
  have HOn := Lib.hid hon
  clear hsz hon hs0 hz2
  go_wp2_with fail
  go_fit HM.out
  rintro e wd ⟨rfl, hB4⟩
  have hB5 := HB3.out.trans (hB4.mono HB3.out.size)
  have hS4 : SetAt wd b ws := ⟨(hB4.block b (lt_of_block HS3.out.1)).trans HS3.out.1, HS3.out.2⟩
  have HS4 := Lib.hid hS4
  have HB5 := Lib.hid hB5
  have hbw := lt_of_block hS4.1
  have HN0 := Lib.hid (heap_new wd (.cells c0 35))
  have HbA := Lib.hid ((Below.refl wd.heap.size wd).alloc (Nat.le_refl _) (.cells c0 35))
  obtain ⟨r, hr⟩ : ∃ r, r = wd.heap.size := ⟨_, rfl⟩
  have HR := Lib.hid hr
  clear hr hS4 hB5 hB4
  go_wp2_with (first | (refine wpList_alloc_zero rfl 35 rfl c0 HZ.out.1 ?_) | (refine wpList_store_whole rfl 35 _ _ rfl wd.heap.size c0 cs 35 rfl rfl HN0.out HI.out HSS.out HOn.out ?_; intro w1 hw1 hC1; rw [← HR.out] at hw1 hC1 ⊢; have HW1 := Lib.hid hw1; have HC1 := Lib.hid hC1; clear hw1 hC1) | fail)
  have hbr : b < r := by rw [HR.out]; exact hbw
  have hbel : Below r wd w1 := by
    have h := HbA.out
    have hr := HR.out
    rw [← HR.out] at h
    exact h.trans (HC1.out.below (by have := h.size; omega) fun k hk e => by omega)
  have hbelW : Below w.heap.size w w1 := by
    refine HB5.out.trans (hbel.mono ?_)
    have := HLb.out
    omega
  have HPR : Hid (BPlayRel w r len2 (.pointer (some ⟨b, 0, none⟩)) (.int .i64 0) w1) := by
    refine ⟨0, b, ws, Nat.zero_le _, rfl, rfl, ⟨(hbel.block b hbr).trans HS4.out.1, HS4.out.2⟩, HRf.out _ _ HW1.out, HIn.out, by omega, HLb.out, ?_, hbelW⟩
    have := HLb.out
    omega
  clear hbr hbel hbelW HW1 HC1 HbA HN0 HR HB5 hbw HS4 HSS HI HOn HRf HLb HIn HM HN HB3 HB2 HB1 HS1 HS2 HS3 HF2 HF1
  go_wp2_with fail
  go_loopw [5, 7] (fun s i wr => BPlayRel w r len2 s i wr) (fun _ i _ => len2 - (intOf i).toNat)
  case atStart => exact HPR.out
  case round =>
    clear HPR
    obtain ⟨k, b, x, hk, rfl, rfl, hX, hY, hIn, hbr, hlb, hlr, hbel⟩ := hrel
    by_cases hlt : k < len2
    · by_cases h60 : k < 60
      · obtain ⟨xb, xo, aL, lL, cL, rfl, e0, hwf0, e1, e2, hsl⟩ := HI2.out.below hlt hbel (Nat.le_refl _)
        have hsl1 := hsl.belowAll hbel (Nat.le_refl _)
        generalize z2 k 0 = dd at *
        generalize z2 k 1 = n at *
        have hl2 : True := trivial
        generalize (l2 k).take lL = ll at *
        have hk0 : (0 : Int) ≤ (k : Int) := Int.natCast_nonneg _
        have hk1 : (k : Int) < (len2 : Int) := by omega
        have hk6 : (k : Int) < 60 := by omega
        have HX := Lib.hid hX
        have HY := Lib.hid hY
        have HIn := Lib.hid hIn
        have HSl := Lib.hid hsl1
        have HSl0 := Lib.hid hsl
        have Hbel := Lib.hid hbel
        clear hX hY hIn hsl hsl1 hbel
        go_wp2_with fail
        have HBX : Hid (BX w b r wr.heap.size x x n (.slice aL lL cL) (.int .i64 dd) (wr.alloc (.cells #[.int .i64 dd, .int .i64 n, .slice aL lL cL] 40))) := by
          have h1 := lt_of_block HX.out.1
          have h2 := lt_of_block HY.out
          exact ⟨⟨(heap_alloc_lt h1).trans HX.out.1, HX.out.2⟩, (heap_alloc_lt h2).trans HY.out, heap_new _ _, hbr, by omega, by omega, hlb, hlr, Hbel.out.size, Hbel.out.alloc Hbel.out.size _⟩
        have HSl2 := Lib.hid (HSl.out.belowAll ((Below.refl wr.heap.size wr).alloc (Nat.le_refl _) (.cells #[.int .i64 dd, .int .i64 n, .slice aL lL cL] 40)) (Nat.le_refl _))
        generalize wr.alloc (.cells #[.int .i64 dd, .int .i64 n, .slice aL lL cL] 40) = wa at *
        generalize wr.heap.size = p at *
        clear e0 e1 e2 HX HY HSl Hbel hbr hlb hlr wr
        have HAm := Lib.hid (among_any dd 4 wa hwf0 (by decide) (by decide))
        go_fit HAm.out
        rintro e w' ⟨d, d0', d1', rfl, rfl⟩
        have hd4 : d = 0 ∨ d = 1 ∨ d = 2 ∨ d = 3 := by omega
        clear HAm d0' d1' hwf0
        have HBX' := Lib.hid HBX.out.drew
        obtain ⟨c1, c2⟩ := HBX.out.held
        go_upto_block 2 with fail
        go_cut [5, 9, 10, 11, 12, 13] (fun s ok m x z o wc => BPlayCut w r p n (.slice aL lL cL) (.int .i64 dd) s ok wc)
        case first =>
          rcases hd4 with rfl | rfl | rfl | rfl
          · have HP0 := Lib.hid (put_z b n x wa.drew HBX'.out.set)
            have HP1 := Lib.hid (fun W h => rput_z r n x W h HBX.out.set.2.1)
            have hin' := in_put1 HBX.out.set.2.1 HIn.out n
            have HIn' := Lib.hid hin'
            unfold SomeEnds at HP0
            unfold RPutEnds at HP1
            generalize put1 x n = y at *
            generalize cZ n = cz at *
            clear hin'
            have hcz : (cz == cz) = true := by simp
            go_wp2_with fail
            go_region_held3 (fun w' => w'.cell? ⟨p, 1, none⟩ = some (.int .i64 n))
              (first
                | exact m1
                | exact l1
                | exact c1
                | fail)
              ((first
                | (go_at_call 25
                   (with_reducible refine HP0.out.mono ?_)
                   rintro e w6 ⟨rfl, hs6, hC6⟩
                   have hg7 := HBX'.out.setTo hs6 hC6
                   have l1 := hg7.held.1
                   have HP1' := Lib.hid (HP1.out w6 hg7.ref)
                   have HG7 := Lib.hid hg7
                   clear hs6 hC6 hg7)
                | (go_at_call 31
                   (with_reducible refine HP1'.out.mono ?_)
                   rintro e w7 ⟨rfl, hs7, hC7⟩
                   have hg8 := HG7.out.refTo hs7 hC7
                   have m1 := hg8.held.1
                   have HG8 := Lib.hid hg8
                   clear hs7 hC7 hg8)
                | fail))
            go_wp2_with fail
            go_meet
            exact ⟨b, y, rfl, rfl, HG8.out, HIn'.out⟩
          · have HP0 := Lib.hid (drop_z b n x wa.drew HBX'.out.set)
            have HP1 := Lib.hid (fun W h => rdrop_z r n x W h HBX.out.set.2.1)
            have hin' := in_drop1 HBX.out.set.2.1 HIn.out n
            have HIn' := Lib.hid hin'
            unfold SomeEnds at HP0
            unfold RPutEnds at HP1
            generalize drop1 x n = y at *
            generalize cZ n = cz at *
            clear hin'
            have hcz : (cz == cz) = true := by simp
            go_wp2_with fail
            go_region_held3 (fun w' => w'.cell? ⟨p, 1, none⟩ = some (.int .i64 n))
              (first
                | exact m1
                | exact l1
                | exact c1
                | fail)
              ((first
                | (go_at_call 26
                   (with_reducible refine HP0.out.mono ?_)
                   rintro e w6 ⟨rfl, hs6, hC6⟩
                   have hg7 := HBX'.out.setTo hs6 hC6
                   have l1 := hg7.held.1
                   have HP1' := Lib.hid (HP1.out w6 hg7.ref)
                   have HG7 := Lib.hid hg7
                   clear hs6 hC6 hg7)
                | (go_at_call 31
                   (with_reducible refine HP1'.out.mono ?_)
                   rintro e w7 ⟨rfl, hs7, hC7⟩
                   have hg8 := HG7.out.refTo hs7 hC7
                   have m1 := hg8.held.1
                   have HG8 := Lib.hid hg8
                   clear hs7 hC7 hg8)
                | fail))
            go_wp2_with fail
            go_meet
            exact ⟨b, y, rfl, rfl, HG8.out, HIn'.out⟩
          · have HFw := Lib.hid (fun W (h : Src W aL lL cL 1 (intl ll)) => few_any aL lL cL ll W h)
            have HNw := Lib.hid (fun W g c (h : Src W (some ⟨g, 0, none⟩) (ll.take 100).length c 1 (intl (ll.take 100))) => new_any (some ⟨g, 0, none⟩) (ll.take 100).length c (ll.take 100) W h)
            have HMk := Lib.hid (fun W g c (h : Src W (some ⟨g, 0, none⟩) (ll.take 100).length c 1 (intl (ll.take 100))) => make_any (some ⟨g, 0, none⟩) (ll.take 100).length c (ll.take 100) W h)
            have hin := newW_in (ll.take 100)
            have hlen := newW_len (ll.take 100)
            unfold FewEnds at HFw
            unfold NewEnds at HNw
            unfold AggEnds at HMk
            generalize ll.take 100 = q2 at *
            generalize newW q2 = y at *
            have HJo := Lib.hid (fun (c : Nat) W (hx : SetAt W b x) (hy : SetAt W c y) => join_any b c x y W hx hy)
            have HRj := Lib.hid (fun W => rjoin_any x y W)
            unfold JoinEnds at HJo
            unfold RJEnds at HRj
            have hall := orB_all HBX.out.set.2.1 hlen
            have hin' := in_join HBX.out.set.2.1 hlen HIn.out hin
            have HMo := Lib.hid (fun c W (hy : SetAt W c y) => moreB_join HBX.out.set hy hin)
            rw [hall] at HRj
            generalize (!decide (joinW x y = x)) = mo at *
            generalize moreB x y 500 = mo2 at *
            generalize joinW x y = z at *
            have hsz := bools_size z
            have hon := bools_one (bl z)
            have hsx := bools_size x
            have HRx : Hid (∀ W, RefAt W r x → W.heap[r]? = some (.cells (bools (bl x)) 35 (0, 0))) := fun W h => h
            have HRz : Hid (∀ W, W.heap[r]? = some (.cells (bools (bl z)) 35 (0, 0)) → RefAt W r z) := fun W h => h
            clear hall hlen
            generalize bools (bl x) = cx at *
            generalize bools (bl y) = cy at *
            generalize bools (bl z) = cj at *
            have HZ0 := Lib.hid (zero_of_info infoRef)
            have hs0 := zc_size
            have HIj : Hid ((Tryd.prog.info? 35).map (·.size) = some cj.size) := by show _ = _; rw [hsz]; exact HZ0.out.2
            have HSj : Hid (Tryd.zeroCells35.size = cj.size) := by show _ = _; rw [hsz, hs0]
            have HSx : Hid (cx.size = cj.size) := by show _ = _; rw [hsz, hsx]
            have HOj := Lib.hid hon
            have HIn' := Lib.hid hin'
            clear hs0 hon hin hin'
            have HF0 := Lib.hid (HFw.out _ HSl2.out)
            go_wp2_with fail
            go_fit HF0.out
            rintro e w3 ⟨g3, c3, rfl, hB3, -, hs3⟩
            have HX3 := Lib.hid (HBX.out.below hB3)
            have HN3 := Lib.hid (HNw.out w3 g3 c3 hs3)
            clear hB3 hs3
            go_wp2_with fail
            go_fit HN3.out
            rintro e w4 ⟨rfl, hs4, hB4⟩
            have HX4 := Lib.hid (HX3.out.below hB4)
            have HJ4 := Lib.hid (HJo.out w3.heap.size w4 HX4.out.set hs4)
            have hmo := HMo.out _ _ hs4
            subst hmo
            clear hs4 hB4
            go_wp2_with fail
            go_fit HJ4.out
            rintro e w5 ⟨rfl, hs5, hC5⟩
            have HBu := Lib.hid (HX4.out.setTo hs5 hC5).more
            have HB := Lib.hid HBu.out.drew
            have hc5 : w5.drew.cell? ⟨p, 2, none⟩ = some (.slice aL lL cL) ∧ w5.drew.heap[r]? = some (.cells cx 35 (0, 0)) := ⟨HB.out.bx.held.2, HRx.out _ HB.out.bx.ref⟩
            clear hs5 hC5 HX4 HX3 HN3 HJ4 HJo HMo HF0 c1 c2
            have hmm : (mo2 == mo2) = true := by simp
            go_wp2_with fail
            go_region_held3 (fun w' => w'.cell? ⟨p, 2, none⟩ = some (.slice aL lL cL) ∧ w'.heap[r]? = some (.cells cx 35 (0, 0)))
              (first
                | exact ⟨HB.out.bx.held.2, HRx.out _ HB.out.bx.ref⟩
                | exact ⟨(HB.out.made Tryd.zeroCells35 35).bx.held.2, HRx.out _ (HB.out.made Tryd.zeroCells35 35).bx.ref⟩
                | exact ⟨(HBu.out.made Tryd.zeroCells35 35).drew.bx.held.2, HRx.out _ (HBu.out.made Tryd.zeroCells35 35).drew.bx.ref⟩
                | exact hc5
                | fail)
              ((first
                | (refine upon_store_whole _ Tryd.zeroCells35 cj 35 (HB.out.xt _ rfl).1 HIj.out HSj.out HOj.out ?_
                   intro w9 hw9 hC9
                   replace HB := Lib.hid (HB.out.stored hw9 hC9)
                   clear hw9 hC9)
                | (refine upon_store_whole _ Tryd.zeroCells35 cj 35 ((HB.out.made Tryd.zeroCells35 35).xt _ rfl).1 HIj.out HSj.out HOj.out ?_
                   intro w9 hw9 hC9
                   replace HB := Lib.hid ((HB.out.made Tryd.zeroCells35 35).stored hw9 hC9)
                   clear hw9 hC9)
                | (go_at_call 23
                   (first
                    | (with_reducible refine (HFw.out _ (HSl0.out.belowAll HB.out.bx.bel (Nat.le_refl _))).mono ?_)
                    | (replace HB := Lib.hid (HBu.out.made Tryd.zeroCells35 35).drew
                       (with_reducible refine (HFw.out _ (HSl0.out.belowAll HB.out.bx.bel (Nat.le_refl _))).mono ?_))
                    | fail)
                   rintro e w6 ⟨g6, c6, rfl, hB6, -, hs6⟩
                   replace HB := Lib.hid (HB.out.below hB6)
                   have HS6 := Lib.hid hs6
                   clear hB6 hs6)
                | (go_at_call 29
                   (first
                    | (with_reducible refine (HMk.out _ _ _ HS6.out).mono ?_)
                    | (replace HB := Lib.hid (HB.out.made Tryd.zeroCells35 35)
                       (with_reducible refine (HMk.out _ _ _ (HS6.out.allocd _)).mono ?_))
                    | fail)
                   rintro e w7 ⟨rfl, hB7⟩
                   replace HB := Lib.hid (HB.out.below hB7)
                   clear hB7 HS6)
                | (go_at_call 33
                   (with_reducible refine (HRj.out _).mono ?_)
                   rintro e w8 ⟨rfl, hB8⟩
                   (first
                    | replace HB := Lib.hid (HB.out.below hB8)
                    | replace HB := Lib.hid ((HB.out.made Tryd.zeroCells35 35).below hB8)
                    | fail)
                   clear hB8)
                | fail))
            all_goals
              obtain ⟨hy1, -, -, -, -⟩ := HB.out.xt _ rfl
              simp only at hy1
              go_wp2_with (first | (refine upon_store_whole r cx cj 35 (HRx.out _ HB.out.bx.ref) HIj.out HSx.out HOj.out ?_; intro w10 hw10 hC10; have HG10 := Lib.hid (HB.out.bx.refTo (HRz.out _ hw10) hC10); clear hw10 hC10) | fail)
              go_meet
              exact ⟨b, z, rfl, rfl, HG10.out, HIn'.out⟩
          · have HC := Lib.hid (copy_any b x wa HBX.out.set)
            have HD := Lib.hid (fun W h => drop_z b n x W h)
            have HP := Lib.hid (fun W h => put_z b 7 (drop1 x n) W h)
            have c7 : cZ 7 = 0 := by unfold cZ; simp
            unfold NewEnds at HC
            unfold SomeEnds at HD HP
            rw [c7] at HP
            generalize drop1 x n = y1 at *
            generalize put1 y1 7 = y2 at *
            generalize cZ n = cz at *
            clear c7
            go_wp2_with fail
            go_fit HC.out
            rintro e w3 ⟨rfl, hs3, hB3⟩
            have HX3 := Lib.hid (HBX.out.below hB3)
            obtain ⟨b', hb'⟩ : ∃ b', b' = wa.heap.size := ⟨_, rfl⟩
            have hbb := lt_of_block HBX.out.set.1
            have hbr' := lt_of_block HBX.out.ref
            have hbp := lt_of_block HBX.out.act
            have hbe := HBX.out.bel.size
            rw [← hb'] at hs3 hbb hbr' hbp hbe ⊢
            have c3 := HX3.out.held.1
            have HD3 := Lib.hid (HD.out w3 HX3.out.set)
            have HS3 := Lib.hid hs3
            have HLt := Lib.hid (⟨hbb, hbr', hbp, hbe⟩ : b < b' ∧ r < b' ∧ p < b' ∧ w.heap.size ≤ b')
            clear hs3 hbb hbr' hbp hbe hb' hB3 HC HD c1 c2
            go_wp2_with fail
            go_fit HD3.out
            rintro e w4 ⟨rfl, hs4, hC4⟩
            have HX4 := Lib.hid (HX3.out.setTo hs4 hC4)
            have HP4 := Lib.hid (HP.out w4 hs4)
            have HS4 : Hid (SetAt w4 b' x) := ⟨(hC4.block b' (lt_of_block HS3.out.1) (by have := HLt.out; omega)).trans HS3.out.1, HS3.out.2⟩
            clear hs4 hC4 HS3 HD3 HX3 HP
            go_wp2_with fail
            go_fit HP4.out
            rintro e w5 ⟨rfl, hs5, hC5⟩
            have HX5 := Lib.hid (HX4.out.setTo hs5 hC5)
            have HS5 : Hid (SetAt w5 b' x) := ⟨(hC5.block b' (lt_of_block HS4.out.1) (by have := HLt.out; omega)).trans HS4.out.1, HS4.out.2⟩
            have HG : Hid (BX w b' r p x x n (.slice aL lL cL) (.int .i64 dd) w5) := by
              have hl := HLt.out
              exact ⟨HS5.out, HX5.out.ref, HX5.out.act, by omega, by omega, HX5.out.rp, by omega, HX5.out.lr, HX5.out.lp, HX5.out.bel⟩
            clear hs5 hC5
            go_wp2_with fail
            go_meet
            exact ⟨b', x, rfl, rfl, HG.out, HIn.out⟩
        case rest =>
          clear HBX HBX' c1 c2 hd4 HSl2 wa HIn
          obtain ⟨b, x, rfl, rfl, hg, hin⟩ := hcut
          have HG := Lib.hid hg.drew
          have HIn := Lib.hid hin
          have HHa := Lib.hid (has_any b n x wc.drew HG.out.set)
          have HHr := Lib.hid (fun W => rhas_any x n W)
          have HLn := Lib.hid (fun W (h : SetAt W b x) => len_any b x W h)
          have HAl := Lib.hid (fun W => rall_any x W)
          rw [all_mem hin] at HLn
          unfold BoolEnds at HHr
          unfold LEnds at HAl
          generalize memZ x n = mz at *
          generalize memL x = ml at *
          have HRx : Hid (∀ W, RefAt W r x → W.heap[r]? = some (.cells (bools (bl x)) 35 (0, 0))) := fun W h => h
          have hsx := bools_size x
          generalize bools (bl x) = cx at *
          have q1 := HG.out.held.1
          have q2 := HRx.out _ HG.out.ref
          have hmz : (mz != mz) = false := by simp
          have hll : ((ml.length : Int) != (ml.length : Int)) = false := by simp
          clear hg hin
          go_wp2_with fail
          go_region_held3 (fun w' => w'.cell? ⟨p, 1, none⟩ = some (.int .i64 n) ∧ w'.heap[r]? = some (.cells cx 35 (0, 0)))
            (first
              | exact ⟨t1, t2⟩
              | exact ⟨s1, s2⟩
              | exact ⟨q1, q2⟩
              | fail)
            ((first
              | (go_at_call 24
                 (with_reducible refine HHa.out.mono ?_)
                 rintro e w' ⟨rfl, rfl⟩)
              | (go_at_call 35
                 (with_reducible refine (HHr.out _).mono ?_)
                 rintro e w7 ⟨rfl, hB7⟩
                 have HG7 := Lib.hid (HG.out.below hB7)
                 have s1 := HG7.out.held.1
                 have s2 := HRx.out _ HG7.out.ref
                 have HLn' := Lib.hid (HLn.out w7 HG7.out.set)
                 clear hB7)
              | (go_at_call 36
                 (with_reducible refine HLn'.out.mono ?_)
                 rintro e w' ⟨rfl, rfl⟩)
              | (go_at_call 37
                 (with_reducible refine (HAl.out _).mono ?_)
                 rintro e w8 ⟨v8, rfl, hO8, hB8⟩
                 obtain ⟨ad8, c8, rfl⟩ := row_slice hO8
                 have HG8 := Lib.hid (HG7.out.below hB8)
                 have t1 := HG8.out.held.1
                 have t2 := HRx.out _ HG8.out.ref
                 clear hO8 hB8)
              | fail))
          go_wp2_with fail
          go_roundw
          case rel => exact ⟨k + 1, b, x, by omega, by go_num, rfl, HG8.out.set, HG8.out.ref, HIn.out, HG8.out.br, HG8.out.lb, HG8.out.lr, HG8.out.bel⟩
          case measure => simp [intOf]; omega
      · have h61 : ¬ ((k : Int) < 60) := by omega
        have hk1 : (k : Int) < (len2 : Int) := by omega
        have hbx0 : BZ w b r x x wr := ⟨hX, hY, hbr, hlb, hlr, hbel⟩
        have HG := Lib.hid hbx0.drew
        have HAA := Lib.hid (all_any b x wr.drew HG.out.set (tab_below HT.out HG.out.bel (Nat.le_refl _)))
        have HAl := Lib.hid (fun W => rall_any x W)
        unfold AllEnds at HAA
        rw [all_mem hIn] at HAA
        unfold LEnds at HAl
        generalize memL x = ml at *
        have HRx : Hid (∀ W, RefAt W r x → W.heap[r]? = some (.cells (bools (bl x)) 35 (0, 0))) := fun W h => h
        have hsx := bools_size x
        generalize bools (bl x) = cx at *
        have q1 := HRx.out _ HG.out.ref
        clear hX hY hIn hbr hlb hlr hbel hbx0
        go_wp2_with fail
        go_region_held3 (fun w' => w'.heap[r]? = some (.cells cx 35 (0, 0)))
          (first
            | exact q5
            | exact q4
            | exact q3
            | exact q2
            | exact q1
            | fail)
          ((first
            | (go_at_call 39
               (with_reducible refine HAA.out.mono ?_)
               rintro e w8 ⟨v8, rfl, hO8, hB8⟩
               obtain ⟨ad8, c8, rfl⟩ := row_slice hO8
               have HG8 := Lib.hid (HG.out.below hB8)
               have HO8 := Lib.hid hO8
               have q2 := HRx.out _ HG8.out.ref
               clear hO8 hB8)
            | (go_at_call 37
               (with_reducible refine (HAl.out _).mono ?_)
               rintro e w9 ⟨v9, rfl, hO9, hB9⟩
               obtain ⟨ad9, c9, rfl, hs9⟩ := row_src hO9
               have HG9 := Lib.hid (HG8.out.below hB9)
               obtain ⟨ad8', c8', hv8, hs8'⟩ := row_src (owns_of_heap HO8.out fun j hj => hB9.block j (owns_lt HO8.out j hj))
               cases hv8
               have HSM := Lib.hid (same_any _ _ _ _ _ _ _ _ w9 hs8' hs9)
               have q3 := HRx.out _ HG9.out.ref
               clear hO9 hB9 hs9 hs8')
            | (go_at_call 38
               (with_reducible refine HSM.out.mono ?_)
               rintro e w10 ⟨rfl, hS10⟩
               rw [sameB_self]
               have HG10 := Lib.hid (HG9.out.below hS10.below)
               have q4 := HRx.out _ HG10.out.ref
               have HW := Lib.hid (works_any w10 (tab_below HT.out HG10.out.bel (Nat.le_refl _)))
               clear hS10)
            | (go_at_call 21
               (with_reducible refine HW.out.mono ?_)
               rintro e w11 ⟨rfl, hB11⟩
               have HG11 := Lib.hid (HG10.out.below hB11)
               have q5 := HRx.out _ HG11.out.ref
               clear hB11)
            | fail))
        go_wp2_with fail
        go_ret
        exact ⟨rfl, HG11.out.bel⟩
    · have ek : k = len2 := by omega
      subst ek
      have hbx0 : BZ w b r x x wr := ⟨hX, hY, hbr, hlb, hlr, hbel⟩
      have HG := Lib.hid hbx0.drew
      have HAA := Lib.hid (all_any b x wr.drew HG.out.set (tab_below HT.out HG.out.bel (Nat.le_refl _)))
      have HAl := Lib.hid (fun W => rall_any x W)
      unfold AllEnds at HAA
      rw [all_mem hIn] at HAA
      unfold LEnds at HAl
      generalize memL x = ml at *
      have HRx : Hid (∀ W, RefAt W r x → W.heap[r]? = some (.cells (bools (bl x)) 35 (0, 0))) := fun W h => h
      have hsx := bools_size x
      generalize bools (bl x) = cx at *
      have q1 := HRx.out _ HG.out.ref
      clear hX hY hIn hbr hlb hlr hbel hbx0
      go_wp2_with fail
      go_region_held3 (fun w' => w'.heap[r]? = some (.cells cx 35 (0, 0)))
        (first
          | exact q5
          | exact q4
          | exact q3
          | exact q2
          | exact q1
          | fail)
        ((first
          | (go_at_call 39
             (with_reducible refine HAA.out.mono ?_)
             rintro e w8 ⟨v8, rfl, hO8, hB8⟩
             obtain ⟨ad8, c8, rfl⟩ := row_slice hO8
             have HG8 := Lib.hid (HG.out.below hB8)
             have HO8 := Lib.hid hO8
             have q2 := HRx.out _ HG8.out.ref
             clear hO8 hB8)
          | (go_at_call 37
             (with_reducible refine (HAl.out _).mono ?_)
             rintro e w9 ⟨v9, rfl, hO9, hB9⟩
             obtain ⟨ad9, c9, rfl, hs9⟩ := row_src hO9
             have HG9 := Lib.hid (HG8.out.below hB9)
             obtain ⟨ad8', c8', hv8, hs8'⟩ := row_src (owns_of_heap HO8.out fun j hj => hB9.block j (owns_lt HO8.out j hj))
             cases hv8
             have HSM := Lib.hid (same_any _ _ _ _ _ _ _ _ w9 hs8' hs9)
             have q3 := HRx.out _ HG9.out.ref
             clear hO9 hB9 hs9 hs8')
          | (go_at_call 38
             (with_reducible refine HSM.out.mono ?_)
             rintro e w10 ⟨rfl, hS10⟩
             rw [sameB_self]
             have HG10 := Lib.hid (HG9.out.below hS10.below)
             have q4 := HRx.out _ HG10.out.ref
             have HW := Lib.hid (works_any w10 (tab_below HT.out HG10.out.bel (Nat.le_refl _)))
             clear hS10)
          | (go_at_call 21
             (with_reducible refine HW.out.mono ?_)
             rintro e w11 ⟨rfl, hB11⟩
             have HG11 := Lib.hid (HG10.out.below hB11)
             have q5 := HRx.out _ HG11.out.ref
             clear hB11)
          | fail))
      go_wp2_with fail
      go_ret
      exact ⟨rfl, HG11.out.bel⟩
end Go.Proofs.YtafdijcolponjaaDoor
