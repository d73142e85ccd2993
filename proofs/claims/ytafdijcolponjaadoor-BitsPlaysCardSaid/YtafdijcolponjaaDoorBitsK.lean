/- BitsMeets answers true, whatever comes in, where the table lies. No condition but those in each statement. -/
import Derived.Test.YtafdijcolponjaaDoorBitsJ
namespace Go.Proofs.YtafdijcolponjaaDoor
open Go.RowKit

theorem Src.later {w w' : World} {a : Option Addr} {len cap : Nat} {l : List Int} (h : Src w a len cap 1 (intl l)) (hb : Below w.heap.size w w') : Src w' a len cap 1 (intl l) := by
  refine h.of_block fun ad ha hl => hb.block _ ?_
  subst ha
  obtain ⟨v, hv⟩ : ∃ v, (intl l)[0]? = some v := by
    have := h.1
    exact ⟨_, List.getElem?_eq_getElem (by omega)⟩
  have := h.2.2.2.2.1 ad rfl 0 v hv
  have := World.block_lt_of_cell? w _ this
  simpa [Addr.add] using this
theorem Src.more {w w' : World} {a : Option Addr} {len cap B : Nat} {l : List Int} (h : Src w a len cap 1 (intl l)) (hb : Below B w w') (hB : w.heap.size ≤ B) : Src w' a len cap 1 (intl l) :=
  h.later (hb.mono hB)
theorem take_take100 (l : List Int) : (l.take 100).take 100 = l.take 100 := by rw [List.take_take, Nat.min_self]

theorem meetsAll_any (a b : Option Addr) (na ca nb cb : Nat) (la lb : List Int) (w : World) (ha : Src w a na ca 1 (intl la)) (hb : Src w b nb cb 1 (intl lb)) (hT : TabIs w) :
    Calls Tryd.prog 4 #[.slice a na ca, .slice b nb cb] w (YesEnds w) := by
  have HA := Lib.hid (few_any a na ca la w ha)
  have HB := Lib.hid hb
  have HT := Lib.hid hT
  clear ha hb hT
  go_enter Tryd.func4, Tryd.ntmps4
  go_wp2_with fail
  go_fit HA.out
  rintro e w1 ⟨g1, c1, rfl, b1, k1, s1⟩
  have HF := Lib.hid (few_any b nb cb lb w1 (HB.out.later b1))
  have t1 := take_take100 la
  generalize la.take 100 = pa at *
  have B1 := Lib.hid b1
  have S1 := Lib.hid s1
  have T1 := Lib.hid t1
  clear b1 s1 k1 t1
  go_wp2_with fail
  go_fit HF.out
  rintro e w2 ⟨g2, c2, rfl, b2, k2, s2⟩
  have t2 := take_take100 lb
  generalize lb.take 100 = pb at *
  have S1' := Lib.hid (S1.out.later b2)
  have hf1 := few_any _ _ _ _ w2 S1'.out
  unfold FewEnds at hf1
  rw [T1.out] at hf1
  have HF1 := Lib.hid hf1
  have B2 := Lib.hid (B1.out.trans (b2.mono B1.out.size))
  have S2 := Lib.hid s2
  have T2 := Lib.hid t2
  clear b2 s2 k2 t2 S1 HF hf1 B1 HA HB
  go_wp2_with fail
  go_fit HF1.out
  rintro e w3 ⟨g3, c3, rfl, b3, k3, s3⟩
  have HN := Lib.hid (new_any _ _ _ _ _ s3)
  have S1 := Lib.hid (S1'.out.later b3)
  have S2' := Lib.hid (S2.out.later b3)
  have B3 := Lib.hid (B2.out.trans (b3.mono B2.out.size))
  clear b3 k3 s3 HF1 S1' S2 B2
  go_wp2_with fail
  go_fit HN.out
  rintro e w4 ⟨rfl, x4, b4⟩
  have S1' := Lib.hid (S1.out.later b4)
  have S2 := Lib.hid (S2'.out.later b4)
  have B4 := Lib.hid (B3.out.trans (b4.mono B3.out.size))
  have hf2 := few_any _ _ _ _ w4 S2.out
  unfold FewEnds at hf2
  rw [T2.out] at hf2
  have HF2 := Lib.hid hf2
  generalize w3.heap.size = p at x4
  have X4 := Lib.hid x4
  have hp4 := lt_of_block x4.1
  have P4 := Lib.hid hp4
  clear x4 b4 hf2 HN S1 S2' B3 hp4
  go_wp2_with fail
  go_fit HF2.out
  rintro e w5 ⟨g5, c5, rfl, b5, k5, s5⟩
  have HN := Lib.hid (new_any _ _ _ _ _ s5)
  have S1 := Lib.hid (S1'.out.later b5)
  have S2' := Lib.hid (S2.out.later b5)
  have B5 := Lib.hid (B4.out.trans (b5.mono B4.out.size))
  have X5 := Lib.hid (X4.out.below b5 P4.out)
  have P5 : Hid (p < w5.heap.size) := Nat.lt_of_lt_of_le P4.out b5.size
  clear b5 k5 s5 HF2 S1' S2 B4 X4 P4
  go_wp2_with fail
  go_fit HN.out
  rintro e w6 ⟨rfl, y6, b6⟩
  have B6 := Lib.hid (B5.out.trans (b6.mono B5.out.size))
  have X6 := Lib.hid (X5.out.below b6 P5.out)
  have P6 : Hid (p < w6.heap.size) := Nat.lt_of_lt_of_le P5.out b6.size
  have S1' := Lib.hid (S1.out.later b6)
  have S2 := Lib.hid (S2'.out.later b6)
  generalize w5.heap.size = q at y6
  have Y6 := Lib.hid y6
  have Q6 := Lib.hid (lt_of_block y6.1)
  have M6 := Lib.hid (meets_any p q _ _ w6 X6.out y6)
  have K6 := Lib.hid (make_any _ _ _ _ w6 S1'.out)
  clear y6 b6 B5 X5 P5 HN S1 S2'
  have eW := Lib.hid (meetsW_eq (newW pa) (newW pb) (newW_in pa) X6.out.2.2)
  have eW' := Lib.hid (meetsW_eq (newW pb) (newW pa) (newW_in pb) Y6.out.2.2)
  have eC := Lib.hid (meetsB_comm (newW pb) (newW pa))
  rw [eW.out] at M6
  go_wp2_with fail
  go_fit M6.out
  rintro e w7 ⟨rfl, rfl⟩
  go_wp2_with fail
  go_fit K6.out
  rintro e w7 ⟨rfl, b7⟩
  have K7 := Lib.hid (make_any _ _ _ _ w7 (S2.out.later b7))
  have B7 := Lib.hid (B6.out.trans (b7.mono B6.out.size))
  have X7 := Lib.hid (X6.out.below b7 P6.out)
  have Y7 := Lib.hid (Y6.out.below b7 Q6.out)
  have P7 : Hid (p < w7.heap.size) := Nat.lt_of_lt_of_le P6.out b7.size
  have Q7 : Hid (q < w7.heap.size) := Nat.lt_of_lt_of_le Q6.out b7.size
  clear b7 B6 X6 Y6 P6 Q6 M6 K6 S1' S2
  go_wp2_with fail
  go_fit K7.out
  rintro e w8 ⟨rfl, b8⟩
  have K8 := Lib.hid (refMeets_any (newW pa) (newW pb) w8)
  have B8 := Lib.hid (B7.out.trans (b8.mono B7.out.size))
  have X8 := Lib.hid (X7.out.below b8 P7.out)
  have Y8 := Lib.hid (Y7.out.below b8 Q7.out)
  have P8 : Hid (p < w8.heap.size) := Nat.lt_of_lt_of_le P7.out b8.size
  have Q8 : Hid (q < w8.heap.size) := Nat.lt_of_lt_of_le Q7.out b8.size
  clear b8 B7 X7 Y7 P7 Q7 K7
  go_wp2_with fail
  go_fit K8.out
  rintro e w9 ⟨rfl, b9⟩
  have B9 := Lib.hid (B8.out.trans (b9.mono B8.out.size))
  have X9 := Lib.hid (X8.out.below b9 P8.out)
  have Y9 := Lib.hid (Y8.out.below b9 Q8.out)
  have M1 := Lib.hid (meets_any p q _ _ w9 X9.out Y9.out)
  have M2 := Lib.hid (meets_any q p _ _ w9 Y9.out X9.out)
  have HW := Lib.hid (works_any w9 (tab_below HT.out B9.out (Nat.le_refl _)))
  rw [eW.out] at M1
  rw [eW'.out, eC.out] at M2
  clear b9 B8 X8 Y8 P8 Q8 K8 X9 Y9 eW eW' eC
  generalize meetsB (newW pa) (newW pb) = m at *
  go_wp2_with fail
  go_fit M1.out
  rintro e w' ⟨rfl, rfl⟩
  go_wp2_with fail
  go_fit M2.out
  rintro e w' ⟨rfl, rfl⟩
  go_wp2_with fail
  go_fit HW.out
  rintro e w' ⟨rfl, hB⟩
  have HB := Lib.hid (B9.out.trans (hB.mono B9.out.size))
  clear hB
  go_wp2_with fail
  go_ret
  exact ⟨rfl, HB.out⟩

theorem meets_walk (a : Option Addr) (na ca : Nat) (za : List Int) (b : Option Addr) (nb cb : Nat) (zb : List Int) (w : World) (ha : IsRow .i64 w a na ca za) (hb : IsRow .i64 w b nb cb zb) (hT : TabIs w) :
    Calls Tryd.prog 4 #[.slice a na ca, .slice b nb cb] w (YesEnds w) :=
  meetsAll_any a b na ca nb cb (za.take na) (zb.take nb) w (ha.src (Nat.le_refl _)) (hb.src (Nat.le_refl _)) hT
end Go.Proofs.YtafdijcolponjaaDoor
