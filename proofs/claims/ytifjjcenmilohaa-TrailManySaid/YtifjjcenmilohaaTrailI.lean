/- TrailMany's walk: just as many cells and levels are taken as the document says, and a trail that is none takes nothing. No condition. -/
import Derived.Test.YtifjjcenmilohaaTrailH
namespace Go.Proofs.Ytifjjcenmilohaa
open Go.RowKit

def ManyRel (w : World) (b n : Nat) (i : Value) (wr : World) : Prop :=
  ∃ (k : Nat) (F : List Nat) (ms : List Nat), k ≤ 1000 ∧ i = .int .i64 k ∧ TrailAt wr b F ⟨List.replicate n 0, [], ms⟩ ∧ ms.length = k ∧ (∀ m ∈ ms, m = 0) ∧
    (∀ k ∈ F, w.heap.size ≤ k) ∧ Below w.heap.size w wr

theorem many_ok {n : Nat} {ms : List Nat} (h1 : ms.length ≤ 1000) (h2 : ∀ m ∈ ms, m = 0) : (⟨List.replicate n 0, [], ms⟩ : TM).ok 0 :=
  ⟨h1, fun m hm => by rw [h2 m hm]; exact Nat.zero_le _, List.pairwise_iff_forall_sublist.2 fun {a b} hab => by
    have ha := hab.subset (a := a) (by simp)
    rw [h2 a ha]; exact Nat.zero_le _, by simp, by simp⟩

theorem begin_less {n : Nat} {ms : List Nat} (h : ms.length < 1000) : beginF ⟨List.replicate n 0, [], ms⟩ = (0, ⟨List.replicate n 0, [], ms ++ [0]⟩) := by
  unfold beginF; rw [if_neg (by show ¬ ms.length = 1000; omega)]; rfl
theorem begin_more {n : Nat} {ms : List Nat} (h : ms.length = 1000) : beginF ⟨List.replicate n 0, [], ms⟩ = (7, ⟨List.replicate n 0, [], ms⟩) := by
  unfold beginF; rw [if_pos h]

set_option maxRecDepth 100000 in
set_option maxHeartbeats 1000000 in
theorem many_any (a0 a1 : Int) (w : World) (_ : (Lit.int .i64 a0).wf = true) (_ : (Lit.int .i64 a1).wf = true) :
    Calls Try.prog 5 #[.int .i64 a0, .int .i64 a1] w fun e w' => e = .returned (.bool true) ∧ Below w.heap.size w w' := by
  obtain ⟨w1, hw1⟩ : ∃ w1, w1 = w.alloc (.cells #[.slice none 0 0, .slice none 0 0, .slice none 0 0, .bool false] 47) := ⟨_, rfl⟩
  have hE : NoTrail w1 (some ⟨w.heap.size, 0, none⟩) := .inr ⟨_, rfl, by rw [hw1]; exact heap_new _ _⟩
  have hB1 : Below w.heap.size w w1 := by rw [hw1]; exact (Below.refl _ _).alloc (Nat.le_refl _) _
  have HE := Lib.hid hE
  have HB := Lib.hid hB1
  have HW := Lib.hid hw1
  clear hE hB1 hw1
  go_enter Try.func5, Try.ntmps5
  go_wp2_with fail
  rw [← HW.out]
  clear HW
  go_wp2_with (first
    | (go_at_call 8; refine (no_set _ _ _ _ (by first | exact Or.inl rfl | exact HE.out)).mono ?_; rintro e w' ⟨rfl, rfl⟩)
    | (go_at_call 10; refine (no_begin _ _ (by first | exact Or.inl rfl | exact HE.out)).mono ?_; rintro e w' ⟨rfl, rfl⟩)
    | (go_at_call 12; refine (no_undo _ _ (by first | exact Or.inl rfl | exact HE.out)).mono ?_; rintro e w' ⟨rfl, rfl⟩)
    | (go_at_call 14; refine (no_keep _ _ (by first | exact Or.inl rfl | exact HE.out)).mono ?_; rintro e w' ⟨rfl, rfl⟩)
    | (go_at_call 16; refine (no_get _ _ _ (by first | exact Or.inl rfl | exact HE.out)).mono ?_; rintro e w' ⟨rfl, rfl⟩)
    | (go_at_call 15; refine (no_level _ _ (by first | exact Or.inl rfl | exact HE.out)).mono ?_; rintro e w' ⟨rfl, rfl⟩)
    | (go_at_call 19; refine (no_all _ _ (by first | exact Or.inl rfl | exact HE.out)).mono ?_; rintro e w' ⟨rfl, rfl⟩)
    | fail)
  by_cases hbad : a0 < 0 ∨ 1000 < a0
  · refine (new_bad _ _ hbad).mono ?_
    rintro e w' ⟨rfl, rfl⟩
    have hs := HB.out.size
    rcases hbad with h | h
    all_goals
      go_wp2_with fail
      refine (works_any _).mono ?_
      rintro e w3 ⟨rfl, hB3⟩
      go_wp2_with fail
      go_ret
      exact ⟨rfl, HB.out.trans (hB3.mono hs)⟩
  · have h0 : 0 ≤ a0 := by omega
    have h1 : a0 ≤ 1000 := by omega
    clear hbad
    obtain ⟨n, rfl⟩ := Int.eq_ofNat_of_zero_le h0
    refine (new_ok n _ (by omega)).mono ?_
    rintro e w2 ⟨b, rfl, hb, ⟨F, hT, hF⟩, hB2⟩
    have hs := HB.out.size
    have hs2 := hB2.size
    have HT := Lib.hid hT
    have HF := Lib.hid (fun k hk => Nat.le_trans hs (hF k hk))
    have HB2 := Lib.hid (HB.out.trans (hB2.mono hs))
    clear hT hF hB2 HE HB
    go_wp2_with fail
    refine (all_any b F _ w2 HT.out (by simp; omega)).mono ?_
    rintro e w3 ⟨g, c, rfl, -, hB3⟩
    have HT3 := Lib.hid (HT.out.frame (w' := w3) fun k hk => hB3.block k (HT.out.lt k hk))
    have hs3 := hB3.size
    have HB3 := Lib.hid (HB2.out.trans (hB3.mono (by omega)))
    clear hB3 HT HB2
    have hq : ((((List.replicate n (0 : Int)).length : Nat) : Int) != (n : Int)) = false := by simp
    have hq2 : (((n : Nat) : Int) != (n : Int)) = false := by simp
    go_wp2_with fail
    refine (works_any _).mono ?_
    rintro e w4 ⟨rfl, hB4⟩
    have HT4 := Lib.hid (HT3.out.frame (w' := w4) fun k hk => hB4.block k (HT3.out.lt k hk))
    have hs4 := hB4.size
    have HB4 := Lib.hid (HB3.out.trans (hB4.mono (by omega)))
    clear hB4 HT3 HB3 hq hq2
    go_wp2_with fail
    go_loopw [9] (fun i wr => ManyRel w b n i wr) (fun i _ => 1000 - (intOf i).toNat)
    case atStart => exact ⟨0, F, [], by omega, rfl, HT4.out, rfl, by simp, HF.out, HB4.out⟩
    case round =>
      clear HT4 HB4 hs4 hs3 hs2 hs
      obtain ⟨k, Fr, ms, hk, rfl, hT, hlen, hz, hFr, hBr⟩ := hrel
      have HT := Lib.hid hT
      have HZ := Lib.hid hz
      have HFr := Lib.hid hFr
      have HBr := Lib.hid hBr
      have HL := Lib.hid hlen
      clear hT hz hFr hBr hlen
      have hc := begin_any b Fr _ wr HT.out (many_ok (by rw [HL.out]; exact hk) HZ.out) (by decide)
      by_cases hlt : k < 1000
      · rw [begin_less (by rw [HL.out]; exact hlt)] at hc
        have HC := Lib.hid hc
        clear hc
        go_wp2_with fail
        refine HC.out.mono ?_
        rintro e w5 ⟨rfl, F5, hT5, hF5, hC5⟩
        obtain ⟨hB5, hF5⟩ := TEnds.below HBr.out HFr.out hF5 hC5
        have HT5 := Lib.hid hT5
        have HF5 := Lib.hid hF5
        have HB5 := Lib.hid hB5
        clear hT5 hF5 hC5 hB5
        go_wp2_with fail
        go_roundw
        case rel => exact ⟨k + 1, F5, ms ++ [0], by omega, by go_num, HT5.out, by simp [HL.out], fun m hm => by
                      simp only [List.mem_append, List.mem_singleton] at hm
                      rcases hm with hm | rfl
                      · exact HZ.out m hm
                      · rfl, HF5.out, HB5.out⟩
        case measure => simp [intOf]; omega
      · obtain rfl : k = 1000 := by omega
        rw [begin_more HL.out] at hc
        have HC := Lib.hid hc
        clear hc
        go_wp2_with fail
        refine HC.out.mono ?_
        rintro e w5 ⟨rfl, F5, hT5, hF5, hC5⟩
        obtain ⟨hB5, hF5⟩ := TEnds.below HBr.out HFr.out hF5 hC5
        have HLV := level_any b F5 _ w5 hT5
        rw [show (⟨List.replicate n 0, [], ms⟩ : TM).marks.length = 1000 from HL.out] at HLV
        have HLV' := Lib.hid HLV
        have HB5 := Lib.hid hB5
        clear hT5 hF5 hC5 hB5 HLV
        go_wp2_with fail
        refine HLV'.out.mono ?_
        rintro e w' ⟨rfl, rfl⟩
        go_wp2_with fail
        go_ret
        exact ⟨rfl, HB5.out⟩
end Go.Proofs.Ytifjjcenmilohaa
