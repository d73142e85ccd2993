/- BitsNone answers true, whatever comes in, where the table lies. No condition but those in each statement. -/
import Derived.Test.YtafdijcolponjaaDoorBitsG
namespace Go.Proofs.YtafdijcolponjaaDoor
open Go.RowKit

theorem put_nil (n : Int) (w : World) :
    Calls Tryd.prog 25 #[.pointer none, .int .i64 n] w fun e w' => e = .returned (.int .i64 4) ∧ w = w' := by
  have HM := Lib.hid (may_nil n w)
  go_enter Tryd.func25, Tryd.ntmps25
  go_wp2_with fail
  go_fit HM.out
  rintro e w' ⟨rfl, rfl⟩
  go_wp2_with fail
  go_ret
  exact ⟨rfl, rfl⟩
theorem drop_nil (n : Int) (w : World) :
    Calls Tryd.prog 26 #[.pointer none, .int .i64 n] w fun e w' => e = .returned (.int .i64 4) ∧ w = w' := by
  have HM := Lib.hid (may_nil n w)
  go_enter Tryd.func26, Tryd.ntmps26
  go_wp2_with fail
  go_fit HM.out
  rintro e w' ⟨rfl, rfl⟩
  go_wp2_with fail
  go_ret
  exact ⟨rfl, rfl⟩
theorem has_nil (n : Int) (w : World) :
    Calls Tryd.prog 24 #[.pointer none, .int .i64 n] w fun e w' => e = .returned (.bool false) ∧ w = w' := by
  have HM := Lib.hid (may_nil n w)
  go_enter Tryd.func24, Tryd.ntmps24
  go_wp2_with fail
  go_fit HM.out
  rintro e w' ⟨rfl, rfl⟩
  go_wp2_with fail
  go_ret
  exact ⟨rfl, rfl⟩
theorem join_nil (p : Value) (w : World) :
    Calls Tryd.prog 32 #[.pointer none, p] w fun e w' => e = .returned (.bool false) ∧ w = w' := by
  go_enter Tryd.func32, Tryd.ntmps32
  go_wp2_with fail
  go_ret
  exact ⟨rfl, rfl⟩
theorem join_to_nil (p : Addr) (w : World) :
    Calls Tryd.prog 32 #[.pointer (some p), .pointer none] w fun e w' => e = .returned (.bool false) ∧ w = w' := by
  go_enter Tryd.func32, Tryd.ntmps32
  go_wp2_with fail
  go_ret
  exact ⟨rfl, rfl⟩
theorem meets_nil (p : Value) (w : World) :
    Calls Tryd.prog 27 #[.pointer none, p] w fun e w' => e = .returned (.bool false) ∧ w = w' := by
  go_enter Tryd.func27, Tryd.ntmps27
  go_wp2_with fail
  go_ret
  exact ⟨rfl, rfl⟩
theorem meets_to_nil (p : Addr) (w : World) :
    Calls Tryd.prog 27 #[.pointer (some p), .pointer none] w fun e w' => e = .returned (.bool false) ∧ w = w' := by
  go_enter Tryd.func27, Tryd.ntmps27
  go_wp2_with fail
  go_ret
  exact ⟨rfl, rfl⟩
theorem len_nil (w : World) :
    Calls Tryd.prog 36 #[.pointer none] w fun e w' => e = .returned (.int .i64 0) ∧ w = w' := by
  go_enter Tryd.func36, Tryd.ntmps36
  go_wp2_with fail
  go_ret
  exact ⟨rfl, rfl⟩
theorem all_nil (w : World) :
    Calls Tryd.prog 39 #[.pointer none] w fun e w' => e = .returned (.slice none 0 0) ∧ w = w' := by
  go_enter Tryd.func39, Tryd.ntmps39
  go_wp2_with fail
  go_ret
  exact ⟨rfl, rfl⟩
theorem copy_nil (w : World) :
    Calls Tryd.prog 34 #[.pointer none] w fun e w' => e = .returned (.pointer none) ∧ w = w' := by
  go_enter Tryd.func34, Tryd.ntmps34
  go_wp2_with fail
  go_ret
  exact ⟨rfl, rfl⟩

theorem none_any (n : Int) (a : Option Addr) (len cap : Nat) (l : List Int) (w : World) (h : Src w a len cap 1 (intl l)) (hT : TabIs w) :
    Calls Tryd.prog 6 #[.int .i64 n, .slice a len cap] w (YesEnds w) := by
  have HF := Lib.hid (few_any a len cap l w h)
  have HT := Lib.hid hT
  clear h hT
  go_enter Tryd.func6, Tryd.ntmps6
  go_wp2_with fail
  go_fit HF.out
  rintro e w2 ⟨g, c, rfl, hB2, hg, hsrc⟩
  generalize l.take 100 = q at *
  have HN := Lib.hid (new_any _ _ _ _ _ hsrc)
  have HB2 := Lib.hid hB2
  clear hB2 hg hsrc
  go_wp2_with fail
  go_fit HN.out
  rintro e w3 ⟨rfl, hS3, hB3⟩
  generalize newW q = ws at hS3
  generalize hb : w2.heap.size = b at hS3 hB3
  have HB3 := Lib.hid (HB2.out.trans (hB3.mono (by have := HB2.out.size; omega)))
  have HL := Lib.hid (len_any b ws w3 hS3)
  have HW := Lib.hid (works_any w3 (tab_below HT.out HB3.out (Nat.le_refl _)))
  generalize (preL ws 8).length = k at *
  have H1 := Lib.hid (put_nil n w3)
  have H2 := Lib.hid (drop_nil n w3)
  have H3 := Lib.hid (has_nil n w3)
  have H4 := Lib.hid (join_nil (.pointer (some ⟨b, 0, none⟩)) w3)
  have H5 := Lib.hid (meets_nil (.pointer (some ⟨b, 0, none⟩)) w3)
  have H6 := Lib.hid (meets_to_nil ⟨b, 0, none⟩ w3)
  have H7 := Lib.hid (join_to_nil ⟨b, 0, none⟩ w3)
  have H8 := Lib.hid (len_nil w3)
  have H9 := Lib.hid (all_nil w3)
  have HA := Lib.hid (copy_nil w3)
  clear hb hB3 hS3
  go_wp2_with fail
  go_fit HL.out
  rintro e w' ⟨rfl, rfl⟩
  go_wp2_with fail
  go_fit H1.out
  rintro e w' ⟨rfl, rfl⟩
  go_wp2_with fail
  go_fit H2.out
  rintro e w' ⟨rfl, rfl⟩
  go_wp2_with fail
  go_fit H3.out
  rintro e w' ⟨rfl, rfl⟩
  go_wp2_with fail
  go_fit H4.out
  rintro e w' ⟨rfl, rfl⟩
  go_wp2_with fail
  go_fit H5.out
  rintro e w' ⟨rfl, rfl⟩
  go_wp2_with fail
  go_fit H6.out
  rintro e w' ⟨rfl, rfl⟩
  go_wp2_with fail
  go_fit H7.out
  rintro e w' ⟨rfl, rfl⟩
  go_wp2_with fail
  go_fit H8.out
  rintro e w' ⟨rfl, rfl⟩
  go_wp2_with fail
  go_fit H9.out
  rintro e w' ⟨rfl, rfl⟩
  go_wp2_with fail
  go_fit HA.out
  rintro e w' ⟨rfl, rfl⟩
  go_wp2_with fail
  go_fit HL.out
  rintro e w' ⟨rfl, rfl⟩
  go_wp2_with fail
  go_fit HW.out
  rintro e w' ⟨rfl, hB⟩
  have HB := Lib.hid (HB3.out.trans (hB.mono HB3.out.size))
  clear hB
  go_wp2_with fail
  go_ret
  exact ⟨rfl, HB.out⟩

theorem none_walk (n : Int) (a : Option Addr) (len cap : Nat) (zs : List Int) (w : World) (_hn : (Lit.int .i64 n).wf = true) (h : IsRow .i64 w a len cap zs) (hT : TabIs w) :
    Calls Tryd.prog 6 #[.int .i64 n, .slice a len cap] w (YesEnds w) :=
  none_any n a len cap (zs.take len) w (h.src (Nat.le_refl _)) hT
end Go.Proofs.YtafdijcolponjaaDoor
