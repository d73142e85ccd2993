/- The contracts of a domain that is none: nil, or one that New did not make. No condition but those in each statement. -/
import Derived.Test.YtifjjcenmilohaaDoorTrailH
import Derived.Deep.DeepFit
namespace Go.Proofs.YtifjjcenmilohaaDoor
open Go.RowKit

/-- No domain: nil, or a struct that New did not make. -/
def NoDom (w : World) (p : Option Addr) : Prop := p = none ∨ ∃ b, p = some ⟨b, 0, none⟩ ∧ w.cell? ⟨b, 0, none⟩ = some (.pointer none) ∧ w.cell? ⟨b, 1, none⟩ = some (.slice none 0 0)

theorem dhas_none (p : Option Addr) (v : Int) (w : World) (h : NoDom w p) :
    Calls Tryd.prog 35 #[.pointer p, .int .i64 v] w fun e w' => e = .returned (.bool false) ∧ w = w' := by
  rcases h with rfl | ⟨b, rfl, c0, c1⟩
  · go_enter Tryd.func35, Tryd.ntmps35
    go_wp2_with fail
    go_ret
    exact ⟨rfl, rfl⟩
  · go_enter Tryd.func35, Tryd.ntmps35
    go_wp2_with fail
    go_ret
    exact ⟨rfl, rfl⟩

theorem dmay_none (p : Option Addr) (v k : Int) (w : World) (h : NoDom w p) :
    Calls Tryd.prog 28 #[.pointer p, .int .i64 v, .int .i64 k] w fun e w' => e = .returned (.int .i64 4) ∧ w = w' := by
  rcases h with rfl | ⟨b, rfl, c0, c1⟩
  · go_enter Tryd.func28, Tryd.ntmps28
    go_wp2_with fail
    go_ret
    exact ⟨rfl, rfl⟩
  · go_enter Tryd.func28, Tryd.ntmps28
    go_wp2_with fail
    go_ret
    exact ⟨rfl, rfl⟩

theorem ddrop_none (p : Option Addr) (v k : Int) (w : World) (h : NoDom w p) :
    Calls Tryd.prog 12 #[.pointer p, .int .i64 v, .int .i64 k] w fun e w' => e = .returned (.int .i64 4) ∧ w = w' := by
  have H := Lib.hid (dmay_none p v k w h)
  clear h
  go_enter Tryd.func12, Tryd.ntmps12
  go_wp2_with fail
  go_fit H.out
  rintro e w' ⟨rfl, rfl⟩
  go_wp2_with fail
  go_ret
  exact ⟨rfl, rfl⟩

theorem donly_none (p : Option Addr) (v k : Int) (w : World) (h : NoDom w p) :
    Calls Tryd.prog 14 #[.pointer p, .int .i64 v, .int .i64 k] w fun e w' => e = .returned (.int .i64 4) ∧ w = w' := by
  have H := Lib.hid (dmay_none p v k w h)
  clear h
  go_enter Tryd.func14, Tryd.ntmps14
  go_wp2_with fail
  go_fit H.out
  rintro e w' ⟨rfl, rfl⟩
  go_wp2_with fail
  go_ret
  exact ⟨rfl, rfl⟩

theorem dleft_none (p : Option Addr) (v : Int) (w : World) (h : NoDom w p) :
    Calls Tryd.prog 23 #[.pointer p, .int .i64 v] w fun e w' => e = .returned (.slice none 0 0) ∧ w = w' := by
  have H := Lib.hid (dhas_none p v w h)
  clear h
  go_enter Tryd.func23, Tryd.ntmps23
  go_wp2_with fail
  go_fit H.out
  rintro e w' ⟨rfl, rfl⟩
  go_wp2_with fail
  go_ret
  exact ⟨rfl, rfl⟩

theorem dfixed_none (p : Option Addr) (v : Int) (w : World) (h : NoDom w p) :
    Calls Tryd.prog 21 #[.pointer p, .int .i64 v] w fun e w' => e = .returned (.tuple #[.int .i64 0, .bool false]) ∧ w = w' := by
  have H := Lib.hid (dleft_none p v w h)
  clear h
  go_enter Tryd.func21, Tryd.ntmps21
  go_wp2_with fail
  go_fit H.out
  rintro e w' ⟨rfl, rfl⟩
  go_wp2_with fail
  go_ret2
  exact ⟨rfl, rfl⟩

theorem dbegin_none (p : Option Addr) (w : World) (h : NoDom w p) :
    Calls Tryd.prog 16 #[.pointer p] w fun e w' => e = .returned (.int .i64 4) ∧ w = w' := by
  have H := Lib.hid (no_begin none w (.inl rfl))
  rcases h with rfl | ⟨b, rfl, c0, c1⟩
  · go_enter Tryd.func16, Tryd.ntmps16
    go_wp2_with fail
    go_ret
    exact ⟨rfl, rfl⟩
  · go_enter Tryd.func16, Tryd.ntmps16
    go_wp2_with fail
    go_fit H.out
    rintro e w' ⟨rfl, rfl⟩
    go_wp2_with fail
    go_ret
    exact ⟨rfl, rfl⟩

theorem dundo_none (p : Option Addr) (w : World) (h : NoDom w p) :
    Calls Tryd.prog 18 #[.pointer p] w fun e w' => e = .returned (.int .i64 4) ∧ w = w' := by
  have H := Lib.hid (no_undo none w (.inl rfl))
  rcases h with rfl | ⟨b, rfl, c0, c1⟩
  · go_enter Tryd.func18, Tryd.ntmps18
    go_wp2_with fail
    go_ret
    exact ⟨rfl, rfl⟩
  · go_enter Tryd.func18, Tryd.ntmps18
    go_wp2_with fail
    go_fit H.out
    rintro e w' ⟨rfl, rfl⟩
    go_wp2_with fail
    go_ret
    exact ⟨rfl, rfl⟩

theorem dopen_none (p : Option Addr) (w : World) (h : NoDom w p) :
    Calls Tryd.prog 24 #[.pointer p] w fun e w' => e = .returned (.slice none 0 0) ∧ w = w' := by
  rcases h with rfl | ⟨b, rfl, c0, c1⟩
  · go_enter Tryd.func24, Tryd.ntmps24
    go_wp2_with fail
    go_ret
    exact ⟨rfl, rfl⟩
  · go_enter Tryd.func24, Tryd.ntmps24
    go_wp2_with fail
    go_loopw [3, 14] (fun l i wr => l = .slice none 0 0 ∧ i = .int .i64 0 ∧ w = wr) (fun _ _ _ => 0)
    case atStart => exact ⟨rfl, rfl, rfl⟩
    case round =>
    obtain ⟨rfl, rfl, rfl⟩ := hrel
    go_wp2_with fail
    go_ret
    exact ⟨rfl, rfl⟩

end Go.Proofs.YtifjjcenmilohaaDoor
