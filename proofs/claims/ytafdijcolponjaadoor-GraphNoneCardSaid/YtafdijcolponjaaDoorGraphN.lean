/- The contracts of a graph that is none: nil, or one that New did not make. No condition but those in each statement. -/
import Derived.Test.YtafdijcolponjaaDoorGraphF
namespace Go.Proofs.YtafdijcolponjaaDoor
open Go.RowKit

/-- No graph: nil, or a struct that New did not make. -/
def NoGraph (w : World) (p : Option Addr) : Prop := p = none ∨ ∃ b, p = some ⟨b, 0, none⟩ ∧ w.cell? ⟨b, 3, none⟩ = some (.bool false)

theorem is_none (p : Option Addr) (w : World) (h : NoGraph w p) :
    Calls Tryd.prog 88 #[.pointer p] w fun e w' => e = .returned (.bool false) ∧ w = w' := by
  rcases h with rfl | ⟨b, rfl, hc⟩
  · exact is_nil w
  · go_enter Tryd.func88, Tryd.ntmps88
    go_wp2_with fail
    go_ret
    exact ⟨rfl, rfl⟩

theorem node_none (p : Option Addr) (a : Int) (w : World) (h : NoGraph w p) :
    Calls Tryd.prog 89 #[.pointer p, .int .i64 a] w fun e w' => e = .returned (.bool false) ∧ w = w' := by
  have H := Lib.hid (is_none p w h)
  clear h
  go_enter Tryd.func89, Tryd.ntmps89
  go_wp2_with fail
  go_fit H.out
  rintro e w' ⟨rfl, rfl⟩
  go_wp2_with fail
  go_ret
  exact ⟨rfl, rfl⟩

theorem len_none (p : Option Addr) (w : World) (h : NoGraph w p) :
    Calls Tryd.prog 42 #[.pointer p] w fun e w' => e = .returned (.int .i64 0) ∧ w = w' := by
  have H := Lib.hid (is_none p w h)
  clear h
  go_enter Tryd.func42, Tryd.ntmps42
  go_wp2_with fail
  go_fit H.out
  rintro e w' ⟨rfl, rfl⟩
  go_wp2_with fail
  go_ret
  exact ⟨rfl, rfl⟩

theorem mark_none (p : Option Addr) (w : World) (h : NoGraph w p) :
    Calls Tryd.prog 43 #[.pointer p] w fun e w' => e = .returned (.int .i64 0) ∧ w = w' := by
  have H := Lib.hid (is_none p w h)
  clear h
  go_enter Tryd.func43, Tryd.ntmps43
  go_wp2_with fail
  go_fit H.out
  rintro e w' ⟨rfl, rfl⟩
  go_wp2_with fail
  go_ret
  exact ⟨rfl, rfl⟩

theorem undo_none (p : Option Addr) (a : Int) (w : World) (h : NoGraph w p) :
    Calls Tryd.prog 49 #[.pointer p, .int .i64 a] w fun e w' => e = .returned (.int .i64 4) ∧ w = w' := by
  have H := Lib.hid (is_none p w h)
  clear h
  go_enter Tryd.func49, Tryd.ntmps49
  go_wp2_with fail
  go_fit H.out
  rintro e w' ⟨rfl, rfl⟩
  go_wp2_with fail
  go_ret
  exact ⟨rfl, rfl⟩

theorem put_none (p : Option Addr) (a z : Int) (w : World) (h : NoGraph w p) :
    Calls Tryd.prog 48 #[.pointer p, .int .i64 a, .int .i64 z] w fun e w' => e = .returned (two false 4) ∧ w = w' := by
  have H := Lib.hid (is_none p w h)
  clear h
  go_enter Tryd.func48, Tryd.ntmps48
  go_wp2_with fail
  go_fit H.out
  rintro e w' ⟨rfl, rfl⟩
  go_wp2_with fail
  go_ret2
  exact ⟨rfl, rfl⟩

theorem has_none (p : Option Addr) (a z : Int) (w : World) (h : NoGraph w p) :
    Calls Tryd.prog 55 #[.pointer p, .int .i64 a, .int .i64 z] w fun e w' => e = .returned (.bool false) ∧ w = w' := by
  have H := Lib.hid (node_none p a w h)
  clear h
  go_enter Tryd.func55, Tryd.ntmps55
  go_wp2_with fail
  go_fit H.out
  rintro e w' ⟨rfl, rfl⟩
  go_wp2_with fail
  go_ret
  exact ⟨rfl, rfl⟩

theorem next_none (p : Option Addr) (a : Int) (w : World) (h : NoGraph w p) :
    Calls Tryd.prog 57 #[.pointer p, .int .i64 a] w fun e w' => e = .returned (.slice none 0 0) ∧ w = w' := by
  have H := Lib.hid (node_none p a w h)
  clear h
  go_enter Tryd.func57, Tryd.ntmps57
  go_wp2_with fail
  go_fit H.out
  rintro e w' ⟨rfl, rfl⟩
  go_wp2_with fail
  go_ret
  exact ⟨rfl, rfl⟩

theorem back_none (p : Option Addr) (a : Int) (w : World) (h : NoGraph w p) :
    Calls Tryd.prog 59 #[.pointer p, .int .i64 a] w fun e w' => e = .returned (.slice none 0 0) ∧ w = w' := by
  have H := Lib.hid (node_none p a w h)
  clear h
  go_enter Tryd.func59, Tryd.ntmps59
  go_wp2_with fail
  go_fit H.out
  rintro e w' ⟨rfl, rfl⟩
  go_wp2_with fail
  go_ret
  exact ⟨rfl, rfl⟩

theorem edges_none (p : Option Addr) (w : World) (h : NoGraph w p) :
    Calls Tryd.prog 44 #[.pointer p] w fun e w' => e = .returned (.slice none 0 0) ∧ w = w' := by
  have H := Lib.hid (len_none p w h)
  clear h
  go_enter Tryd.func44, Tryd.ntmps44
  go_wp2_with fail
  go_fit H.out
  rintro e w' ⟨rfl, rfl⟩
  go_wp2_with fail
  go_loopw [3, 9] (fun l i wr => l = .slice none 0 0 ∧ i = .int .i64 0 ∧ w = wr) (fun _ _ _ => 0)
  case atStart => exact ⟨rfl, rfl, rfl⟩
  case round =>
    obtain ⟨rfl, rfl, rfl⟩ := hrel
    go_wp2_with fail
    go_ret
    exact ⟨rfl, rfl⟩

end Go.Proofs.YtafdijcolponjaaDoor
