/- The contracts of Has, Next, Back. No condition but those in each statement; Next and Back: where the table lies. -/
import Derived.Test.YtafdijcolponjaaDoorGraphA
namespace Go.Proofs.YtafdijcolponjaaDoor
open Go.RowKit

theorem ptr_cell {w : World} {v : Value} {n : Nat} {ts : List Nat} {e : TypeId} (h : w.ownsRow 0 e 1 v n (ptrs ts)) {i : Nat} (hi : i < n) :
    ∃ g c, v = .slice (some ⟨g, 0, none⟩) n c ∧ w.cell? ⟨g, i, none⟩ = some (.pointer (some ⟨ts.getD i 0, 0, none⟩)) ∧ n ≤ 9223372036854775807 := by
  rcases owns_shape h with ⟨_, h0⟩ | ⟨g, c, rfl, hc, hm⟩
  · omega
  · refine ⟨g, c, rfl, ?_, by unfold maxLen at hm; omega⟩
    have h1 := h.1
    have hl : i < ts.length := by simp [ptrs] at h1; omega
    rw [h.cellAt i (by omega)]
    simp [ptrs, hl]

def GM.hasB (G : GM) (a z : Int) : Bool := inG G.n a && memZ (G.tow a.toNat) z

theorem ghas_any (b : Nat) (F : List Nat) (G : GM) (a z : Int) (w : World) (h : GraphAt w b F G) :
    Calls Tryd.prog 55 #[.pointer (some ⟨b, 0, none⟩), .int .i64 a, .int .i64 z] w fun e w' => e = .returned (.bool (G.hasB a z)) ∧ w = w' := by
  have hN := node_any b F G a w h
  obtain ⟨vt, vf, vl, ts, fs, h1, ht, -, -, -, -, hT, -⟩ := h
  unfold GM.hasB
  by_cases ha : 0 ≤ a ∧ a < (G.n : Int)
  · obtain ⟨i, rfl⟩ := Int.eq_ofNat_of_zero_le ha.1
    have hi : i < G.n := by omega
    have e1 : inG G.n (i : Int) = true := decide_eq_true ha
    rw [e1] at hN ⊢
    obtain ⟨g, c, rfl, c1, hmx⟩ := ptr_cell ht hi
    have c0 : w.cell? ⟨b, 0, none⟩ = some (.slice (some ⟨g, 0, none⟩) G.n c) := cell_at 0 h1 rfl
    have HH := Lib.hid (has_any _ z _ w (hT i hi))
    have HN := Lib.hid hN
    rw [Int.toNat_natCast, Bool.true_and]
    clear h1 ht hT e1 hN
    generalize G.n = n at *
    generalize ts.getD i 0 = p at *
    generalize memZ (G.tow i) z = m at *
    have h0 : (0 : Int) ≤ (i : Int) := by omega
    have h1 : (i : Int) < (n : Int) := by omega
    clear ha
    go_enter Tryd.func55, Tryd.ntmps55
    go_wp2_with fail
    go_fit HN.out
    rintro e w' ⟨rfl, rfl⟩
    go_wp2_with fail
    go_fit HH.out
    rintro e w' ⟨rfl, rfl⟩
    go_wp2_with fail
    go_ret
    exact ⟨rfl, rfl⟩
  · have e1 : inG G.n a = false := decide_eq_false ha
    rw [e1] at hN ⊢
    have HN := Lib.hid hN
    rw [Bool.false_and]
    clear h1 ht hT e1 hN ha
    go_enter Tryd.func55, Tryd.ntmps55
    go_wp2_with fail
    go_fit HN.out
    rintro e w' ⟨rfl, rfl⟩
    go_wp2_with fail
    go_ret
    exact ⟨rfl, rfl⟩

/-- What Next and Back make: nil, or a row of the call's own. -/
def ListEnds (l : List Nat) (w : World) (e : Ending) (w' : World) : Prop :=
  ∃ v, e = .returned v ∧ w'.ownsRow w.heap.size 3 1 v l.length (intl (natI l)) ∧ Below w.heap.size w w'
theorem owns_nil {w : World} {base e : Nat} : w.ownsRow base e 1 (.slice none 0 0) 0 [] := ⟨rfl, .inl ⟨rfl, rfl⟩⟩

def GM.nextL (G : GM) (a : Int) : List Nat := if inG G.n a = true then preL (G.tow a.toNat) 8 else []
def GM.backL (G : GM) (a : Int) : List Nat := if inG G.n a = true then preL (G.frw a.toNat) 8 else []

theorem next_any (b : Nat) (F : List Nat) (G : GM) (a : Int) (w : World) (h : GraphAt w b F G) (hTab : TabIs w) :
    Calls Tryd.prog 57 #[.pointer (some ⟨b, 0, none⟩), .int .i64 a] w (ListEnds (G.nextL a) w) := by
  have hN := node_any b F G a w h
  obtain ⟨vt, vf, vl, ts, fs, h1, ht, -, -, -, -, hT, -⟩ := h
  unfold GM.nextL
  by_cases ha : 0 ≤ a ∧ a < (G.n : Int)
  · obtain ⟨i, rfl⟩ := Int.eq_ofNat_of_zero_le ha.1
    have hi : i < G.n := by omega
    have e1 : inG G.n (i : Int) = true := decide_eq_true ha
    rw [if_pos e1]
    rw [e1] at hN
    obtain ⟨g, c, rfl, c1, hmx⟩ := ptr_cell ht hi
    have c0 : w.cell? ⟨b, 0, none⟩ = some (.slice (some ⟨g, 0, none⟩) G.n c) := cell_at 0 h1 rfl
    have HH := Lib.hid (all_any _ _ w (hT i hi) hTab)
    have HN := Lib.hid hN
    rw [Int.toNat_natCast]
    clear h1 ht hT e1 hN hTab
    generalize G.n = n at *
    generalize ts.getD i 0 = p at *
    generalize G.tow i = ws at *
    have h0 : (0 : Int) ≤ (i : Int) := by omega
    have h1 : (i : Int) < (n : Int) := by omega
    clear ha
    go_enter Tryd.func57, Tryd.ntmps57
    go_wp2_with fail
    go_fit HN.out
    rintro e w' ⟨rfl, rfl⟩
    go_wp2_with fail
    go_fit HH.out
    rintro e w' ⟨v, rfl, ho, hB⟩
    have HO := Lib.hid ho
    have HB := Lib.hid hB
    clear ho hB
    go_wp2_with fail
    go_ret
    exact ⟨_, rfl, HO.out, HB.out⟩
  · have e1 : inG G.n a = false := decide_eq_false ha
    rw [if_neg (by rw [e1]; exact Bool.false_ne_true)]
    rw [e1] at hN
    have HN := Lib.hid hN
    clear h1 ht hT e1 hN ha hTab
    go_enter Tryd.func57, Tryd.ntmps57
    go_wp2_with fail
    go_fit HN.out
    rintro e w' ⟨rfl, rfl⟩
    go_wp2_with fail
    go_ret
    exact ⟨_, rfl, owns_nil, Below.refl _ _⟩

theorem back_any (b : Nat) (F : List Nat) (G : GM) (a : Int) (w : World) (h : GraphAt w b F G) (hTab : TabIs w) :
    Calls Tryd.prog 59 #[.pointer (some ⟨b, 0, none⟩), .int .i64 a] w (ListEnds (G.backL a) w) := by
  have hN := node_any b F G a w h
  obtain ⟨vt, vf, vl, ts, fs, h1, -, ht, -, -, -, -, hT, -⟩ := h
  unfold GM.backL
  by_cases ha : 0 ≤ a ∧ a < (G.n : Int)
  · obtain ⟨i, rfl⟩ := Int.eq_ofNat_of_zero_le ha.1
    have hi : i < G.n := by omega
    have e1 : inG G.n (i : Int) = true := decide_eq_true ha
    rw [if_pos e1]
    rw [e1] at hN
    obtain ⟨g, c, rfl, c1, hmx⟩ := ptr_cell ht hi
    have c0 : w.cell? ⟨b, 1, none⟩ = some (.slice (some ⟨g, 0, none⟩) G.n c) := cell_at 1 h1 rfl
    have HH := Lib.hid (all_any _ _ w (hT i hi) hTab)
    have HN := Lib.hid hN
    rw [Int.toNat_natCast]
    clear h1 ht hT e1 hN hTab
    generalize G.n = n at *
    generalize fs.getD i 0 = p at *
    generalize G.frw i = ws at *
    have h0 : (0 : Int) ≤ (i : Int) := by omega
    have h1 : (i : Int) < (n : Int) := by omega
    clear ha
    go_enter Tryd.func59, Tryd.ntmps59
    go_wp2_with fail
    go_fit HN.out
    rintro e w' ⟨rfl, rfl⟩
    go_wp2_with fail
    go_fit HH.out
    rintro e w' ⟨v, rfl, ho, hB⟩
    have HO := Lib.hid ho
    have HB := Lib.hid hB
    clear ho hB
    go_wp2_with fail
    go_ret
    exact ⟨_, rfl, HO.out, HB.out⟩
  · have e1 : inG G.n a = false := decide_eq_false ha
    rw [if_neg (by rw [e1]; exact Bool.false_ne_true)]
    rw [e1] at hN
    have HN := Lib.hid hN
    clear h1 ht hT e1 hN ha hTab
    go_enter Tryd.func59, Tryd.ntmps59
    go_wp2_with fail
    go_fit HN.out
    rintro e w' ⟨rfl, rfl⟩
    go_wp2_with fail
    go_ret
    exact ⟨_, rfl, owns_nil, Below.refl _ _⟩
end Go.Proofs.YtafdijcolponjaaDoor
