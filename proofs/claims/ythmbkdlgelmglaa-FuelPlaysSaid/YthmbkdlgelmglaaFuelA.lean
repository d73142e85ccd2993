/- Heap facts and contracts of package fuel's functions, over this seat's program. No conditions but those in each statement. -/
import Derived.Test.YthmbkdlgelmglaaBase
namespace Go.Proofs.Ythmbkdlgelmglaa
open Go.RowKit

/-! ### The store of nodes -/
structure FS where
  left : Int
  used : Int
  spent : Bool
def FuelAt (w : World) (b : Nat) (s : FS) : Prop :=
  w.heap[b]? = some (.cells #[.int .i64 s.left, .int .i64 s.used, .bool s.spent, .bool true] 39 (0, 0))

theorem new_bad (n : Int) (w : World) (h : n < 0) :
    Calls Try.prog 7 #[.int .i64 n] w fun e w' => e = .returned (.tuple #[.pointer none, .int .i64 2]) ∧ w = w' := by
  go_enter Try.func7, Try.ntmps7
  go_wp2
  go_ret2
  exact ⟨rfl, rfl⟩

theorem new_ok (n : Int) (w : World) (h : 0 ≤ n) :
    Calls Try.prog 7 #[.int .i64 n] w fun e w' => e = .returned (.tuple #[.pointer (some ⟨w.heap.size, 0, none⟩), .int .i64 0]) ∧
      w' = w.alloc (.cells #[.int .i64 n, .int .i64 0, .bool false, .bool true] 39) := by
  go_enter Try.func7, Try.ntmps7
  go_wp2
  go_ret2
  exact ⟨rfl, rfl⟩

theorem used_any (b : Nat) (s : FS) (w : World) (h : FuelAt w b s) :
    Calls Try.prog 11 #[.pointer (some ⟨b, 0, none⟩)] w fun e w' => e = .returned (.int .i64 s.used) ∧ w = w' := by
  have h1 : w.cell? ⟨b, 1, none⟩ = some (.int .i64 s.used) := cell_at 1 h rfl
  go_enter Try.func11, Try.ntmps11
  go_wp2
  go_ret
  exact ⟨rfl, rfl⟩

theorem left_any (b : Nat) (s : FS) (w : World) (h : FuelAt w b s) :
    Calls Try.prog 12 #[.pointer (some ⟨b, 0, none⟩)] w fun e w' => e = .returned (.int .i64 s.left) ∧ w = w' := by
  have h1 : w.cell? ⟨b, 0, none⟩ = some (.int .i64 s.left) := cell_at 0 h rfl
  go_enter Try.func12, Try.ntmps12
  go_wp2
  go_ret
  exact ⟨rfl, rfl⟩

theorem spent_any (b : Nat) (s : FS) (w : World) (h : FuelAt w b s) :
    Calls Try.prog 13 #[.pointer (some ⟨b, 0, none⟩)] w fun e w' => e = .returned (.bool s.spent) ∧ w = w' := by
  have h1 : w.cell? ⟨b, 2, none⟩ = some (.bool s.spent) := cell_at 2 h rfl
  have h2 : w.cell? ⟨b, 3, none⟩ = some (.bool true) := cell_at 3 h rfl
  go_enter Try.func13, Try.ntmps13
  go_wp2
  go_ret
  exact ⟨rfl, rfl⟩

def takeF (s : FS) (n : Int) : Int × FS :=
  if n < 0 then (2, s) else if s.spent = true then (13, s)
  else if s.left < n then (13, ⟨0, s.used + s.left, true⟩) else (0, ⟨s.left - n, s.used + n, s.spent⟩)

def TakeEnds (b : Nat) (r : Int × FS) (w : World) (e : Ending) (w' : World) : Prop :=
  e = .returned (.int .i64 r.1) ∧ FuelAt w' b r.2 ∧ Chg (· = b) w w'

theorem take_neg (b : Nat) (s : FS) (n : Int) (w : World) (h : FuelAt w b s) (hn : n < 0) :
    Calls Try.prog 9 #[.pointer (some ⟨b, 0, none⟩), .int .i64 n] w (TakeEnds b (2, s) w) := by
  have hb := lt_of_block h
  have h3 : w.cell? ⟨b, 3, none⟩ = some (.bool true) := cell_at 3 h rfl
  go_enter Try.func9, Try.ntmps9
  go_wp2
  go_ret
  exact ⟨rfl, by unfold FuelAt; rw [heap_alloc_lt hb]; exact h, (Chg.refl _ _).alloc _⟩

theorem take_spent (b : Nat) (s : FS) (n : Int) (w : World) (h : FuelAt w b s) (hn : 0 ≤ n) (hs : s.spent = true) :
    Calls Try.prog 9 #[.pointer (some ⟨b, 0, none⟩), .int .i64 n] w (TakeEnds b (13, s) w) := by
  have hb := lt_of_block h
  have h3 : w.cell? ⟨b, 3, none⟩ = some (.bool true) := cell_at 3 h rfl
  have h2 : w.cell? ⟨b, 2, none⟩ = some (.bool s.spent) := cell_at 2 h rfl
  go_enter Try.func9, Try.ntmps9
  go_wp2
  go_ret
  exact ⟨rfl, by unfold FuelAt; rw [heap_alloc_lt hb]; exact h, (Chg.refl _ _).alloc _⟩

theorem take_over (b : Nat) (s : FS) (n : Int) (w : World) (h : FuelAt w b s) (hn : 0 ≤ n) (hs : s.spent = false) (hl : s.left < n)
    (h0 : 0 ≤ s.left) (h1 : 0 ≤ s.used) (hm : s.left + s.used ≤ 9223372036854775807) :
    Calls Try.prog 9 #[.pointer (some ⟨b, 0, none⟩), .int .i64 n] w (TakeEnds b (13, ⟨0, s.used + s.left, true⟩) w) := by
  have hb := lt_of_block h
  have c0 : w.cell? ⟨b, 0, none⟩ = some (.int .i64 s.left) := cell_at 0 h rfl
  have c1 : w.cell? ⟨b, 1, none⟩ = some (.int .i64 s.used) := cell_at 1 h rfl
  have c2 : w.cell? ⟨b, 2, none⟩ = some (.bool s.spent) := cell_at 2 h rfl
  have c3 : w.cell? ⟨b, 3, none⟩ = some (.bool true) := cell_at 3 h rfl
  have f0 := free_at 0 h
  have f1 := free_at 1 h
  have f2 := free_at 2 h
  go_enter Try.func9, Try.ntmps9
  go_wp2
  go_end0
  go_wp2
  go_ret
  refine ⟨rfl, (heap_alloc_lt (by simpa [World.setCell] using hb)).trans (heap_set 2 _ (heap_set 1 _ (heap_set 0 _ h))), ?_⟩
  repeat (first | exact Chg.refl _ _ | refine Chg.alloc ?_ _ | refine Chg.set1 ?_ _ _)

theorem take_ok (b : Nat) (s : FS) (n : Int) (w : World) (h : FuelAt w b s) (hn : 0 ≤ n) (hs : s.spent = false) (hl : n ≤ s.left)
    (h1 : 0 ≤ s.used) (hm : s.left + s.used ≤ 9223372036854775807) :
    Calls Try.prog 9 #[.pointer (some ⟨b, 0, none⟩), .int .i64 n] w (TakeEnds b (0, ⟨s.left - n, s.used + n, s.spent⟩) w) := by
  have hb := lt_of_block h
  have c0 : w.cell? ⟨b, 0, none⟩ = some (.int .i64 s.left) := cell_at 0 h rfl
  have c1 : w.cell? ⟨b, 1, none⟩ = some (.int .i64 s.used) := cell_at 1 h rfl
  have c2 : w.cell? ⟨b, 2, none⟩ = some (.bool s.spent) := cell_at 2 h rfl
  have c3 : w.cell? ⟨b, 3, none⟩ = some (.bool true) := cell_at 3 h rfl
  have f0 := free_at 0 h
  have f1 := free_at 1 h
  go_enter Try.func9, Try.ntmps9
  go_wp2
  go_end0
  go_wp2
  go_ret
  refine ⟨rfl, (heap_alloc_lt (by simpa [World.setCell] using hb)).trans (heap_set 1 _ (heap_set 0 _ h)), ?_⟩
  repeat (first | exact Chg.refl _ _ | refine Chg.alloc ?_ _ | refine Chg.set1 ?_ _ _)

/-- A store's numbers fit. -/
def FS.ok (s : FS) : Prop := 0 ≤ s.left ∧ 0 ≤ s.used ∧ s.left + s.used ≤ 9223372036854775807

theorem takeF_ok (s : FS) (n : Int) (h : s.ok) : (takeF s n).2.ok := by
  obtain ⟨a, b, c⟩ := h
  unfold takeF
  split
  · exact ⟨a, b, c⟩
  · split
    · exact ⟨a, b, c⟩
    · split
      · refine ⟨?_, ?_, ?_⟩ <;> simp only <;> omega
      · refine ⟨?_, ?_, ?_⟩ <;> simp only <;> omega

theorem take_any (b : Nat) (s : FS) (n : Int) (w : World) (h : FuelAt w b s) (hk : s.ok) :
    Calls Try.prog 9 #[.pointer (some ⟨b, 0, none⟩), .int .i64 n] w (TakeEnds b (takeF s n) w) := by
  obtain ⟨h0, h1, hm⟩ := hk
  unfold takeF
  by_cases hn : n < 0
  · rw [if_pos hn]; exact take_neg b s n w h hn
  · rw [if_neg hn]
    by_cases hs : s.spent = true
    · rw [if_pos hs]; exact take_spent b s n w h (by omega) hs
    · rw [if_neg hs]
      have hs' : s.spent = false := by simpa using hs
      by_cases hl : s.left < n
      · rw [if_pos hl]; exact take_over b s n w h (by omega) hs' hl h0 h1 hm
      · rw [if_neg hl]; exact take_ok b s n w h (by omega) hs' (by omega) h1 hm

/-! ### A store that is none -/
theorem used_nil (w : World) : Calls Try.prog 11 #[.pointer none] w fun e w' => e = .returned (.int .i64 0) ∧ w = w' := by
  go_enter Try.func11, Try.ntmps11
  go_wp2
  go_ret
  exact ⟨rfl, rfl⟩
theorem left_nil (w : World) : Calls Try.prog 12 #[.pointer none] w fun e w' => e = .returned (.int .i64 0) ∧ w = w' := by
  go_enter Try.func12, Try.ntmps12
  go_wp2
  go_ret
  exact ⟨rfl, rfl⟩
theorem spent_nil (w : World) : Calls Try.prog 13 #[.pointer none] w fun e w' => e = .returned (.bool true) ∧ w = w' := by
  go_enter Try.func13, Try.ntmps13
  go_wp2
  go_ret
  exact ⟨rfl, rfl⟩
theorem take_nil (n : Int) (w : World) : Calls Try.prog 9 #[.pointer none, .int .i64 n] w fun e w' => e = .returned (.int .i64 4) ∧ Below w.heap.size w w' := by
  go_enter Try.func9, Try.ntmps9
  go_wp2
  go_ret
  exact ⟨rfl, (Below.refl _ _).alloc (Nat.le_refl _) _⟩

/-- A store that nothing made. -/
def NoneAt (w : World) (b : Nat) : Prop := w.heap[b]? = some (.cells #[.int .i64 0, .int .i64 0, .bool false, .bool false] 39 (0, 0))
theorem used_none (b : Nat) (w : World) (h : NoneAt w b) : Calls Try.prog 11 #[.pointer (some ⟨b, 0, none⟩)] w fun e w' => e = .returned (.int .i64 0) ∧ w = w' := by
  have h1 : w.cell? ⟨b, 1, none⟩ = some (.int .i64 0) := cell_at 1 h rfl
  go_enter Try.func11, Try.ntmps11
  go_wp2
  go_ret
  exact ⟨rfl, rfl⟩
theorem left_none (b : Nat) (w : World) (h : NoneAt w b) : Calls Try.prog 12 #[.pointer (some ⟨b, 0, none⟩)] w fun e w' => e = .returned (.int .i64 0) ∧ w = w' := by
  have h1 : w.cell? ⟨b, 0, none⟩ = some (.int .i64 0) := cell_at 0 h rfl
  go_enter Try.func12, Try.ntmps12
  go_wp2
  go_ret
  exact ⟨rfl, rfl⟩
theorem spent_none (b : Nat) (w : World) (h : NoneAt w b) : Calls Try.prog 13 #[.pointer (some ⟨b, 0, none⟩)] w fun e w' => e = .returned (.bool true) ∧ w = w' := by
  have h1 : w.cell? ⟨b, 3, none⟩ = some (.bool false) := cell_at 3 h rfl
  go_enter Try.func13, Try.ntmps13
  go_wp2
  go_ret
  exact ⟨rfl, rfl⟩
theorem take_none (b : Nat) (n : Int) (w : World) (h : NoneAt w b) : Calls Try.prog 9 #[.pointer (some ⟨b, 0, none⟩), .int .i64 n] w fun e w' => e = .returned (.int .i64 4) ∧ Below w.heap.size w w' := by
  have hb := lt_of_block h
  have h1 : w.cell? ⟨b, 3, none⟩ = some (.bool false) := cell_at 3 h rfl
  go_enter Try.func9, Try.ntmps9
  go_wp2
  go_ret
  exact ⟨rfl, (Below.refl _ _).alloc (Nat.le_refl _) _⟩

end Go.Proofs.Ythmbkdlgelmglaa
