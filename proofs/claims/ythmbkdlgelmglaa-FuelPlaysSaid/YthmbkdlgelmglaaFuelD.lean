/- FuelPlays' walk: a store that is asked anyhow answers as the document's store. No condition. -/
import Derived.Test.YthmbkdlgelmglaaFuelC
import Derived.Test.YthmbkdlgelmglaaInts
namespace Go.Proofs.Ythmbkdlgelmglaa
open Go.RowKit

def RefAt (w : World) (b : Nat) (l u : Int) (sp : Bool) : Prop :=
  w.heap[b]? = some (.cells #[.int .i64 l, .int .i64 u, .bool sp] 31 (0, 0))

def RefEnds (b : Nat) (l : Int) (r : Int × FS) (w : World) (e : Ending) (w' : World) : Prop :=
  e = .returned (.int .i64 r.1) ∧ RefAt w' b l r.2.used r.2.spent ∧ Chg (· = b) w w'

theorem ref_neg (b : Nat) (l : Int) (s : FS) (n : Int) (w : World) (h : RefAt w b l s.used s.spent) (hn : n < 0) :
    Calls Try.prog 10 #[.pointer (some ⟨b, 0, none⟩), .int .i64 n] w (RefEnds b l (2, s) w) := by
  go_enter Try.func10, Try.ntmps10
  go_wp2
  go_ret
  exact ⟨rfl, h, Chg.refl _ _⟩

theorem ref_spent (b : Nat) (l : Int) (s : FS) (n : Int) (w : World) (h : RefAt w b l s.used s.spent) (hn : 0 ≤ n) (hs : s.spent = true) :
    Calls Try.prog 10 #[.pointer (some ⟨b, 0, none⟩), .int .i64 n] w (RefEnds b l (13, s) w) := by
  have c2 : w.cell? ⟨b, 2, none⟩ = some (.bool s.spent) := cell_at 2 h rfl
  go_enter Try.func10, Try.ntmps10
  go_wp2
  go_ret
  exact ⟨rfl, h, Chg.refl _ _⟩

theorem ref_over (b : Nat) (l : Int) (s : FS) (n : Int) (w : World) (h : RefAt w b l s.used s.spent) (hn : 0 ≤ n) (hs : s.spent = false)
    (hl : l - s.used < n) (h0 : 0 ≤ l - s.used) (h1 : 0 ≤ s.used) (hm : l ≤ 9223372036854775807) :
    Calls Try.prog 10 #[.pointer (some ⟨b, 0, none⟩), .int .i64 n] w (RefEnds b l (13, ⟨0, l, true⟩) w) := by
  have c0 : w.cell? ⟨b, 0, none⟩ = some (.int .i64 l) := cell_at 0 h rfl
  have c1 : w.cell? ⟨b, 1, none⟩ = some (.int .i64 s.used) := cell_at 1 h rfl
  have c2 : w.cell? ⟨b, 2, none⟩ = some (.bool s.spent) := cell_at 2 h rfl
  have f1 := free_at 1 h
  have f2 := free_at 2 h
  have hwr : IntKind.i64.wrap (l - s.used) = l - s.used := IntWalk.i64_in _ (by omega)
  go_enter Try.func10, Try.ntmps10
  go_wp2_with fail
  go_quiet (fail)
  go_wp2
  go_ret
  refine ⟨rfl, heap_set 2 _ (heap_set 1 _ h), ?_⟩
  repeat (first | exact Chg.refl _ _ | refine Chg.drewN ?_ _ | refine Chg.set1 ?_ _ _)

theorem ref_ok (b : Nat) (l : Int) (s : FS) (n : Int) (w : World) (h : RefAt w b l s.used s.spent) (hn : 0 ≤ n) (hs : s.spent = false)
    (hl : n ≤ l - s.used) (h1 : 0 ≤ s.used) (hm : l ≤ 9223372036854775807) :
    Calls Try.prog 10 #[.pointer (some ⟨b, 0, none⟩), .int .i64 n] w (RefEnds b l (0, ⟨l - s.used - n, s.used + n, s.spent⟩) w) := by
  have c0 : w.cell? ⟨b, 0, none⟩ = some (.int .i64 l) := cell_at 0 h rfl
  have c1 : w.cell? ⟨b, 1, none⟩ = some (.int .i64 s.used) := cell_at 1 h rfl
  have c2 : w.cell? ⟨b, 2, none⟩ = some (.bool s.spent) := cell_at 2 h rfl
  have f1 := free_at 1 h
  have hwr : IntKind.i64.wrap (l - s.used) = l - s.used := IntWalk.i64_in _ (by omega)
  go_enter Try.func10, Try.ntmps10
  go_wp2_with fail
  go_quiet (fail)
  go_wp2
  go_ret
  refine ⟨rfl, heap_set 1 _ h, ?_⟩
  repeat (first | exact Chg.refl _ _ | refine Chg.drewN ?_ _ | refine Chg.set1 ?_ _ _)

theorem ref_any (b : Nat) (l : Int) (s : FS) (n : Int) (w : World) (h : RefAt w b l s.used s.spent) (hk : s.ok) (hs : s.left + s.used = l) :
    Calls Try.prog 10 #[.pointer (some ⟨b, 0, none⟩), .int .i64 n] w (RefEnds b l (takeF s n) w) := by
  obtain ⟨h0, h1, hm⟩ := hk
  unfold takeF
  by_cases hn : n < 0
  · rw [if_pos hn]; exact ref_neg b l s n w h hn
  · rw [if_neg hn]
    by_cases hsp : s.spent = true
    · rw [if_pos hsp]; exact ref_spent b l s n w h (by omega) hsp
    · rw [if_neg hsp]
      have hs' : s.spent = false := by simpa using hsp
      by_cases hl : s.left < n
      · rw [if_pos hl]
        have := ref_over b l s n w h (by omega) hs' (by omega) (by omega) h1 (by omega)
        have e : s.used + s.left = l := by omega
        rw [e]; exact this
      · rw [if_neg hl]
        have := ref_ok b l s n w h (by omega) hs' (by omega) h1 (by omega)
        have e : l - s.used = s.left := by omega
        rw [e] at this; exact this

end Go.Proofs.Ythmbkdlgelmglaa
