/- What a set in memory stands for, and the contracts of may, Put, Drop, Has. No condition but those in each statement. -/
import Derived.Test.YtafdijcolponjaaDoorRegion
import Derived.RegionTactic
import Derived.BigRegion
import Derived.Laws.BitsAllLaws
import Derived.Laws.BitsLemmas
import Derived.Outline
namespace Go.Proofs.YtafdijcolponjaaDoor
open Go.RowKit

def words (ws : List Nat) : Array Value := (ws.map fun (x : Nat) => Value.int .u64 (x : Int)).toArray
/-- A set in memory: eight words. -/
def SetAt (w : World) (b : Nat) (ws : List Nat) : Prop :=
  w.heap[b]? = some (.cells (words ws) 101 (0, 0)) ∧ ws.length = 8 ∧ ∀ x ∈ ws, x < 2 ^ 64

theorem may_nil (n : Int) (w : World) :
    Calls Tryd.prog 85 #[.pointer none, .int .i64 n] w fun e w' => e = .returned (.int .i64 4) ∧ w = w' := by
  go_enter Tryd.func85, Tryd.ntmps85
  go_wp2
  go_ret
  exact ⟨rfl, rfl⟩

theorem in_any (n : Int) (w : World) :
    Calls Tryd.prog 108 #[.int .i64 n] w fun e w' => e = .returned (.bool (decide (0 ≤ n ∧ n < 500))) ∧ w = w' := by
  by_cases h0 : 0 ≤ n
  · by_cases h1 : n < 500
    · rw [decide_eq_true ⟨h0, h1⟩]
      go_enter Tryd.func108, Tryd.ntmps108
      go_wp2
      go_ret
      exact ⟨rfl, rfl⟩
    · rw [decide_eq_false (by omega)]
      go_enter Tryd.func108, Tryd.ntmps108
      go_wp2
      go_ret
      exact ⟨rfl, rfl⟩
  · rw [decide_eq_false (by omega)]
    go_enter Tryd.func108, Tryd.ntmps108
    go_wp2
    go_ret
    exact ⟨rfl, rfl⟩

theorem may_yes (a : Addr) (n : Int) (w : World) (h0 : 0 ≤ n) (h1 : n < 500) :
    Calls Tryd.prog 85 #[.pointer (some a), .int .i64 n] w fun e w' => e = .returned (.int .i64 0) ∧ w = w' := by
  have hc := in_any n w
  rw [decide_eq_true ⟨h0, h1⟩] at hc
  have HC := Lib.hid hc
  clear hc
  go_enter Tryd.func85, Tryd.ntmps85
  go_wp2_with fail
  refine HC.out.mono ?_
  rintro e w' ⟨rfl, rfl⟩
  go_wp2_with fail
  go_ret
  exact ⟨rfl, rfl⟩

theorem may_no (a : Addr) (n : Int) (w : World) (h : n < 0 ∨ 500 ≤ n) :
    Calls Tryd.prog 85 #[.pointer (some a), .int .i64 n] w fun e w' => e = .returned (.int .i64 2) ∧ w = w' := by
  have hc := in_any n w
  rw [decide_eq_false (by omega)] at hc
  have HC := Lib.hid hc
  clear hc
  go_enter Tryd.func85, Tryd.ntmps85
  go_wp2_with fail
  refine HC.out.mono ?_
  rintro e w' ⟨rfl, rfl⟩
  go_wp2_with fail
  go_ret
  exact ⟨rfl, rfl⟩

theorem words_nth (ws : List Nat) {i : Nat} (h : i < ws.length) : (words ws)[i]? = some (.int .u64 ((ws.getD i 0 : Nat) : Int)) := by
  simp [words, List.getD, h]

/-- Is a number in a set? -/
def mem (ws : List Nat) (n : Nat) : Bool := (ws.getD (n / 64) 0).testBit (n % 64)
def putW (ws : List Nat) (n : Nat) : List Nat := ws.set (n / 64) (ws.getD (n / 64) 0 ||| 2 ^ (n % 64))
def dropW (ws : List Nat) (n : Nat) : List Nat := ws.set (n / 64) (ws.getD (n / 64) 0 &&& (18446744073709551615 - 2 ^ (n % 64)))

theorem pow_lt64 (n : Nat) : 2 ^ (n % 64) < 2 ^ 64 := Nat.pow_lt_pow_right (by decide) (by omega)

theorem mem_put {ws : List Nat} {n : Nat} (h : n / 64 < ws.length) (m : Nat) : mem (putW ws n) m = (decide (m = n) || mem ws m) := by
  unfold mem putW
  by_cases hq : m / 64 = n / 64
  · rw [hq]
    simp only [List.getD_eq_getElem?_getD, List.getElem?_set_self h, Option.getD_some, Nat.testBit_or, Nat.testBit_two_pow]
    by_cases hr : m = n
    · subst hr; simp
    · have : ¬ n % 64 = m % 64 := by omega
      simp [this, hr]
  · have hr : ¬ m = n := by rintro rfl; exact hq rfl
    simp only [List.getD_eq_getElem?_getD, List.getElem?_set_ne (Ne.symm hq), hr, decide_false, Bool.false_or]

theorem mem_drop {ws : List Nat} {n : Nat} (h : n / 64 < ws.length) (m : Nat) : mem (dropW ws n) m = (!decide (m = n) && mem ws m) := by
  unfold mem dropW
  by_cases hq : m / 64 = n / 64
  · rw [hq]
    have e : 18446744073709551615 - 2 ^ (n % 64) = 2 ^ 64 - (2 ^ (n % 64) + 1) := by omega
    simp only [List.getD_eq_getElem?_getD, List.getElem?_set_self h, Option.getD_some, Nat.testBit_and]
    rw [e, Nat.testBit_two_pow_sub_succ (pow_lt64 n), Nat.testBit_two_pow]
    have hlt : m % 64 < 64 := by omega
    by_cases hr : m = n
    · subst hr; simp
    · have : ¬ n % 64 = m % 64 := by omega
      simp [this, hr, hlt]
  · have hr : ¬ m = n := by rintro rfl; exact hq rfl
    simp only [List.getD_eq_getElem?_getD, List.getElem?_set_ne (Ne.symm hq), hr, decide_false, Bool.not_false, Bool.true_and]

theorem or_lt {x y : Nat} (hx : x < 2 ^ 64) (hy : y < 2 ^ 64) : x ||| y < 2 ^ 64 := Nat.or_lt_two_pow hx hy
theorem and_lt {x y : Nat} (hx : x < 2 ^ 64) : x &&& y < 2 ^ 64 := Nat.lt_of_le_of_lt Nat.and_le_left hx

theorem getD_lt {ws : List Nat} (h : ∀ x ∈ ws, x < 2 ^ 64) (i : Nat) : ws.getD i 0 < 2 ^ 64 := by
  rw [List.getD_eq_getElem?_getD]
  by_cases hi : i < ws.length
  · rw [List.getElem?_eq_getElem hi]; exact h _ (List.getElem_mem hi)
  · rw [List.getElem?_eq_none (by omega)]; decide

theorem words_set (ws : List Nat) (i x : Nat) : (words ws).setIfInBounds i (.int .u64 (x : Int)) = words (ws.set i x) := by
  simp [words, List.map_set]

theorem lt_set {ws : List Nat} (h : ∀ x ∈ ws, x < 2 ^ 64) {i y : Nat} (hy : y < 2 ^ 64) : ∀ x ∈ ws.set i y, x < 2 ^ 64 := by
  intro x hx
  rcases List.mem_or_eq_of_mem_set hx with h' | rfl
  · exact h x h'
  · exact hy

theorem wrap_pow (n : Nat) : IntKind.u64.wrap (2 ^ (n % 64)) = ((2 ^ (n % 64) : Nat) : Int) := by
  have h := pow_lt64 n
  have e : (2 : Int) ^ (n % 64) = ((2 ^ (n % 64) : Nat) : Int) := by simp
  rw [e]
  generalize (2 ^ (n % 64) : Nat) = y at h ⊢
  exact IntWalk.u64_in _ (by omega)

theorem or_pow (x n : Nat) (hx : x < 2 ^ 64) : bits .or .u64 (x : Int) (IntKind.u64.wrap (2 ^ (n % 64))) = ((x ||| 2 ^ (n % 64) : Nat) : Int) := by
  rw [wrap_pow]; exact u64_or_nat _ _ hx (pow_lt64 n)
theorem andNot_pow (x n : Nat) (hx : x < 2 ^ 64) : bits .andNot .u64 (x : Int) (IntKind.u64.wrap (2 ^ (n % 64))) = ((x &&& (18446744073709551615 - 2 ^ (n % 64)) : Nat) : Int) := by
  rw [wrap_pow]; exact u64_andNot_nat _ _ hx (pow_lt64 n)

theorem and_one (x k : Nat) (hx : x < 2 ^ 64) : (bits .and .u64 ((x : Int) / 2 ^ k) 1 == 1) = x.testBit k := by
  have e : (x : Int) / 2 ^ k = ((x / 2 ^ k : Nat) : Int) := by simp
  have hl : x / 2 ^ k < 2 ^ 64 := Nat.lt_of_le_of_lt (Nat.div_le_self _ _) hx
  rw [e, show (1 : Int) = ((1 : Nat) : Int) from rfl, u64_and_nat _ _ hl (by decide), Nat.and_one_is_mod, Nat.testBit_eq_decide_div_mod_eq]
  generalize x / 2 ^ k % 2 = y
  by_cases hy : y = 1
  · subst hy; rfl
  · have : ¬ ((y : Int) = 1) := by omega
    simp [hy, this]

def SEnds (b : Nat) (v : Value) (ws : List Nat) (w : World) (e : Ending) (w' : World) : Prop :=
  e = .returned v ∧ SetAt w' b ws ∧ Chg (· = b) w w'

theorem put_yes (b n : Nat) (ws : List Nat) (w : World) (h : SetAt w b ws) (hn : n < 500) :
    Calls Tryd.prog 25 #[.pointer (some ⟨b, 0, none⟩), .int .i64 n] w (SEnds b (.int .i64 0) (putW ws n) w) := by
  obtain ⟨h1, h2, h3⟩ := h
  have hi : n / 64 < 8 := by omega
  have c1 : w.cell? ⟨b, n / 64, none⟩ = some (.int .u64 ((ws.getD (n / 64) 0 : Nat) : Int)) := cell_at (n / 64) h1 (words_nth ws (by omega))
  have f1 := free_at (n / 64) h1
  have HM := Lib.hid (may_yes ⟨b, 0, none⟩ n w (by omega) (by omega))
  have hs0 : (0 : Int) ≤ (n : Int) % 64 := by omega
  have hs1 : (n : Int) % 64 < 64 := by omega
  have hq0 : (0 : Int) ≤ (n : Int) / 64 := by omega
  have hq1 : (n : Int) / 64 < 8 := by omega
  have H1 := Lib.hid h1
  have H2 := Lib.hid h2
  have H3 := Lib.hid h3
  have HX := Lib.hid (getD_lt h3 (n / 64))
  clear h1 h2 h3
  generalize hx : ws.getD (n / 64) 0 = x at *
  have HXE := Lib.hid hx
  clear hx
  go_enter Tryd.func25, Tryd.ntmps25
  go_wp2_with fail
  refine HM.out.mono ?_
  rintro e w' ⟨rfl, rfl⟩
  go_wp2_with fail
  go_region
  go_wp2_with fail
  go_ret
  obtain rfl := HXE.out
  refine ⟨rfl, ⟨?_, by simp [putW, H2.out], lt_set H3.out (or_lt HX.out (pow_lt64 n))⟩, ((Chg.refl _ _).set1 _ _).drew⟩
  have hh := heap_set (n / 64) (.int .u64 (bits .or .u64 ((ws.getD (n / 64) 0 : Nat) : Int) (IntKind.u64.wrap (2 ^ (n % 64))))) H1.out
  rw [or_pow _ _ HX.out, words_set] at hh
  rw [← or_pow _ _ HX.out] at hh
  exact hh

theorem drop_yes (b n : Nat) (ws : List Nat) (w : World) (h : SetAt w b ws) (hn : n < 500) :
    Calls Tryd.prog 26 #[.pointer (some ⟨b, 0, none⟩), .int .i64 n] w (SEnds b (.int .i64 0) (dropW ws n) w) := by
  obtain ⟨h1, h2, h3⟩ := h
  have hi : n / 64 < 8 := by omega
  have c1 : w.cell? ⟨b, n / 64, none⟩ = some (.int .u64 ((ws.getD (n / 64) 0 : Nat) : Int)) := cell_at (n / 64) h1 (words_nth ws (by omega))
  have f1 := free_at (n / 64) h1
  have HM := Lib.hid (may_yes ⟨b, 0, none⟩ n w (by omega) (by omega))
  have hs0 : (0 : Int) ≤ (n : Int) % 64 := by omega
  have hs1 : (n : Int) % 64 < 64 := by omega
  have hq0 : (0 : Int) ≤ (n : Int) / 64 := by omega
  have hq1 : (n : Int) / 64 < 8 := by omega
  have H1 := Lib.hid h1
  have H2 := Lib.hid h2
  have H3 := Lib.hid h3
  have HX := Lib.hid (getD_lt h3 (n / 64))
  clear h1 h2 h3
  generalize hx : ws.getD (n / 64) 0 = x at *
  have HXE := Lib.hid hx
  clear hx
  go_enter Tryd.func26, Tryd.ntmps26
  go_wp2_with fail
  refine HM.out.mono ?_
  rintro e w' ⟨rfl, rfl⟩
  go_wp2_with fail
  go_region
  go_wp2_with fail
  go_ret
  obtain rfl := HXE.out
  refine ⟨rfl, ⟨?_, by simp [dropW, H2.out], lt_set H3.out (and_lt HX.out)⟩, ((Chg.refl _ _).set1 _ _).drew⟩
  have hh := heap_set (n / 64) (.int .u64 (bits .andNot .u64 ((ws.getD (n / 64) 0 : Nat) : Int) (IntKind.u64.wrap (2 ^ (n % 64))))) H1.out
  rw [andNot_pow _ _ HX.out, words_set] at hh
  rw [← andNot_pow _ _ HX.out] at hh
  exact hh

theorem put_no (b : Nat) (n : Int) (w : World) (hn : n < 0 ∨ 500 ≤ n) :
    Calls Tryd.prog 25 #[.pointer (some ⟨b, 0, none⟩), .int .i64 n] w fun e w' => e = .returned (.int .i64 2) ∧ w = w' := by
  have HM := Lib.hid (may_no ⟨b, 0, none⟩ n w hn)
  clear hn
  go_enter Tryd.func25, Tryd.ntmps25
  go_wp2_with fail
  refine HM.out.mono ?_
  rintro e w' ⟨rfl, rfl⟩
  go_wp2_with fail
  go_ret
  exact ⟨rfl, rfl⟩
theorem drop_no (b : Nat) (n : Int) (w : World) (hn : n < 0 ∨ 500 ≤ n) :
    Calls Tryd.prog 26 #[.pointer (some ⟨b, 0, none⟩), .int .i64 n] w fun e w' => e = .returned (.int .i64 2) ∧ w = w' := by
  have HM := Lib.hid (may_no ⟨b, 0, none⟩ n w hn)
  clear hn
  go_enter Tryd.func26, Tryd.ntmps26
  go_wp2_with fail
  refine HM.out.mono ?_
  rintro e w' ⟨rfl, rfl⟩
  go_wp2_with fail
  go_ret
  exact ⟨rfl, rfl⟩
theorem has_no (b : Nat) (n : Int) (w : World) (hn : n < 0 ∨ 500 ≤ n) :
    Calls Tryd.prog 24 #[.pointer (some ⟨b, 0, none⟩), .int .i64 n] w fun e w' => e = .returned (.bool false) ∧ w = w' := by
  have HM := Lib.hid (may_no ⟨b, 0, none⟩ n w hn)
  clear hn
  go_enter Tryd.func24, Tryd.ntmps24
  go_wp2_with fail
  refine HM.out.mono ?_
  rintro e w' ⟨rfl, rfl⟩
  go_wp2_with fail
  go_ret
  exact ⟨rfl, rfl⟩
theorem has_yes (b n : Nat) (ws : List Nat) (w : World) (h : SetAt w b ws) (hn : n < 500) :
    Calls Tryd.prog 24 #[.pointer (some ⟨b, 0, none⟩), .int .i64 n] w fun e w' => e = .returned (.bool (mem ws n)) ∧ w = w' := by
  obtain ⟨h1, h2, h3⟩ := h
  have hi : n / 64 < 8 := by omega
  have c1 : w.cell? ⟨b, n / 64, none⟩ = some (.int .u64 ((ws.getD (n / 64) 0 : Nat) : Int)) := cell_at (n / 64) h1 (words_nth ws (by omega))
  have HM := Lib.hid (may_yes ⟨b, 0, none⟩ n w (by omega) (by omega))
  have hs0 : (0 : Int) ≤ (n : Int) % 64 := by omega
  have hs1 : (n : Int) % 64 < 64 := by omega
  have hq0 : (0 : Int) ≤ (n : Int) / 64 := by omega
  have hq1 : (n : Int) / 64 < 8 := by omega
  have HX := Lib.hid (getD_lt h3 (n / 64))
  clear h1 h2 h3
  unfold mem
  generalize ws.getD (n / 64) 0 = x at *
  go_enter Tryd.func24, Tryd.ntmps24
  go_wp2_with fail
  refine HM.out.mono ?_
  rintro e w' ⟨rfl, rfl⟩
  go_wp2_with fail
  go_ret
  exact ⟨ret_bool (and_one x (n % 64) HX.out), rfl⟩
end Go.Proofs.YtafdijcolponjaaDoor
