/- What a set in memory stands for, and the contracts of may, Put, Drop, Has. No condition but those in each statement. The contracts of bits.New and of the statements' few, and of TrailingZeros64 where its table lies. No condition but those in each statement. TrailingZeros64 where its table lies; a word's bits in rising order. No condition but those in each statement. The contract of a set's All, where the table of TrailingZeros64 lies. No condition but those in each statement. The statements' works, where the table lies. No condition but those in each statement. BitsChange answers true, whatever comes in, where the table lies. No condition but that in the statement. The listed table of math/bits, from the rows' condition to the walks' fact; a world that meets the condition. No condition but those in each statement. How many bits a word has, as the library reckons it. Plain Lean, no program is walked here; no condition but those in each statement. OnesCount64, and the contracts of a set's Len and Copy. No condition but those in each statement. -/
import Derived.Test.YtafdijcolponjaaDoorMA
import Derived.Test.YtafdijcolponjaaDoorTie
import Derived.RegionTactic
import Derived.BigRegion
import Derived.Laws.BitsAllLaws
import Derived.Laws.BitsLemmas
import Derived.Outline
import Derived.Laws.OwnMore
import Derived.Shelf.Spec.TrailingZeros
import Derived.Deep.DeepFit
import Derived.Lib.LaidTab
import Derived.LaidHandle
import Derived.ChangeSame
import Derived.ChangeVars
import Derived.JoinedOf
import Derived.RowKitTokens
import Derived.LaidLaws
import Derived.Stop.Joined
import Derived.Laws.Bits128
namespace Go.Proofs.YtafdijcolponjaaDoor
open Go.RowKit

def words (ws : List Nat) : Array Value := (ws.map fun (x : Nat) => Value.int .u64 (x : Int)).toArray
/-- A set in memory: eight words. -/
def SetAt (w : World) (b : Nat) (ws : List Nat) : Prop :=
  w.heap[b]? = some (.cells (words ws) 101 (0, 0)) ∧ ws.length = 8 ∧ ∀ x ∈ ws, x < 2 ^ 64

theorem may_nil (n : Int) (w : World) :
    Calls Tryd.prog 85 #[.pointer none, .int .i64 n] w fun e w' => e = .returned (.int .i64 4) ∧ w = w' := by
  go_enter Tryd.func85, Tryd.ntmps85
  go_wp2
  go_ret
  exact ⟨rfl, rfl⟩

theorem in_any (n : Int) (w : World) :
    Calls Tryd.prog 108 #[.int .i64 n] w fun e w' => e = .returned (.bool (decide (0 ≤ n ∧ n < 500))) ∧ w = w' := by
  by_cases h0 : 0 ≤ n
  · by_cases h1 : n < 500
    · rw [decide_eq_true ⟨h0, h1⟩]
      go_enter Tryd.func108, Tryd.ntmps108
      go_wp2
      go_ret
      exact ⟨rfl, rfl⟩
    · rw [decide_eq_false (by omega)]
      go_enter Tryd.func108, Tryd.ntmps108
      go_wp2
      go_ret
      exact ⟨rfl, rfl⟩
  · rw [decide_eq_false (by omega)]
    go_enter Tryd.func108, Tryd.ntmps108
    go_wp2
    go_ret
    exact ⟨rfl, rfl⟩

theorem may_yes (a : Addr) (n : Int) (w : World) (h0 : 0 ≤ n) (h1 : n < 500) :
    Calls Tryd.prog 85 #[.pointer (some a), .int .i64 n] w fun e w' => e = .returned (.int .i64 0) ∧ w = w' := by
  have hc := in_any n w
  rw [decide_eq_true ⟨h0, h1⟩] at hc
  have HC := Lib.hid hc
  clear hc
  go_enter Tryd.func85, Tryd.ntmps85
  go_wp2_with fail
  refine HC.out.mono ?_
  rintro e w' ⟨rfl, rfl⟩
  go_wp2_with fail
  go_ret
  exact ⟨rfl, rfl⟩

theorem may_no (a : Addr) (n : Int) (w : World) (h : n < 0 ∨ 500 ≤ n) :
    Calls Tryd.prog 85 #[.pointer (some a), .int .i64 n] w fun e w' => e = .returned (.int .i64 2) ∧ w = w' := by
  have hc := in_any n w
  rw [decide_eq_false (by omega)] at hc
  have HC := Lib.hid hc
  clear hc
  go_enter Tryd.func85, Tryd.ntmps85
  go_wp2_with fail
  refine HC.out.mono ?_
  rintro e w' ⟨rfl, rfl⟩
  go_wp2_with fail
  go_ret
  exact ⟨rfl, rfl⟩

theorem words_nth (ws : List Nat) {i : Nat} (h : i < ws.length) : (words ws)[i]? = some (.int .u64 ((ws.getD i 0 : Nat) : Int)) := by
  simp [words, List.getD, h]

/-- Is a number in a set? -/
def mem (ws : List Nat) (n : Nat) : Bool := (ws.getD (n / 64) 0).testBit (n % 64)
def putW (ws : List Nat) (n : Nat) : List Nat := ws.set (n / 64) (ws.getD (n / 64) 0 ||| 2 ^ (n % 64))
def dropW (ws : List Nat) (n : Nat) : List Nat := ws.set (n / 64) (ws.getD (n / 64) 0 &&& (18446744073709551615 - 2 ^ (n % 64)))

theorem pow_lt64 (n : Nat) : 2 ^ (n % 64) < 2 ^ 64 := Nat.pow_lt_pow_right (by decide) (by omega)

theorem mem_put {ws : List Nat} {n : Nat} (h : n / 64 < ws.length) (m : Nat) : mem (putW ws n) m = (decide (m = n) || mem ws m) := by
  unfold mem putW
  by_cases hq : m / 64 = n / 64
  · rw [hq]
    simp only [List.getD_eq_getElem?_getD, List.getElem?_set_self h, Option.getD_some, Nat.testBit_or, Nat.testBit_two_pow]
    by_cases hr : m = n
    · subst hr; simp
    · have : ¬ n % 64 = m % 64 := by omega
      simp [this, hr]
  · have hr : ¬ m = n := by rintro rfl; exact hq rfl
    simp only [List.getD_eq_getElem?_getD, List.getElem?_set_ne (Ne.symm hq), hr, decide_false, Bool.false_or]

theorem mem_drop {ws : List Nat} {n : Nat} (h : n / 64 < ws.length) (m : Nat) : mem (dropW ws n) m = (!decide (m = n) && mem ws m) := by
  unfold mem dropW
  by_cases hq : m / 64 = n / 64
  · rw [hq]
    have e : 18446744073709551615 - 2 ^ (n % 64) = 2 ^ 64 - (2 ^ (n % 64) + 1) := by omega
    simp only [List.getD_eq_getElem?_getD, List.getElem?_set_self h, Option.getD_some, Nat.testBit_and]
    rw [e, Nat.testBit_two_pow_sub_succ (pow_lt64 n), Nat.testBit_two_pow]
    have hlt : m % 64 < 64 := by omega
    by_cases hr : m = n
    · subst hr; simp
    · have : ¬ n % 64 = m % 64 := by omega
      simp [this, hr, hlt]
  · have hr : ¬ m = n := by rintro rfl; exact hq rfl
    simp only [List.getD_eq_getElem?_getD, List.getElem?_set_ne (Ne.symm hq), hr, decide_false, Bool.not_false, Bool.true_and]

theorem or_lt {x y : Nat} (hx : x < 2 ^ 64) (hy : y < 2 ^ 64) : x ||| y < 2 ^ 64 := Nat.or_lt_two_pow hx hy
theorem and_lt {x y : Nat} (hx : x < 2 ^ 64) : x &&& y < 2 ^ 64 := Nat.lt_of_le_of_lt Nat.and_le_left hx

theorem getD_lt {ws : List Nat} (h : ∀ x ∈ ws, x < 2 ^ 64) (i : Nat) : ws.getD i 0 < 2 ^ 64 := by
  rw [List.getD_eq_getElem?_getD]
  by_cases hi : i < ws.length
  · rw [List.getElem?_eq_getElem hi]; exact h _ (List.getElem_mem hi)
  · rw [List.getElem?_eq_none (by omega)]; decide

theorem words_set (ws : List Nat) (i x : Nat) : (words ws).setIfInBounds i (.int .u64 (x : Int)) = words (ws.set i x) := by
  simp [words, List.map_set]

theorem lt_set {ws : List Nat} (h : ∀ x ∈ ws, x < 2 ^ 64) {i y : Nat} (hy : y < 2 ^ 64) : ∀ x ∈ ws.set i y, x < 2 ^ 64 := by
  intro x hx
  rcases List.mem_or_eq_of_mem_set hx with h' | rfl
  · exact h x h'
  · exact hy

theorem wrap_pow (n : Nat) : IntKind.u64.wrap (2 ^ (n % 64)) = ((2 ^ (n % 64) : Nat) : Int) := by
  have h := pow_lt64 n
  have e : (2 : Int) ^ (n % 64) = ((2 ^ (n % 64) : Nat) : Int) := by simp
  rw [e]
  generalize (2 ^ (n % 64) : Nat) = y at h ⊢
  exact IntWalk.u64_in _ (by omega)

theorem or_pow (x n : Nat) (hx : x < 2 ^ 64) : bits .or .u64 (x : Int) (IntKind.u64.wrap (2 ^ (n % 64))) = ((x ||| 2 ^ (n % 64) : Nat) : Int) := by
  rw [wrap_pow]; exact u64_or_nat _ _ hx (pow_lt64 n)
theorem andNot_pow (x n : Nat) (hx : x < 2 ^ 64) : bits .andNot .u64 (x : Int) (IntKind.u64.wrap (2 ^ (n % 64))) = ((x &&& (18446744073709551615 - 2 ^ (n % 64)) : Nat) : Int) := by
  rw [wrap_pow]; exact u64_andNot_nat _ _ hx (pow_lt64 n)

theorem and_one (x k : Nat) (hx : x < 2 ^ 64) : (bits .and .u64 ((x : Int) / 2 ^ k) 1 == 1) = x.testBit k := by
  have e : (x : Int) / 2 ^ k = ((x / 2 ^ k : Nat) : Int) := by simp
  have hl : x / 2 ^ k < 2 ^ 64 := Nat.lt_of_le_of_lt (Nat.div_le_self _ _) hx
  rw [e, show (1 : Int) = ((1 : Nat) : Int) from rfl, u64_and_nat _ _ hl (by decide), Nat.and_one_is_mod, Nat.testBit_eq_decide_div_mod_eq]
  generalize x / 2 ^ k % 2 = y
  by_cases hy : y = 1
  · subst hy; rfl
  · have : ¬ ((y : Int) = 1) := by omega
    simp [hy, this]

def SEnds (b : Nat) (v : Value) (ws : List Nat) (w : World) (e : Ending) (w' : World) : Prop :=
  e = .returned v ∧ SetAt w' b ws ∧ Chg (· = b) w w'

theorem put_yes (b n : Nat) (ws : List Nat) (w : World) (h : SetAt w b ws) (hn : n < 500) :
    Calls Tryd.prog 25 #[.pointer (some ⟨b, 0, none⟩), .int .i64 n] w (SEnds b (.int .i64 0) (putW ws n) w) := by
  obtain ⟨h1, h2, h3⟩ := h
  have hi : n / 64 < 8 := by omega
  have c1 : w.cell? ⟨b, n / 64, none⟩ = some (.int .u64 ((ws.getD (n / 64) 0 : Nat) : Int)) := cell_at (n / 64) h1 (words_nth ws (by omega))
  have f1 := free_at (n / 64) h1
  have HM := Lib.hid (may_yes ⟨b, 0, none⟩ n w (by omega) (by omega))
  have hs0 : (0 : Int) ≤ (n : Int) % 64 := by omega
  have hs1 : (n : Int) % 64 < 64 := by omega
  have hq0 : (0 : Int) ≤ (n : Int) / 64 := by omega
  have hq1 : (n : Int) / 64 < 8 := by omega
  have H1 := Lib.hid h1
  have H2 := Lib.hid h2
  have H3 := Lib.hid h3
  have HX := Lib.hid (getD_lt h3 (n / 64))
  clear h1 h2 h3
  generalize hx : ws.getD (n / 64) 0 = x at *
  have HXE := Lib.hid hx
  clear hx
  go_enter Tryd.func25, Tryd.ntmps25
  go_wp2_with fail
  refine HM.out.mono ?_
  rintro e w' ⟨rfl, rfl⟩
  go_wp2_with fail
  go_region
  go_wp2_with fail
  go_ret
  obtain rfl := HXE.out
  refine ⟨rfl, ⟨?_, by simp [putW, H2.out], lt_set H3.out (or_lt HX.out (pow_lt64 n))⟩, ((Chg.refl _ _).set1 _ _).drew⟩
  have hh := heap_set (n / 64) (.int .u64 (bits .or .u64 ((ws.getD (n / 64) 0 : Nat) : Int) (IntKind.u64.wrap (2 ^ (n % 64))))) H1.out
  rw [or_pow _ _ HX.out, words_set] at hh
  rw [← or_pow _ _ HX.out] at hh
  exact hh

theorem drop_yes (b n : Nat) (ws : List Nat) (w : World) (h : SetAt w b ws) (hn : n < 500) :
    Calls Tryd.prog 26 #[.pointer (some ⟨b, 0, none⟩), .int .i64 n] w (SEnds b (.int .i64 0) (dropW ws n) w) := by
  obtain ⟨h1, h2, h3⟩ := h
  have hi : n / 64 < 8 := by omega
  have c1 : w.cell? ⟨b, n / 64, none⟩ = some (.int .u64 ((ws.getD (n / 64) 0 : Nat) : Int)) := cell_at (n / 64) h1 (words_nth ws (by omega))
  have f1 := free_at (n / 64) h1
  have HM := Lib.hid (may_yes ⟨b, 0, none⟩ n w (by omega) (by omega))
  have hs0 : (0 : Int) ≤ (n : Int) % 64 := by omega
  have hs1 : (n : Int) % 64 < 64 := by omega
  have hq0 : (0 : Int) ≤ (n : Int) / 64 := by omega
  have hq1 : (n : Int) / 64 < 8 := by omega
  have H1 := Lib.hid h1
  have H2 := Lib.hid h2
  have H3 := Lib.hid h3
  have HX := Lib.hid (getD_lt h3 (n / 64))
  clear h1 h2 h3
  generalize hx : ws.getD (n / 64) 0 = x at *
  have HXE := Lib.hid hx
  clear hx
  go_enter Tryd.func26, Tryd.ntmps26
  go_wp2_with fail
  refine HM.out.mono ?_
  rintro e w' ⟨rfl, rfl⟩
  go_wp2_with fail
  go_region
  go_wp2_with fail
  go_ret
  obtain rfl := HXE.out
  refine ⟨rfl, ⟨?_, by simp [dropW, H2.out], lt_set H3.out (and_lt HX.out)⟩, ((Chg.refl _ _).set1 _ _).drew⟩
  have hh := heap_set (n / 64) (.int .u64 (bits .andNot .u64 ((ws.getD (n / 64) 0 : Nat) : Int) (IntKind.u64.wrap (2 ^ (n % 64))))) H1.out
  rw [andNot_pow _ _ HX.out, words_set] at hh
  rw [← andNot_pow _ _ HX.out] at hh
  exact hh

theorem put_no (b : Nat) (n : Int) (w : World) (hn : n < 0 ∨ 500 ≤ n) :
    Calls Tryd.prog 25 #[.pointer (some ⟨b, 0, none⟩), .int .i64 n] w fun e w' => e = .returned (.int .i64 2) ∧ w = w' := by
  have HM := Lib.hid (may_no ⟨b, 0, none⟩ n w hn)
  clear hn
  go_enter Tryd.func25, Tryd.ntmps25
  go_wp2_with fail
  refine HM.out.mono ?_
  rintro e w' ⟨rfl, rfl⟩
  go_wp2_with fail
  go_ret
  exact ⟨rfl, rfl⟩
theorem drop_no (b : Nat) (n : Int) (w : World) (hn : n < 0 ∨ 500 ≤ n) :
    Calls Tryd.prog 26 #[.pointer (some ⟨b, 0, none⟩), .int .i64 n] w fun e w' => e = .returned (.int .i64 2) ∧ w = w' := by
  have HM := Lib.hid (may_no ⟨b, 0, none⟩ n w hn)
  clear hn
  go_enter Tryd.func26, Tryd.ntmps26
  go_wp2_with fail
  refine HM.out.mono ?_
  rintro e w' ⟨rfl, rfl⟩
  go_wp2_with fail
  go_ret
  exact ⟨rfl, rfl⟩
theorem has_no (b : Nat) (n : Int) (w : World) (hn : n < 0 ∨ 500 ≤ n) :
    Calls Tryd.prog 24 #[.pointer (some ⟨b, 0, none⟩), .int .i64 n] w fun e w' => e = .returned (.bool false) ∧ w = w' := by
  have HM := Lib.hid (may_no ⟨b, 0, none⟩ n w hn)
  clear hn
  go_enter Tryd.func24, Tryd.ntmps24
  go_wp2_with fail
  refine HM.out.mono ?_
  rintro e w' ⟨rfl, rfl⟩
  go_wp2_with fail
  go_ret
  exact ⟨rfl, rfl⟩
theorem has_yes (b n : Nat) (ws : List Nat) (w : World) (h : SetAt w b ws) (hn : n < 500) :
    Calls Tryd.prog 24 #[.pointer (some ⟨b, 0, none⟩), .int .i64 n] w fun e w' => e = .returned (.bool (mem ws n)) ∧ w = w' := by
  obtain ⟨h1, h2, h3⟩ := h
  have hi : n / 64 < 8 := by omega
  have c1 : w.cell? ⟨b, n / 64, none⟩ = some (.int .u64 ((ws.getD (n / 64) 0 : Nat) : Int)) := cell_at (n / 64) h1 (words_nth ws (by omega))
  have HM := Lib.hid (may_yes ⟨b, 0, none⟩ n w (by omega) (by omega))
  have hs0 : (0 : Int) ≤ (n : Int) % 64 := by omega
  have hs1 : (n : Int) % 64 < 64 := by omega
  have hq0 : (0 : Int) ≤ (n : Int) / 64 := by omega
  have hq1 : (n : Int) / 64 < 8 := by omega
  have HX := Lib.hid (getD_lt h3 (n / 64))
  clear h1 h2 h3
  unfold mem
  generalize ws.getD (n / 64) 0 = x at *
  go_enter Tryd.func24, Tryd.ntmps24
  go_wp2_with fail
  refine HM.out.mono ?_
  rintro e w' ⟨rfl, rfl⟩
  go_wp2_with fail
  go_ret
  exact ⟨ret_bool (and_one x (n % 64) HX.out), rfl⟩
end Go.Proofs.YtafdijcolponjaaDoor

namespace Go.Proofs.YtafdijcolponjaaDoor
open Go.RowKit

def put1 (ws : List Nat) (z : Int) : List Nat := if 0 ≤ z ∧ z < 500 then putW ws z.toNat else ws
def newW (l : List Int) : List Nat := l.foldl put1 [0, 0, 0, 0, 0, 0, 0, 0]

theorem newW_take {l : List Int} {k : Nat} (h : k < l.length) : newW (l.take (k + 1)) = put1 (newW (l.take k)) (l.getD k 0) := by
  unfold newW
  rw [List.take_succ_eq_append_getElem h, List.foldl_append]
  simp [List.getD, h]

/-- Putting whatever number: the set is as it is then. -/
def PEnds (b : Nat) (ws : List Nat) (w : World) (e : Ending) (w' : World) : Prop :=
  (∃ c, e = .returned (.int .i64 c)) ∧ SetAt w' b ws ∧ Chg (· = b) w w'

theorem put_any (b : Nat) (z : Int) (ws : List Nat) (w : World) (h : SetAt w b ws) :
    Calls Tryd.prog 25 #[.pointer (some ⟨b, 0, none⟩), .int .i64 z] w (PEnds b (put1 ws z) w) := by
  unfold put1
  by_cases hz : 0 ≤ z ∧ z < 500
  · rw [if_pos hz]
    obtain ⟨n, rfl⟩ := Int.eq_ofNat_of_zero_le hz.1
    refine (put_yes b n ws w h (by omega)).mono ?_
    rintro e w' ⟨rfl, h1, h2⟩
    exact ⟨⟨_, rfl⟩, h1, h2⟩
  · rw [if_neg hz]
    refine (put_no b z w (by omega)).mono ?_
    rintro e w' ⟨rfl, rfl⟩
    exact ⟨⟨_, rfl⟩, h, Chg.refl _ _⟩

def NewRel (w : World) (l : List Int) (i : Value) (wr : World) : Prop :=
  ∃ k : Nat, k ≤ l.length ∧ i = .int .i64 k ∧ SetAt wr w.heap.size (newW (l.take k)) ∧ Below w.heap.size w wr

def NewEnds (ws : List Nat) (w : World) (e : Ending) (w' : World) : Prop :=
  e = .returned (.pointer (some ⟨w.heap.size, 0, none⟩)) ∧ SetAt w' w.heap.size ws ∧ Below w.heap.size w w'

theorem new_any (a : Option Addr) (len cap : Nat) (l : List Int) (w : World) (h : Src w a len cap 1 (intl l)) :
    Calls Tryd.prog 22 #[.slice a len cap] w (NewEnds (newW l) w) := by
  have hl : l.length = len := by have := h.1; simpa [intl] using this
  have hle := h.2.2.1
  have hx := h.2.2.2.1
  unfold maxLen at hx
  subst hl
  have HA := Lib.hid h
  clear h
  go_enter Tryd.func22, Tryd.ntmps22
  go_wp2_with fail
  go_loopw [10] (fun i wr => NewRel w l i wr) (fun i _ => l.length - (intOf i).toNat)
  case atStart =>
    refine ⟨0, Nat.zero_le _, rfl, ⟨heap_new _ _, rfl, ?_⟩, (Below.refl _ _).alloc (Nat.le_refl _) _⟩
    intro x hx; simp [newW] at hx; rw [hx]; decide
  case round =>
    obtain ⟨k, hk, rfl, hS, hB⟩ := hrel
    by_cases hlt : k < l.length
    · obtain ⟨b, o, hab, hc⟩ := HA.out.plain (by omega)
      cases hab
      have hc1 := hc k hlt
      have hcw := (World.cell?_of_block (hB.block b (World.block_lt_of_cell? w _ hc1))).trans hc1
      generalize hz : l.getD k 0 = z at hcw
      have HP := Lib.hid (put_any _ z _ _ hS)
      have HZ := Lib.hid hz
      have HB := Lib.hid hB
      clear hc hc1 hz hS hB
      go_wp2_with fail
      refine HP.out.mono ?_
      rintro e w' ⟨⟨c, rfl⟩, hS', hC⟩
      have HS := Lib.hid hS'
      have HC := Lib.hid hC
      clear hS' hC
      go_wp2_with fail
      go_roundw
      case rel =>
        refine ⟨k + 1, hlt, by go_num, ?_, HB.out.trans (HC.out.below HB.out.size (fun k hk e => by omega))⟩
        rw [newW_take hlt, HZ.out]
        exact HS.out
      case measure => simp [intOf]; omega
    · obtain rfl : k = l.length := by omega
      have HB := Lib.hid hB
      have HS := Lib.hid hS
      clear hB hS
      go_wp2_with fail
      go_ret
      refine ⟨rfl, ?_, HB.out⟩
      have := HS.out
      rwa [List.take_length] at this

theorem src_owned {w : World} {base e g cap n : Nat} {l : List Int} (h : w.ownsRow base e 1 (.slice (some ⟨g, 0, none⟩) n cap) n (intl l)) : Src w (some ⟨g, 0, none⟩) n cap 1 (intl l) := by
  obtain ⟨_, _, hv, hle, hmx⟩ := (owns_shape h).resolve_left (by rintro ⟨h, _⟩; cases h)
  cases hv
  refine ⟨h.1, (by intro h; cases h), hle, hmx, ?_, ?_⟩
  · intro ad had j u hj
    cases had
    have hjl : j < n := by
      have h1 := h.1
      rcases Nat.lt_or_ge j (intl l).length with g | g
      · omega
      · rw [List.getElem?_eq_none g] at hj; cases hj
    have := h.cellAt j (by omega)
    rw [hj] at this
    rw [← this]
    unfold Addr.add
    split
    · rename_i h0; subst h0; rfl
    · simp
  · intro u hu
    obtain ⟨n, _, rfl⟩ := List.mem_map.1 hu
    rfl

/-- At most a hundred numbers, in memory of the call's own. -/
def FewEnds (l : List Int) (w : World) (e : Ending) (w' : World) : Prop :=
  ∃ g cap, e = .returned (.slice (some ⟨g, 0, none⟩) (l.take 100).length cap) ∧ Below w.heap.size w w' ∧ w.heap.size ≤ g ∧ Src w' (some ⟨g, 0, none⟩) (l.take 100).length cap 1 (intl (l.take 100))

theorem few_any (a : Option Addr) (len cap : Nat) (l : List Int) (w : World) (h : Src w a len cap 1 (intl l)) :
    Calls Tryd.prog 23 #[.slice a len cap] w (FewEnds l w) := by
  have hl : l.length = len := by have := h.1; simpa [intl] using this
  have hle := h.2.2.1
  have hx := h.2.2.2.1
  unfold maxLen at hx
  have ht : (l.take 100).length = min 100 l.length := List.length_take
  have hsrc : Src w a (l.take 100).length cap 1 (intl (l.take 100)) := by
    obtain ⟨h1, h2, h3, h4, h5, h6⟩ := h
    refine ⟨by simp [intl], fun e => ⟨by have := (h2 e).1; omega, (h2 e).2⟩, by omega, h4, fun ad had j u hj => h5 ad had j u ?_, fun u hu => ?_⟩
    · simp only [intl, List.map_take, List.getElem?_take] at hj
      split at hj
      · exact hj
      · cases hj
    · obtain ⟨n, _, rfl⟩ := List.mem_map.1 hu
      rfl
  have HI := Lib.hid (ints_any a (l.take 100).length cap (intl (l.take 100)) w hsrc (by omega))
  have HE : Hid (∀ e w', Made w.heap.size 3 1 (l.take 100).length (intl (l.take 100)) w e w' → FewEnds l w e w') := by
    rintro e w' ⟨g, c, rfl, hown, hB⟩
    exact ⟨g, c, rfl, hB, (World.ownsRow.lt hown g rfl).1, src_owned hown⟩
  have hnil : a = none → l.length = 0 := fun e => by have := h.2.1 e; omega
  clear h hsrc
  generalize hq : l.take 100 = q at ht HI HE
  clear hq
  rw [← hl] at *
  generalize l.length = n at *
  rcases Nat.lt_or_ge 100 n with hn | hn
  · have hi : ¬ ((n : Int) ≤ 100) := by omega
    have he : q.length = 100 := by omega
    rw [he] at HI HE
    clear he ht
    cases a with
    | none => have := hnil rfl; omega
    | some x =>
      go_enter Tryd.func23, Tryd.ntmps23
      go_wp2_with fail
      refine HI.out.mono ?_
      rintro e w' hM
      obtain ⟨g, c, rfl, hown, hB⟩ := hM
      go_wp2_with fail
      go_ret
      exact HE.out _ _ ⟨g, c, rfl, hown, hB⟩
  · have hi : ((n : Int) ≤ 100) := by omega
    have he : q.length = n := by omega
    rw [he] at HI HE
    clear he ht hnil
    cases a with
    | none =>
      go_enter Tryd.func23, Tryd.ntmps23
      go_wp2_with fail
      refine HI.out.mono ?_
      rintro e w' hM
      obtain ⟨g, c, rfl, hown, hB⟩ := hM
      go_wp2_with fail
      go_ret
      exact HE.out _ _ ⟨g, c, rfl, hown, hB⟩
    | some x =>
      go_enter Tryd.func23, Tryd.ntmps23
      go_wp2_with fail
      refine HI.out.mono ?_
      rintro e w' hM
      obtain ⟨g, c, rfl, hown, hB⟩ := hM
      go_wp2_with fail
      go_ret
      exact HE.out _ _ ⟨g, c, rfl, hown, hB⟩
end Go.Proofs.YtafdijcolponjaaDoor

namespace Go.Proofs.YtafdijcolponjaaDoor
open Go.RowKit

def TabIs (w : World) : Prop := TabAt 0 Lib.deBruijn64tab w

theorem tz_core (x k idx : Nat) (w : World) (hx0 : ((x : Int) == 0) = false)
    (key : IntKind.u64.wrap (bits BinOp.and IntKind.u64 (x : Int) (IntKind.u64.wrap (-(x : Int))) * 285870213051353865) / 288230376151711744 = (idx : Int))
    (hi : idx < 64) (hk : k < 64) (hcell : w.cell? ⟨0, idx, none⟩ = some (.int .u8 k)) :
    Calls Tryd.prog 87 #[.int .u64 x] w fun e w' => e = .returned (.int .i64 k) ∧ w = w' := by
  go_enter Tryd.func87, Tryd.ntmps87
  go_wp2_with (simp only [key])
  go_ret
  exact ⟨rfl, rfl⟩

theorem tz_any (x : Nat) (hx : x < 2 ^ 64) (h0 : x ≠ 0) (w : World) (hT : TabIs w) :
    Calls Tryd.prog 87 #[.int .u64 x] w fun e w' => e = .returned (.int .i64 (Lib.ctz 64 x)) ∧ w = w' := by
  obtain ⟨hlow, hk⟩ := Lib.lowest_bit 64 x h0 hx
  obtain ⟨hi, htab⟩ := Lib.deBruijn64_at _ hk
  have hcell := hT _ hi
  rw [htab] at hcell
  exact tz_core x _ _ w (by simp; omega) (tz64_key x _ hx h0 hlow) hi hk hcell

/-- A word's bits, rising. -/
def bitL (x : Nat) : List Nat := (List.range 64).filter fun i => x.testBit i

theorem ctz_bit (x : Nat) (h0 : x ≠ 0) (hx : x < 2 ^ 64) : x.testBit (Lib.ctz 64 x) = true ∧ Lib.ctz 64 x < 64 ∧ ∀ i, i < Lib.ctz 64 x → x.testBit i = false := by
  obtain ⟨m, hm, hlt⟩ := Lib.ctzFrom_spec 64 x (by omega) hx
  have hc : Lib.ctz 64 x = Lib.ctzFrom 64 x := by unfold Lib.ctz; rw [if_neg h0]
  rw [hc]
  refine ⟨?_, hlt, fun i hi => ?_⟩
  · generalize Lib.ctzFrom 64 x = k at hm
    rw [hm, Nat.testBit_two_pow_mul]
    simp
  · generalize Lib.ctzFrom 64 x = k at hm hi
    rw [hm, Nat.testBit_two_pow_mul]
    simp; omega

theorem and_pred (x : Nat) (h0 : x ≠ 0) (hx : x < 2 ^ 64) (i : Nat) : (x &&& (x - 1)).testBit i = (x.testBit i && !decide (i = Lib.ctz 64 x)) := by
  obtain ⟨m, hm, hlt⟩ := Lib.ctzFrom_spec 64 x (by omega) hx
  have hc : Lib.ctz 64 x = Lib.ctzFrom 64 x := by unfold Lib.ctz; rw [if_neg h0]
  rw [hc]
  generalize Lib.ctzFrom 64 x = k at hm
  have hp : 0 < 2 ^ k := Nat.two_pow_pos k
  have e1 : x = 2 ^ k * (2 * m + 1) + 0 := by omega
  have e2 : x - 1 = 2 ^ k * (2 * m) + (2 ^ k - 1) := by rw [hm, Nat.mul_add]; omega
  rw [Nat.testBit_and, e2, Nat.testBit_two_pow_mul_add _ (by omega), hm, Nat.testBit_two_pow_mul]
  by_cases hik : i < k
  · simp [hik]; omega
  · by_cases he : i = k
    · subst he; simp
    · have h1 : i - k = (i - k - 1) + 1 := by omega
      have : k ≤ i := by omega
      simp only [hik, this, he, if_false, decide_true, decide_false, Bool.true_and, Bool.not_false, Bool.and_true]
      rw [h1, Nat.testBit_succ, Nat.testBit_succ, show (2 * m + 1) / 2 = m by omega, show 2 * m / 2 = m by omega]
      simp

theorem filter_range_first (n k : Nat) (p : Nat → Bool) (hk : k < n) (hp : p k = true) (hb : ∀ i, i < k → p i = false) :
    (List.range n).filter p = k :: (List.range n).filter fun i => p i && !decide (i = k) := by
  have e : List.range n = List.range k ++ k :: (List.range (n - k - 1)).map (k + 1 + ·) := by
    refine List.ext_getElem (by simp; omega) fun i h1 h2 => ?_
    simp only [List.length_range] at h1
    rw [List.getElem_append]
    split
    · simp
    · rename_i hge
      simp only [List.length_range] at hge
      rcases Nat.eq_or_lt_of_le (Nat.le_of_not_lt hge) with h | h
      · subst h; simp
      · obtain ⟨d, rfl⟩ : ∃ d, i = k + 1 + d := ⟨i - k - 1, by omega⟩
        simp [show k + 1 + d - k = d + 1 by omega]
  rw [e, List.filter_append, List.filter_append]
  have n1 : (List.range k).filter p = [] := List.filter_eq_nil_iff.2 fun i hi => by simp [hb i (by simpa using hi)]
  have n2 : ((List.range k).filter fun i => p i && !decide (i = k)) = [] := List.filter_eq_nil_iff.2 fun i hi => by simp [hb i (by simpa using hi)]
  rw [n1, n2]
  simp only [List.nil_append, List.filter_cons, hp, if_true, decide_true, Bool.not_true, Bool.and_false]
  simp only [Bool.false_eq_true, if_false, List.cons.injEq, true_and]
  refine List.filter_congr fun i hi => ?_
  obtain ⟨d, -, rfl⟩ := List.mem_map.1 hi
  simp; omega

theorem bitL_zero : bitL 0 = [] := by simp [bitL]
theorem bitL_step (x : Nat) (h0 : x ≠ 0) (hx : x < 2 ^ 64) : bitL x = Lib.ctz 64 x :: bitL (x &&& (x - 1)) := by
  obtain ⟨h1, h2, h3⟩ := ctz_bit x h0 hx
  unfold bitL
  rw [filter_range_first 64 _ _ h2 h1 h3]
  congr 2
  funext i
  rw [and_pred x h0 hx]
end Go.Proofs.YtafdijcolponjaaDoor

namespace Go.Proofs.YtafdijcolponjaaDoor
open Go.RowKit

/-- The numbers of the first k words, rising. -/
def preL (ws : List Nat) (k : Nat) : List Nat := (List.range k).flatMap fun i => (bitL (ws.getD i 0)).map (i * 64 + ·)
def natI (l : List Nat) : List Int := l.map Int.ofNat

theorem bitL_len (x : Nat) : (bitL x).length ≤ 64 := by
  have := List.length_filter_le (fun i => x.testBit i) (List.range 64)
  simpa [bitL] using this
theorem preL_succ (ws : List Nat) (k : Nat) : preL ws (k + 1) = preL ws k ++ (bitL (ws.getD k 0)).map (k * 64 + ·) := by
  unfold preL
  rw [List.range_succ, List.flatMap_append]
  simp
theorem preL_len (ws : List Nat) : ∀ k, (preL ws k).length ≤ k * 64
  | 0 => by simp [preL]
  | k + 1 => by
    rw [preL_succ, List.length_append, List.length_map]
    have := preL_len ws k
    have := bitL_len (ws.getD k 0)
    omega

theorem tab_below {w w' : World} {B : Nat} (h : TabIs w) (hb : Below B w w') (hB : w.heap.size ≤ B) : TabIs w' := fun j hj => by
  have h1 := h j hj
  rw [World.cell?_of_block (hb.block _ (Nat.lt_of_lt_of_le (World.block_lt_of_cell? w _ h1) hB))]
  exact h1

theorem set_range {w : World} {b : Nat} {ws : List Nat} (h : SetAt w b ws) : w.rangeAt b 0 (words ws).toList := fun j v hj => by
  rw [Nat.zero_add]
  exact cell_at j h.1 (by simpa using hj)

theorem one_new (w : World) (n : Int) (t : TypeId) : ∀ j u, [Value.int .i64 n][j]? = some u → (w.alloc (.cells #[.int .i64 n] t)).cell? ((⟨w.heap.size, 0, none⟩ : Addr).add j) = some u := by
  intro j u hj
  cases j with
  | zero =>
    simp at hj
    subst hj
    exact cell_at 0 (heap_new _ _) rfl
  | succ j => simp at hj
theorem one_cell (k : IntKind) (n : Int) : ∀ u ∈ [Value.int k n], u.oneCell' = true := by
  intro u hu
  simp at hu
  subst hu
  rfl

theorem infoWord : (Tryd.prog.info? 98).map (·.size) = some 1 := by kernel_rfl
theorem infoWords : (Tryd.prog.info? 99).map (·.size) = some 8 := by kernel_rfl

def AllEnds (ws : List Nat) (w : World) (e : Ending) (w' : World) : Prop :=
  ∃ v, e = .returned v ∧ w'.ownsRow w.heap.size 3 1 v (preL ws 8).length (intl (natI (preL ws 8))) ∧ Below w.heap.size w w'

def AllRel (w : World) (ws : List Nat) (v i : Value) (wr : World) : Prop :=
  ∃ k : Nat, k ≤ 8 ∧ i = .int .i64 k ∧ wr.ownsRow w.heap.size 3 1 v (preL ws k).length (intl (natI (preL ws k))) ∧ Below w.heap.size w wr
def AllIn (w : World) (ws : List Nat) (k : Nat) (v x : Value) (wr : World) : Prop :=
  ∃ (y : Nat) (out : List Nat), y < 2 ^ 64 ∧ x = .int .u64 y ∧ preL ws (k + 1) = out ++ (bitL y).map (k * 64 + ·) ∧
    wr.ownsRow w.heap.size 3 1 v out.length (intl (natI out)) ∧ Below w.heap.size w wr

set_option maxRecDepth 20000 in
theorem all_any (b : Nat) (ws : List Nat) (w : World) (h : SetAt w b ws) (hT : TabIs w) :
    Calls Tryd.prog 39 #[.pointer (some ⟨b, 0, none⟩)] w (AllEnds ws w) := by
  have hr := set_range h
  obtain ⟨h1, h2, h3⟩ := h
  have hsz : (words ws).toList.length = 8 := by simp [words, h2]
  have H3 := Lib.hid h3
  have HN := Lib.hid (fun (j : Nat) (hj : j < 8) => words_nth ws (i := j) (by omega))
  have HT := Lib.hid hT
  have HR := Lib.hid hr
  have HI := Lib.hid (by rw [hsz]; exact infoWords : (Tryd.prog.info? 99).map (·.size) = some (words ws).toList.length)
  clear h1 h2 h3 hT hr hsz
  go_enter Tryd.func39, Tryd.ntmps39
  go_wp2_with (first | (refine wpList_load_mid rfl 99 _ rfl b 0 rfl (words ws).toList _ HR.out Tryd.underlying99 rfl HI.out ?_) | fail)
  go_loopw [3, 12] (fun v i wr => AllRel w ws v i wr) (fun _ i _ => 8 - (intOf i).toNat)
  case atStart =>
    exact ⟨0, by omega, rfl, ⟨rfl, .inl ⟨rfl, rfl⟩⟩, Below.refl _ _⟩
  case round =>
    obtain ⟨k, hk, rfl, hown, hB⟩ := hrel
    by_cases hlt : k < 8
    · have hn := HN.out k hlt
      generalize hx : ws.getD k 0 = x at hn
      have HX := Lib.hid hx
      have HO := Lib.hid hown
      have HB := Lib.hid hB
      clear hx hown hB
      generalize words ws = cs at *
      have hq0 : (0 : Int) ≤ (k : Int) := by omega
      have hq1 : (k : Int) < 8 := by omega
      go_wp2_with (first | (refine wpList_index_one rfl 99 _ _ rfl 98 8 _ _ k _ rfl rfl Tryd.underlying99 Tryd.underlying98 rfl infoWord hlt hn ?_) | fail)
      clear hn
      go_loopw [3, 5] (fun v x wr => AllIn w ws k v x wr) (fun _ x _ => (intOf x).toNat)
      case atStart =>
        exact ⟨x, preL ws k, by rw [← HX.out]; exact getD_lt H3.out k, rfl, by rw [preL_succ, HX.out], HO.out, HB.out⟩
      case round =>
        clear HX HO HB
        obtain ⟨y, out, hy, rfl, hpre, hown, hB⟩ := hrel
        have HP := Lib.hid hpre
        have HB := Lib.hid hB
        have HY := Lib.hid hy
        by_cases h0 : y = 0
        · subst h0
          rw [bitL_zero] at hpre
          have HP := Lib.hid hpre
          have HO := Lib.hid hown
          clear hpre hown hB hy
          go_wp2_with fail
          go_roundw
          case rel =>
            refine ⟨k + 1, by omega, by go_num, ?_, HB.out⟩
            have := HP.out
            simp only [List.map_nil, List.append_nil] at this
            rw [this]; exact HO.out
          case measure => simp [intOf]; omega
        · have hne : ¬ ((y : Int) = 0) := by omega
          have hc := (ctz_bit y h0 hy).2.1
          have hstep := bitL_step y h0 hy
          have hlen := preL_len ws (k + 1)
          have HOL : Hid (out.length ≤ 512) := by show _ ≤ _; rw [hpre, List.length_append] at hlen; omega
          have HTZ := Lib.hid (tz_any y hy h0 wr (tab_below HT.out hB (Nat.le_refl _)))
          have hle : y &&& (y - 1) < y := by
            have := Nat.and_le_right (n := y) (m := y - 1)
            omega
          have hand : bits .and .u64 (y : Int) ((y : Int) - 1) = ((y &&& (y - 1) : Nat) : Int) := by
            rw [show ((y : Int) - 1) = ((y - 1 : Nat) : Int) by omega]
            exact u64_and_nat _ _ hy (by omega)
          have hlt2 : y &&& (y - 1) < 2 ^ 64 := by omega
          generalize hz : y &&& (y - 1) = z at *
          generalize hcc : Lib.ctz 64 y = c at *
          have HST := Lib.hid hstep
          have HL := Lib.hid hlt2
          have HZ := Lib.hid hle
          have HO := Lib.hid hown
          have HAND := Lib.hid hand
          have hy1 : (1 : Int) ≤ (y : Int) := by omega
          have hy2 : (y : Int) ≤ 18446744073709551615 := by omega
          obtain ⟨i0, hi, hz0, hz1, hz2⟩ := info_parts infoInt
          have hb := hB.size
          clear hpre hown hB hy hstep hlt2 hle hz hcc h0 hlen hand
          go_wp2_with fail
          refine HTZ.out.mono ?_
          rintro e w' ⟨rfl, rfl⟩
          have hc0 : (0 : Int) ≤ (c : Int) := by omega
          have hc1 : (c : Int) < 64 := by omega
          have HM : Hid (out.length + 1 ≤ maxLen ∧ (out.length + 1) * 8 ≤ 140737488355328) := by
            have := HOL.out
            show _ ∧ _
            unfold maxLen; omega
          have hb2 : Hid (∀ o, w.heap.size ≤ (wr.alloc o).heap.size) := fun o => by simp; omega
          clear hb
          go_wp2_with (first | (at_builtin; go_loud (refine wpList_append_own _ rfl _ _ 22 rfl w.heap.size 3 i0 (.int .i64 0) 1 8 Tryd.underlying22 hi hz0 hz1 hz2 rfl (by decide) _ out.length (intl (natI out)) rfl (HO.out.alloc _) ⟨wr.heap.size, 0, none⟩ 1 1 [_] rfl rfl (one_new wr _ _) (one_cell _ _) HM.out.1 HM.out.2 (hb2.out _) ?_)) | fail)
          intro v' w1 hown1 hgrow hnn
          clear hnn
          go_wp2_with fail
          go_roundw
          case rel =>
            refine ⟨z, out ++ [k * 64 + c], HL.out, ?_, ?_, ?_, ?_⟩
            · rw [HAND.out]
            · rw [HP.out, HST.out]; simp
            · have e : intl (natI (out ++ [k * 64 + c])) = intl (natI out) ++ [Value.int .i64 ((k : Int) * 64 + (c : Int))] := by simp [intl, natI]
              rw [e, List.length_append]
              exact hown1
            · exact (HB.out.alloc HB.out.size _).grown hgrow (hb2.out _) (fun q hq => (World.ownsRow.lt HO.out q hq).1)
          case measure => have := HZ.out; rw [HAND.out]; simp [intOf]; omega
    · obtain rfl : k = 8 := by omega
      have HO := Lib.hid hown
      have HB := Lib.hid hB
      clear hown hB
      go_wp2_with fail
      go_ret
      exact ⟨_, rfl, HO.out, HB.out⟩
end Go.Proofs.YtafdijcolponjaaDoor

namespace Go.Proofs.YtafdijcolponjaaDoor
open Go.RowKit

/-- A row that a statement has just laid. -/
theorem src_new (w : World) (l : List Int) (t : TypeId) (h : l.length ≤ 100) : Src (w.alloc (.cells (intl l).toArray t)) (some ⟨w.heap.size, 0, none⟩) l.length l.length 1 (intl l) := by
  refine ⟨by simp [intl], (by intro e; cases e), Nat.le_refl _, by unfold maxLen; omega, ?_, ?_⟩
  · intro ad had j u hj
    cases had
    have : (⟨w.heap.size, 0, none⟩ : Addr).add j = ⟨w.heap.size, j, none⟩ := by
      unfold Addr.add
      split
      · rename_i h0; subst h0; rfl
      · simp
    rw [this]
    exact cell_at j (heap_new _ _) (by simpa using hj)
  · intro u hu
    obtain ⟨n, _, rfl⟩ := List.mem_map.1 hu
    rfl

theorem Src.below {w w' : World} {b n cap : Nat} {l : List Int} (h : Src w (some ⟨b, 0, none⟩) n cap 1 (intl l)) {B : Nat} (hb : Below B w w') (hB : b < B) : Src w' (some ⟨b, 0, none⟩) n cap 1 (intl l) :=
  h.of_block fun ad had _ => by cases had; exact hb.block b hB

theorem worksSet : newW [5, 500, 1] = [34, 0, 0, 0, 0, 0, 0, 0] := by decide
theorem worksAll : natI (preL [34, 0, 0, 0, 0, 0, 0, 0] 8) = [1, 5] := by decide
theorem worksLen : (preL [34, 0, 0, 0, 0, 0, 0, 0] 8).length = 2 := by decide
theorem worksHas : mem (newW [3]) 3 = true := by decide

def YesEnds (w : World) (e : Ending) (w' : World) : Prop := e = .returned (.bool true) ∧ Below w.heap.size w w'


theorem works_any (w : World) (hT : TabIs w) : Calls Tryd.prog 21 #[] w (YesEnds w) := by
  have HT := Lib.hid hT
  clear hT
  have h1 := new_any _ _ _ _ _ (src_new w [5, 500, 1] 3 (by decide))
  rw [worksSet] at h1
  simp only [intl, List.map_cons, List.map_nil, List.length_cons, List.length_nil, Nat.reduceAdd] at h1
  have H1 := Lib.hid h1
  clear h1
  go_enter Tryd.func21, Tryd.ntmps21
  go_wp2_with fail

  go_fit H1.out
  rintro e w1 ⟨rfl, hS, hB⟩
  have e1 : (w.alloc (.cells #[.int .i64 5, .int .i64 500, .int .i64 1] 3)).heap.size = w.heap.size + 1 := by simp
  rw [e1] at hS hB
  have hB0 : Below w.heap.size w w1 := ((Below.refl _ w).alloc (Nat.le_refl _) _).trans (hB.mono (by simp))
  have hsz := hB.size
  have HA := Lib.hid (all_any _ _ w1 hS (tab_below HT.out hB0 (Nat.le_refl _)))
  have HB := Lib.hid hB0
  have HZ := Lib.hid hsz
  clear hB0 hB hS hsz
  go_wp2_with fail
  go_fit HA.out
  rintro e w2 ⟨v, rfl, hown, hB2⟩
  rw [worksAll, worksLen] at hown
  obtain ⟨g, cap, rfl, -, -⟩ := (owns_shape hown).resolve_left (fun h => absurd h.2 (by decide))
  have hh := same_any _ _ _ _ _ _ _ _ _ (src_owned (hown.alloc (.cells #[.int .i64 1, .int .i64 5] 3))) (src_new w2 [1, 5] 3 (by decide))
  simp only [List.length_cons, List.length_nil, Nat.reduceAdd] at hh
  have HA2 := Lib.hid hh
  have HB2 := Lib.hid (HB.out.trans (hB2.mono HB.out.size))
  clear hown hB2 hh
  go_wp2_with fail
  go_fit HA2.out
  rintro e w3 ⟨rfl, hS3⟩
  rw [sameB_self]
  have HB3 := Lib.hid ((HB2.out.alloc HB2.out.size (.cells #[.int .i64 1, .int .i64 5] 3)).trans hS3.below)
  have h3 := new_any _ _ _ _ _ (src_new w3 [3] 3 (by decide))
  simp only [intl, List.map_cons, List.map_nil, List.length_cons, List.length_nil, Nat.reduceAdd] at h3
  have H3 := Lib.hid h3
  clear h3 hS3
  go_wp2_with fail
  go_fit H3.out
  rintro e w4 ⟨rfl, hS, hB⟩
  have e3 : (w3.alloc (.cells #[.int .i64 3] 3)).heap.size = w3.heap.size + 1 := by simp
  rw [e3] at hS hB
  have hh := has_yes _ 3 _ w4 hS (by decide)
  rw [worksHas] at hh
  have H4 := Lib.hid hh
  have HB4 := Lib.hid ((HB3.out.alloc HB3.out.size (.cells #[.int .i64 3] 3)).trans (hB.mono (by have := HB3.out.size; omega)))
  clear hS hB hh
  go_wp2_with fail
  go_fit H4.out
  rintro e w5 ⟨rfl, rfl⟩
  go_wp2_with fail
  go_ret
  exact ⟨rfl, HB4.out⟩
end Go.Proofs.YtafdijcolponjaaDoor

namespace Go.Proofs.YtafdijcolponjaaDoor
open Go.RowKit

def memZ (ws : List Nat) (z : Int) : Bool := decide (0 ≤ z ∧ z < 500) && mem ws z.toNat
theorem has_any (b : Nat) (z : Int) (ws : List Nat) (w : World) (h : SetAt w b ws) :
    Calls Tryd.prog 24 #[.pointer (some ⟨b, 0, none⟩), .int .i64 z] w fun e w' => e = .returned (.bool (memZ ws z)) ∧ w = w' := by
  unfold memZ
  by_cases hz : 0 ≤ z ∧ z < 500
  · obtain ⟨n, rfl⟩ := Int.eq_ofNat_of_zero_le hz.1
    rw [decide_eq_true hz]
    exact has_yes b n ws w h (by omega)
  · rw [decide_eq_false hz]
    exact has_no b z w (by omega)

theorem memZ_put {ws : List Nat} (h : ws.length = 8) {z : Int} (hz : 0 ≤ z ∧ z < 500) (y : Int) : memZ (put1 ws z) y = (decide (y = z) || memZ ws y) := by
  obtain ⟨n, rfl⟩ := Int.eq_ofNat_of_zero_le hz.1
  unfold memZ put1
  rw [if_pos hz, Int.toNat_natCast, mem_put (by omega)]
  by_cases hy : 0 ≤ y ∧ y < 500
  · obtain ⟨m, rfl⟩ := Int.eq_ofNat_of_zero_le hy.1
    rw [decide_eq_true hy]
    simp only [Int.toNat_natCast, Bool.true_and, Int.ofNat_inj]
  · rw [decide_eq_false hy, Bool.false_and, Bool.false_and, Bool.or_false]
    refine (decide_eq_false ?_).symm
    rintro rfl
    exact hy hz
theorem memZ_drop {ws : List Nat} (h : ws.length = 8) {n : Nat} (hn : n < 500) (y : Int) : memZ (dropW ws n) y = (!decide (y = (n : Int)) && memZ ws y) := by
  unfold memZ
  rw [mem_drop (by omega)]
  by_cases hy : 0 ≤ y ∧ y < 500
  · obtain ⟨m, rfl⟩ := Int.eq_ofNat_of_zero_le hy.1
    rw [decide_eq_true hy]
    simp only [Int.toNat_natCast, Bool.true_and, Int.ofNat_inj]
  · rw [decide_eq_false hy, Bool.false_and, Bool.false_and, Bool.and_false]
theorem memZ_out (ws : List Nat) {z : Int} (hz : ¬ (0 ≤ z ∧ z < 500)) : memZ ws z = false := by
  unfold memZ; rw [decide_eq_false hz, Bool.false_and]

theorem change_any (a : Option Addr) (len cap : Nat) (l : List Int) (n m : Int) (w : World) (h : Src w a len cap 1 (intl l)) (hT : TabIs w) :
    Calls Tryd.prog 3 #[.slice a len cap, .int .i64 n, .int .i64 m] w (YesEnds w) := by
  have hw := works_any w hT
  have HW := Lib.hid hw
  have HS := Lib.hid h
  have hlt : ∀ ad, a = some ad → len ≠ 0 → ad.block < w.heap.size := by
    intro ad ha hl
    subst ha
    obtain ⟨v, hv⟩ : ∃ v, (intl l)[0]? = some v := by
      have := h.1
      exact ⟨_, List.getElem?_eq_getElem (by omega)⟩
    have := h.2.2.2.2.1 ad rfl 0 v hv
    have := World.block_lt_of_cell? w _ this
    simpa [Addr.add] using this
  have HL := Lib.hid hlt
  clear hw hT h hlt
  go_enter Tryd.func3, Tryd.ntmps3
  go_wp2_with fail
  go_fit HW.out
  rintro e w1 ⟨rfl, hB1⟩
  have HF := Lib.hid (few_any a len cap l w1 (HS.out.of_block fun ad ha hl => hB1.block _ (HL.out ad ha (by simpa using hl))))
  have HB1 := Lib.hid hB1
  clear hB1
  go_wp2_with fail
  go_fit HF.out
  rintro e w2 ⟨g, c, rfl, hB2, hg, hsrc⟩
  generalize l.take 100 = q at *
  have HN := Lib.hid (new_any _ _ _ _ _ hsrc)
  have HB2 := Lib.hid (HB1.out.trans (hB2.mono HB1.out.size))
  clear hB2 hg hsrc
  go_wp2_with fail
  go_fit HN.out
  rintro e w3 ⟨rfl, hS3, hB3⟩
  generalize newW q = ws at hS3
  generalize hb : w2.heap.size = b at hS3 hB3
  have HB3 := Lib.hid (HB2.out.trans (hB3.mono (by have := HB2.out.size; omega)))
  have hbw : w.heap.size ≤ b := by have := HB2.out.size; omega
  have HBW := Lib.hid hbw
  have HL8 := Lib.hid hS3.2.1
  have HH := Lib.hid (has_any b m ws w3 hS3)
  have HS3 := Lib.hid hS3
  clear hb hB3 hbw hS3
  go_wp2_with fail
  go_fit HH.out
  rintro e w4 ⟨rfl, rfl⟩
  by_cases hn : 0 ≤ n ∧ n < 500
  · obtain ⟨k, rfl⟩ := Int.eq_ofNat_of_zero_le hn.1
    have hk : k < 500 := by omega
    have HP := Lib.hid (put_yes b k ws w3 HS3.out hk)
    have e0 : putW ws k = put1 ws (k : Int) := by unfold put1; rw [if_pos hn]; rfl
    have hn1 := memZ_put HL8.out hn (k : Int)
    rw [decide_eq_true rfl, Bool.true_or, ← e0] at hn1
    have hm1 := memZ_put HL8.out hn m
    rw [← e0] at hm1
    have HN1 := Lib.hid hn1
    have HM1 := Lib.hid hm1
    have hl2 : (putW ws k).length = 8 := by simp [putW, HL8.out]
    have hn2 := memZ_drop hl2 hk (k : Int)
    rw [decide_eq_true rfl, Bool.not_true, Bool.false_and] at hn2
    have hm2 := memZ_drop hl2 hk m
    have HN2 := Lib.hid hn2
    have HM2 := Lib.hid hm2
    clear hn hn1 hm1 hn2 hm2 hl2 e0
    go_wp2_with fail
    go_fit HP.out
    rintro e w5 ⟨rfl, hS5, hC5⟩
    have h5n := has_any b k _ w5 hS5
    rw [HN1.out] at h5n
    have H5N := Lib.hid h5n
    have H5M := Lib.hid (has_any b m _ w5 hS5)
    have HD := Lib.hid (drop_yes b k _ w5 hS5 hk)
    have HC5 := Lib.hid (HB3.out.trans (below_of_chg hC5 HBW.out HB3.out.size))
    clear h5n hS5 hC5
    by_cases hmk : m = (k : Int)
    · subst hmk
      go_wp2_with fail
      go_fit H5N.out
      rintro e w6 ⟨rfl, rfl⟩
      go_wp2_with fail
      go_fit HD.out
      rintro e w6 ⟨rfl, hS6, hC6⟩
      have h6n := has_any b k _ w6 hS6
      rw [HN2.out] at h6n
      have H6N := Lib.hid h6n
      have HC6 := Lib.hid (HC5.out.trans (below_of_chg hC6 HBW.out HC5.out.size))
      clear h6n hS6 hC6
      go_wp2_with fail
      go_fit H6N.out
      rintro e w7 ⟨rfl, rfl⟩
      go_wp2_with fail
      go_ret
      exact ⟨rfl, HC6.out⟩
    · have hm1 := HM1.out
      rw [decide_eq_false hmk, Bool.false_or] at hm1
      have hm2 := HM2.out
      rw [decide_eq_false hmk, hm1, Bool.not_false, Bool.true_and] at hm2
      rw [hm1] at H5M
      clear HM1 HM2
      have HM2 := Lib.hid hm2
      clear hm1 hm2
      generalize memZ ws m = was at *
      go_wp2_with fail
      go_fit H5N.out
      rintro e w6 ⟨rfl, rfl⟩
      go_wp2_with fail
      go_fit H5M.out
      rintro e w6 ⟨rfl, rfl⟩
      go_wp2_with fail
      go_fit HD.out
      rintro e w6 ⟨rfl, hS6, hC6⟩
      have h6n := has_any b k _ w6 hS6
      rw [HN2.out] at h6n
      have H6N := Lib.hid h6n
      have h6m := has_any b m _ w6 hS6
      rw [HM2.out] at h6m
      have H6M := Lib.hid h6m
      have HC6 := Lib.hid (HC5.out.trans (below_of_chg hC6 HBW.out HC5.out.size))
      clear h6n h6m hS6 hC6
      go_wp2_with fail
      go_fit H6N.out
      rintro e w7 ⟨rfl, rfl⟩
      go_wp2_with fail
      go_fit H6M.out
      rintro e w7 ⟨rfl, rfl⟩
      go_wp2_with fail
      go_ret
      exact ⟨ret_bool (by simp), HC6.out⟩
  · have HP := Lib.hid (put_no b n w3 (by omega))
    have HN := Lib.hid (has_any b n ws w3 HS3.out)
    rw [memZ_out ws hn] at HN
    clear hn
    go_wp2_with fail
    go_fit HP.out
    rintro e w5 ⟨rfl, rfl⟩
    go_wp2_with fail
    go_fit HN.out
    rintro e w6 ⟨rfl, rfl⟩
    go_wp2_with fail
    go_fit HH.out
    rintro e w7 ⟨rfl, rfl⟩
    go_wp2_with fail
    go_ret
    exact ⟨ret_bool (by simp), HB3.out⟩

theorem change_walk (a : Option Addr) (len cap : Nat) (zs : List Int) (n m : Int) (w : World) (h : IsRow .i64 w a len cap zs) (_hn : (Lit.int .i64 n).wf = true) (_hm : (Lit.int .i64 m).wf = true) (hT : TabIs w) :
    Calls Tryd.prog 3 #[.slice a len cap, .int .i64 n, .int .i64 m] w (YesEnds w) :=
  change_any a len cap (zs.take len) n m w (h.src (Nat.le_refl _)) hT
end Go.Proofs.YtafdijcolponjaaDoor

namespace Go.Proofs.YtafdijcolponjaaDoor
open Go.ChangeShapes Go.WideShapes Go.RowKit

theorem gTab : Tryd.prog.globalNamed "math/bits.deBruijn64tab" = some 0 := by kernel_rfl
theorem gTabType : (Tryd.prog.globals[0]?).map (·.type) = some 126 := by kernel_rfl
theorem cells64 : Tryd.prog.cellsOf 126 = 64 := by kernel_rfl
theorem cellsU8 : Tryd.prog.cellsOf 5 = 1 := by kernel_rfl
def tabZ : List Int := Lib.deBruijn64tab.map Int.ofNat
theorem tabDatum : (Rows.laid_math_bits_deBruijn64tab : DataW Unit) = Lib.tabData .u8 tabZ := by rfl

/-- What the condition gives a walk. -/
theorem tab_of_laid {W : World} (h : laidMetH Tryd.prog [("math/bits.deBruijn64tab", Rows.laid_math_bits_deBruijn64tab)] W) : TabIs W := by
  have h' : laidMet Tryd.prog [("math/bits.deBruijn64tab", Rows.laid_math_bits_deBruijn64tab)] W := h
  rw [tabDatum] at h'
  have ht := Lib.tabIs_of_head gTab gTabType Tryd.underlying126 Tryd.underlying5 cellsU8 cells64 h'
  intro j hj
  rw [ht.cell gTab j (by simpa [tabZ] using hj)]
  simp [tabZ, List.getD, hj]

/-- A world that meets the condition. -/
noncomputable def laidWorld (os : Os) : World :=
  let w0 := World.holding Tryd.prog os ⟨#[], #[], []⟩
  { w0 with heap := w0.heap.modify 0 fun
      | .cells _ t frozen => .cells (tabZ.map fun z => Value.int .u8 z).toArray t frozen
      | o => o }
theorem laid_met (os : Os) (args : Array Value) : laidMetH Tryd.prog [("math/bits.deBruijn64tab", Rows.laid_math_bits_deBruijn64tab)] ((laidWorld os).forCall (fun _ _ => 0) ⟨#[], args, []⟩).memory :=
  laidMetH_of_parts (laidMet_of_run' 8 (by kernel_rfl) (by kernel_rfl)) (by kernel_rfl)
end Go.Proofs.YtafdijcolponjaaDoor

namespace Go.Proofs.YtafdijcolponjaaDoor

def val : List Nat → Nat
  | [] => 0
  | b :: l => b + 256 * val l

theorem val_and (k m : Nat) (hk : k < 8) (hm : m < 2 ^ (8 - k)) : ∀ l : List Nat, (∀ b ∈ l, b < 256) →
    (val l >>> k) &&& val (l.map fun _ => m) = val (l.map fun b => (b >>> k) &&& m)
  | [], _ => by simp [val]
  | b :: l, h => by
    have hb : b < 2 ^ 8 := h b (by simp)
    have ih := val_and k m hk hm l (fun c hc => h c (by simp [hc]))
    have hm8 : m < 2 ^ 8 := Nat.lt_of_lt_of_le hm (Nat.pow_le_pow_right (by decide) (by omega))
    have hbm : (b >>> k) &&& m < 2 ^ 8 := Nat.lt_of_le_of_lt Nat.and_le_right hm8
    simp only [List.map_cons, val]
    rw [← ih]
    generalize val l = x
    generalize val (l.map fun _ => m) = r
    refine Nat.eq_of_testBit_eq fun i => ?_
    have e1 : b + 256 * x = 2 ^ 8 * x + b := by omega
    have e2 : m + 256 * r = 2 ^ 8 * r + m := by omega
    have e3 : (b >>> k &&& m) + 256 * (x >>> k &&& r) = 2 ^ 8 * (x >>> k &&& r) + (b >>> k &&& m) := by omega
    rw [e1, e2, e3, Nat.testBit_and, Nat.testBit_shiftRight, Nat.testBit_two_pow_mul_add _ hb, Nat.testBit_two_pow_mul_add _ hm8, Nat.testBit_two_pow_mul_add _ hbm]
    by_cases hi : i < 8
    · simp only [hi, if_true, Nat.testBit_and, Nat.testBit_shiftRight]
      by_cases hki : k + i < 8
      · simp [hki]
      · have : m.testBit i = false := Nat.testBit_lt_two_pow (Nat.lt_of_lt_of_le hm (Nat.pow_le_pow_right (by decide) (by omega)))
        simp [this]
    · have hki : ¬ k + i < 8 := by omega
      simp only [hi, hki, if_false, Nat.testBit_and, Nat.testBit_shiftRight]
      rw [show k + i - 8 = k + (i - 8) by omega]

theorem val_add (f g : Nat → Nat) : ∀ l : List Nat, val (l.map f) + val (l.map g) = val (l.map fun b => f b + g b)
  | [] => rfl
  | b :: l => by
    have := val_add f g l
    simp only [List.map_cons, val]
    omega

theorem val_nib : ∀ l : List Nat, (∀ b ∈ l, b % 16 ≤ 4 ∧ b / 16 ≤ 4) →
    (val l / 16 + val l) &&& val (l.map fun _ => 15) = val (l.map fun b => (b / 16 + b) % 16)
  | [], _ => by simp [val]
  | b :: l, h => by
    have hb := h b (by simp)
    have ih := val_nib l (fun c hc => h c (by simp [hc]))
    simp only [List.map_cons, val]
    rw [← ih]
    have hx : val l % 16 ≤ 4 := by
      cases l with
      | nil => simp [val]
      | cons c l => have := h c (by simp); simp only [val]; omega
    generalize val l = x at *
    generalize val (l.map fun _ => 15) = r
    have e1 : (b + 256 * x) / 16 + (b + 256 * x) = 2 ^ 8 * (x / 16 + x) + (b / 16 + b + 16 * (x % 16)) := by omega
    have hl : b / 16 + b + 16 * (x % 16) < 2 ^ 8 := by omega
    have e2 : 15 + 256 * r = 2 ^ 8 * r + 15 := by omega
    have e4 : (b / 16 + b) % 16 = (b / 16 + b + 16 * (x % 16)) &&& 15 := by
      rw [show (15 : Nat) = 2 ^ 4 - 1 from rfl, Nat.and_two_pow_sub_one_eq_mod]
      omega
    have e3 : (b / 16 + b) % 16 + 256 * ((x / 16 + x) &&& r) = 2 ^ 8 * ((x / 16 + x) &&& r) + ((b / 16 + b + 16 * (x % 16)) &&& 15) := by omega
    rw [e1, e2, e3]
    have hl2 : (b / 16 + b + 16 * (x % 16)) &&& 15 < 2 ^ 8 := by omega
    refine Nat.eq_of_testBit_eq fun i => ?_
    rw [Nat.testBit_and, Nat.testBit_two_pow_mul_add _ hl, Nat.testBit_two_pow_mul_add _ (by decide), Nat.testBit_two_pow_mul_add _ hl2]
    by_cases hi : i < 8
    · simp only [hi, if_true, Nat.testBit_and]
    · simp only [hi, if_false, Nat.testBit_and]

def sA (x : Nat) : Nat := (x / 2 &&& 6148914691236517205) + (x &&& 6148914691236517205)
def sB (x : Nat) : Nat := (x / 4 &&& 3689348814741910323) + (x &&& 3689348814741910323)
def sC (x : Nat) : Nat := (x / 16 + x) &&& 1085102592571150095
def sD (x : Nat) : Nat := x + x / 256
def sE (x : Nat) : Nat := x + x / 65536
def sF (x : Nat) : Nat := x + x / 4294967296
def popW (x : Nat) : Nat := sF (sE (sD (sC (sB (sA x))))) % 128

def bytes (x : Nat) : List Nat := [x % 256, x / 256 % 256, x / 65536 % 256, x / 16777216 % 256, x / 4294967296 % 256, x / 1099511627776 % 256, x / 281474976710656 % 256, x / 72057594037927936 % 256]
theorem val_bytes (x : Nat) (h : x < 2 ^ 64) : val (bytes x) = x := by
  simp only [bytes, val]
  omega
theorem bytes_lt (x : Nat) : ∀ b ∈ bytes x, b < 256 := by
  intro b hb
  simp only [bytes, List.mem_cons, List.not_mem_nil, or_false] at hb
  omega

def gA (b : Nat) : Nat := (b >>> 1 &&& 85) + (b >>> 0 &&& 85)
def gB (b : Nat) : Nat := (b >>> 2 &&& 51) + (b >>> 0 &&& 51)
def gC (b : Nat) : Nat := (b / 16 + b) % 16

def pc8 (b : Nat) : Nat := ((List.range 8).filter fun i => b.testBit i).length
theorem byte_ok : ∀ b, b < 256 → gA b < 256 ∧ gB (gA b) < 256 ∧ (gB (gA b) % 16 ≤ 4 ∧ gB (gA b) / 16 ≤ 4) ∧ gC (gB (gA b)) = pc8 b ∧ pc8 b ≤ 8 := by decide +kernel

theorem map_len {f : Nat → Nat} (x : Nat) : (bytes x).map f = [f (x % 256), f (x / 256 % 256), f (x / 65536 % 256), f (x / 16777216 % 256), f (x / 4294967296 % 256), f (x / 1099511627776 % 256), f (x / 281474976710656 % 256), f (x / 72057594037927936 % 256)] := rfl

theorem sABC (x : Nat) (h : x < 2 ^ 64) : sC (sB (sA x)) = val ((bytes x).map pc8) := by
  have hb := bytes_lt x
  have e0 := val_bytes x h
  have m1 : val ((bytes x).map fun _ => 85) = 6148914691236517205 := by simp [map_len, val]
  have eA : sA x = val ((bytes x).map gA) := by
    have a1 := val_and 1 85 (by decide) (by decide) (bytes x) hb
    have a2 := val_and 0 85 (by decide) (by decide) (bytes x) hb
    rw [e0, m1] at a1 a2
    rw [Nat.shiftRight_eq_div_pow] at a1 a2
    simp only [Nat.pow_one, Nat.pow_zero, Nat.div_one] at a1 a2
    unfold sA
    rw [a1, a2, val_add]
    rfl
  have hbA : ∀ b ∈ (bytes x).map gA, b < 256 := by
    intro b hb'
    obtain ⟨c, hc, rfl⟩ := List.mem_map.1 hb'
    exact (byte_ok c (hb c hc)).1
  have m2 : val (((bytes x).map gA).map fun _ => 51) = 3689348814741910323 := by simp [map_len, val]
  have eB : sB (sA x) = val ((bytes x).map fun b => gB (gA b)) := by
    have a1 := val_and 2 51 (by decide) (by decide) ((bytes x).map gA) hbA
    have a2 := val_and 0 51 (by decide) (by decide) ((bytes x).map gA) hbA
    rw [← eA, m2] at a1 a2
    rw [Nat.shiftRight_eq_div_pow] at a1 a2
    simp only [Nat.reducePow, Nat.div_one] at a1 a2
    unfold sB
    rw [a1, a2, val_add, List.map_map]
    rfl
  have hbB : ∀ b ∈ (bytes x).map (fun b => gB (gA b)), b % 16 ≤ 4 ∧ b / 16 ≤ 4 := by
    intro b hb'
    obtain ⟨c, hc, rfl⟩ := List.mem_map.1 hb'
    exact (byte_ok c (hb c hc)).2.2.1
  have m3 : val (((bytes x).map fun b => gB (gA b)).map fun _ => 15) = 1085102592571150095 := by simp [map_len, val]
  have a := val_nib _ hbB
  rw [← eB, m3] at a
  unfold sC
  rw [a, List.map_map]
  congr 1
  refine List.map_congr_left fun b hb' => ?_
  exact (byte_ok b (hb b hb')).2.2.2.1

theorem sDEF (c0 c1 c2 c3 c4 c5 c6 c7 : Nat) (h : c0 ≤ 8 ∧ c1 ≤ 8 ∧ c2 ≤ 8 ∧ c3 ≤ 8 ∧ c4 ≤ 8 ∧ c5 ≤ 8 ∧ c6 ≤ 8 ∧ c7 ≤ 8) :
    sF (sE (sD (val [c0, c1, c2, c3, c4, c5, c6, c7]))) % 128 = c0 + c1 + c2 + c3 + c4 + c5 + c6 + c7 := by
  obtain ⟨h0, h1, h2, h3, h4, h5, h6, h7⟩ := h
  have q1 : val [c0, c1, c2, c3, c4, c5, c6, c7] / 256 = val [c1, c2, c3, c4, c5, c6, c7] := by
    rw [show val [c0, c1, c2, c3, c4, c5, c6, c7] = c0 + 256 * val [c1, c2, c3, c4, c5, c6, c7] from rfl]
    generalize val [c1, c2, c3, c4, c5, c6, c7] = y
    omega
  have d : sD (val [c0, c1, c2, c3, c4, c5, c6, c7]) = val [c0 + c1, c1 + c2, c2 + c3, c3 + c4, c4 + c5, c5 + c6, c6 + c7, c7] := by
    unfold sD
    rw [q1]
    simp only [val]
    omega
  rw [d]
  clear d q1
  have q2 : val [c0 + c1, c1 + c2, c2 + c3, c3 + c4, c4 + c5, c5 + c6, c6 + c7, c7] / 65536 = val [c2 + c3, c3 + c4, c4 + c5, c5 + c6, c6 + c7, c7] := by
    rw [show val [c0 + c1, c1 + c2, c2 + c3, c3 + c4, c4 + c5, c5 + c6, c6 + c7, c7] = (c0 + c1) + 256 * ((c1 + c2) + 256 * val [c2 + c3, c3 + c4, c4 + c5, c5 + c6, c6 + c7, c7]) from rfl]
    generalize val [c2 + c3, c3 + c4, c4 + c5, c5 + c6, c6 + c7, c7] = y
    omega
  have e : sE (val [c0 + c1, c1 + c2, c2 + c3, c3 + c4, c4 + c5, c5 + c6, c6 + c7, c7]) = val [c0 + c1 + (c2 + c3), c1 + c2 + (c3 + c4), c2 + c3 + (c4 + c5), c3 + c4 + (c5 + c6), c4 + c5 + (c6 + c7), c5 + c6 + c7, c6 + c7, c7] := by
    unfold sE
    rw [q2]
    simp only [val]
    omega
  rw [e]
  clear e q2
  have q3 : val [c0 + c1 + (c2 + c3), c1 + c2 + (c3 + c4), c2 + c3 + (c4 + c5), c3 + c4 + (c5 + c6), c4 + c5 + (c6 + c7), c5 + c6 + c7, c6 + c7, c7] / 4294967296 = val [c4 + c5 + (c6 + c7), c5 + c6 + c7, c6 + c7, c7] := by
    rw [show val [c0 + c1 + (c2 + c3), c1 + c2 + (c3 + c4), c2 + c3 + (c4 + c5), c3 + c4 + (c5 + c6), c4 + c5 + (c6 + c7), c5 + c6 + c7, c6 + c7, c7] = (c0 + c1 + (c2 + c3)) + 256 * ((c1 + c2 + (c3 + c4)) + 256 * ((c2 + c3 + (c4 + c5)) + 256 * ((c3 + c4 + (c5 + c6)) + 256 * val [c4 + c5 + (c6 + c7), c5 + c6 + c7, c6 + c7, c7]))) from rfl]
    generalize val [c4 + c5 + (c6 + c7), c5 + c6 + c7, c6 + c7, c7] = y
    omega
  unfold sF
  rw [q3]
  clear q3
  rw [show val [c0 + c1 + (c2 + c3), c1 + c2 + (c3 + c4), c2 + c3 + (c4 + c5), c3 + c4 + (c5 + c6), c4 + c5 + (c6 + c7), c5 + c6 + c7, c6 + c7, c7] = (c0 + c1 + (c2 + c3)) + 256 * val [c1 + c2 + (c3 + c4), c2 + c3 + (c4 + c5), c3 + c4 + (c5 + c6), c4 + c5 + (c6 + c7), c5 + c6 + c7, c6 + c7, c7] from rfl,
    show val [c4 + c5 + (c6 + c7), c5 + c6 + c7, c6 + c7, c7] = (c4 + c5 + (c6 + c7)) + 256 * val [c5 + c6 + c7, c6 + c7, c7] from rfl]
  generalize val [c1 + c2 + (c3 + c4), c2 + c3 + (c4 + c5), c3 + c4 + (c5 + c6), c4 + c5 + (c6 + c7), c5 + c6 + c7, c6 + c7, c7] = y
  generalize val [c5 + c6 + c7, c6 + c7, c7] = z
  omega

def cnt (n x : Nat) : Nat := ((List.range n).filter fun i => x.testBit i).length
theorem cnt_add (n b x : Nat) (hb : b < 256) : cnt (8 + n) (b + 256 * x) = pc8 b + cnt n x := by
  unfold cnt pc8
  rw [List.range_add, List.filter_append, List.length_append, List.filter_map, List.length_map]
  have e : b + 256 * x = 2 ^ 8 * x + b := by omega
  congr 2
  · refine List.filter_congr fun i hi => ?_
    have := List.mem_range.1 hi
    rw [e, Nat.testBit_two_pow_mul_add _ hb, if_pos this]
  · refine List.filter_congr fun i _ => ?_
    show (b + 256 * x).testBit (8 + i) = x.testBit i
    rw [e, Nat.testBit_two_pow_mul_add _ hb, if_neg (by omega), show 8 + i - 8 = i by omega]

theorem pop_bits (x : Nat) (h : x < 2 ^ 64) : popW x = (bitL x).length := by
  have hb := bytes_lt x
  have e0 := val_bytes x h
  have hp : ∀ y, y % 256 < 256 := fun y => Nat.mod_lt _ (by decide)
  have h8 : ∀ y, pc8 (y % 256) ≤ 8 := fun y => (byte_ok _ (hp y)).2.2.2.2
  unfold popW
  rw [sABC x h, map_len, sDEF _ _ _ _ _ _ _ _ ⟨h8 _, h8 _, h8 _, h8 _, h8 _, h8 _, h8 _, h8 _⟩]
  have el : (bitL x).length = cnt 64 (val (bytes x)) := by rw [e0]; rfl
  rw [el]
  unfold bytes
  simp only [val]
  rw [cnt_add 56 _ _ (hp _), cnt_add 48 _ _ (hp _), cnt_add 40 _ _ (hp _), cnt_add 32 _ _ (hp _), cnt_add 24 _ _ (hp _), cnt_add 16 _ _ (hp _), cnt_add 8 _ _ (hp _), cnt_add 0 _ _ (hp _)]
  simp only [show cnt 0 0 = 0 from rfl]
  omega
end Go.Proofs.YtafdijcolponjaaDoor

namespace Go.Proofs.YtafdijcolponjaaDoor
open Go.RowKit

theorem pop_core (x a1 a2 b1 b2 c r : Nat) (w : World)
    (h1 : bits .and .u64 ((x : Int) / 2) 6148914691236517205 = (a1 : Int)) (h2 : bits .and .u64 (x : Int) 6148914691236517205 = (a2 : Int)) (ha1 : (a1 : Int) ≤ 6148914691236517205) (ha2 : (a2 : Int) ≤ 6148914691236517205)
    (h3 : bits .and .u64 (((a1 : Int) + a2) / 4) 3689348814741910323 = (b1 : Int)) (h4 : bits .and .u64 ((a1 : Int) + a2) 3689348814741910323 = (b2 : Int)) (hb1 : (b1 : Int) ≤ 3689348814741910323) (hb2 : (b2 : Int) ≤ 3689348814741910323)
    (h5 : bits .and .u64 (((b1 : Int) + b2) / 16 + ((b1 : Int) + b2)) 1085102592571150095 = (c : Int)) (hc : (c : Int) ≤ 1085102592571150095)
    (h6 : bits .and .i64 ((c : Int) + c / 256 + (c + c / 256) / 65536 + (c + c / 256 + (c + c / 256) / 65536) / 4294967296) 127 = (r : Int)) :
    Calls Tryd.prog 86 #[.int .u64 x] w fun e w' => e = .returned (.int .i64 r) ∧ w = w' := by
  have p1 : (0 : Int) ≤ a1 := by omega
  have p2 : (0 : Int) ≤ a2 := by omega
  have p3 : (0 : Int) ≤ b1 := by omega
  have p4 : (0 : Int) ≤ b2 := by omega
  have p5 : (0 : Int) ≤ c := by omega
  have u1 : IntKind.u64.wrap ((a1 : Int) + a2) = (a1 : Int) + a2 := IntWalk.u64_in _ (by omega)
  have u2 : IntKind.u64.wrap ((b1 : Int) + b2) = (b1 : Int) + b2 := IntWalk.u64_in _ (by omega)
  have u3 : IntKind.u64.wrap (((b1 : Int) + b2) / 16 + ((b1 : Int) + b2)) = ((b1 : Int) + b2) / 16 + ((b1 : Int) + b2) := IntWalk.u64_in _ (by omega)
  have u4 : IntKind.u64.wrap ((c : Int) + c / 256) = (c : Int) + c / 256 := IntWalk.u64_in _ (by omega)
  have u5 : IntKind.u64.wrap ((c : Int) + c / 256 + (c + c / 256) / 65536) = (c : Int) + c / 256 + (c + c / 256) / 65536 := IntWalk.u64_in _ (by omega)
  have u6 : IntKind.u64.wrap ((c : Int) + c / 256 + (c + c / 256) / 65536 + (c + c / 256 + (c + c / 256) / 65536) / 4294967296) = (c : Int) + c / 256 + (c + c / 256) / 65536 + (c + c / 256 + (c + c / 256) / 65536) / 4294967296 := IntWalk.u64_in _ (by omega)
  have u7 : IntKind.i64.wrap ((c : Int) + c / 256 + (c + c / 256) / 65536 + (c + c / 256 + (c + c / 256) / 65536) / 4294967296) = (c : Int) + c / 256 + (c + c / 256) / 65536 + (c + c / 256 + (c + c / 256) / 65536) / 4294967296 := IntWalk.i64_in _ (by omega)
  clear ha1 ha2 hb1 hb2 hc p1 p2 p3 p4 p5
  go_enter Tryd.func86, Tryd.ntmps86
  go_wp2_with fail
  go_ret
  exact ⟨rfl, rfl⟩

theorem pop_any (x : Nat) (hx : x < 2 ^ 64) (w : World) :
    Calls Tryd.prog 86 #[.int .u64 x] w fun e w' => e = .returned (.int .i64 ((bitL x).length : Nat)) ∧ w = w' := by
  rw [← pop_bits x hx]
  have ha1 : x / 2 &&& 6148914691236517205 ≤ 6148914691236517205 := Nat.and_le_right
  have ha2 : x &&& 6148914691236517205 ≤ 6148914691236517205 := Nat.and_le_right
  have h1 : bits .and .u64 ((x : Int) / 2) 6148914691236517205 = ((x / 2 &&& 6148914691236517205 : Nat) : Int) := by
    rw [show (x : Int) / 2 = ((x / 2 : Nat) : Int) by omega]
    exact u64_and_nat _ _ (by omega) (by decide)
  have h2 : bits .and .u64 (x : Int) 6148914691236517205 = ((x &&& 6148914691236517205 : Nat) : Int) := u64_and_nat _ _ hx (by decide)
  unfold popW sA
  generalize x / 2 &&& 6148914691236517205 = a1 at *
  generalize x &&& 6148914691236517205 = a2 at *
  have hb1 : (a1 + a2) / 4 &&& 3689348814741910323 ≤ 3689348814741910323 := Nat.and_le_right
  have hb2 : (a1 + a2) &&& 3689348814741910323 ≤ 3689348814741910323 := Nat.and_le_right
  have h3 : bits .and .u64 (((a1 : Int) + a2) / 4) 3689348814741910323 = (((a1 + a2) / 4 &&& 3689348814741910323 : Nat) : Int) := by
    rw [show ((a1 : Int) + a2) / 4 = (((a1 + a2) / 4 : Nat) : Int) by omega]
    exact u64_and_nat _ _ (by omega) (by decide)
  have h4 : bits .and .u64 ((a1 : Int) + a2) 3689348814741910323 = (((a1 + a2) &&& 3689348814741910323 : Nat) : Int) := by
    rw [show ((a1 : Int) + a2) = ((a1 + a2 : Nat) : Int) by omega]
    exact u64_and_nat _ _ (by omega) (by decide)
  unfold sB
  generalize (a1 + a2) / 4 &&& 3689348814741910323 = b1 at *
  generalize (a1 + a2) &&& 3689348814741910323 = b2 at *
  have hc : ((b1 + b2) / 16 + (b1 + b2)) &&& 1085102592571150095 ≤ 1085102592571150095 := Nat.and_le_right
  have h5 : bits .and .u64 (((b1 : Int) + b2) / 16 + ((b1 : Int) + b2)) 1085102592571150095 = ((((b1 + b2) / 16 + (b1 + b2)) &&& 1085102592571150095 : Nat) : Int) := by
    rw [show ((b1 : Int) + b2) / 16 + ((b1 : Int) + b2) = (((b1 + b2) / 16 + (b1 + b2) : Nat) : Int) by omega]
    exact u64_and_nat _ _ (by omega) (by decide)
  unfold sC
  generalize ((b1 + b2) / 16 + (b1 + b2)) &&& 1085102592571150095 = c at *
  refine pop_core x a1 a2 b1 b2 c _ w h1 h2 (by omega) (by omega) h3 h4 (by omega) (by omega) h5 (by omega) ?_
  unfold sF sE sD
  have e : (c : Int) + c / 256 + (c + c / 256) / 65536 + (c + c / 256 + (c + c / 256) / 65536) / 4294967296 = ((c + c / 256 + (c + c / 256) / 65536 + (c + c / 256 + (c + c / 256) / 65536) / 4294967296 : Nat) : Int) := by omega
  rw [e]
  generalize c + c / 256 + (c + c / 256) / 65536 + (c + c / 256 + (c + c / 256) / 65536) / 4294967296 = z at *
  rw [i64_and127]
  omega

def LenRel (w : World) (ws : List Nat) (n i : Value) (wr : World) : Prop :=
  ∃ k : Nat, k ≤ 8 ∧ i = .int .i64 k ∧ n = .int .i64 ((preL ws k).length : Nat) ∧ w = wr

theorem len_any (b : Nat) (ws : List Nat) (w : World) (h : SetAt w b ws) :
    Calls Tryd.prog 36 #[.pointer (some ⟨b, 0, none⟩)] w fun e w' => e = .returned (.int .i64 ((preL ws 8).length : Nat)) ∧ w = w' := by
  have hr := set_range h
  obtain ⟨h1, h2, h3⟩ := h
  have hsz : (words ws).toList.length = 8 := by simp [words, h2]
  have HP := Lib.hid (fun (k : Nat) => pop_any (ws.getD k 0) (getD_lt h3 k) w)
  have HN := Lib.hid (fun (j : Nat) (hj : j < 8) => words_nth ws (i := j) (by omega))
  have HR := Lib.hid hr
  have HI := Lib.hid (by rw [hsz]; exact infoWords : (Tryd.prog.info? 99).map (·.size) = some (words ws).toList.length)
  clear h1 h2 h3 hr hsz
  go_enter Tryd.func36, Tryd.ntmps36
  go_wp2_with (first | (refine wpList_load_mid rfl 99 _ rfl b 0 rfl (words ws).toList _ HR.out Tryd.underlying99 rfl HI.out ?_) | fail)
  go_loopw [3, 12] (fun n i wr => LenRel w ws n i wr) (fun _ i _ => 8 - (intOf i).toNat)
  case atStart => exact ⟨0, by omega, rfl, rfl, rfl⟩
  case round =>
    obtain ⟨k, hk, rfl, rfl, rfl⟩ := hrel
    by_cases hlt : k < 8
    · have hn := HN.out k hlt
      have hp := HP.out k
      have hl1 := preL_len ws k
      have hl2 := bitL_len (ws.getD k 0)
      have hs : (preL ws (k + 1)).length = (preL ws k).length + (bitL (ws.getD k 0)).length := by rw [preL_succ, List.length_append, List.length_map]
      generalize ws.getD k 0 = x at *
      have HS := Lib.hid hs
      have HP2 := Lib.hid hp
      clear hs hp HP
      generalize words ws = cs at *
      generalize (preL ws k).length = p at *
      generalize (bitL x).length = q at *
      have e0 : (0 : Int) ≤ (p : Int) := by omega
      have e1 : (p : Int) ≤ 512 := by omega
      have e2 : (0 : Int) ≤ (q : Int) := by omega
      have e3 : (q : Int) ≤ 64 := by omega
      have hq0 : (0 : Int) ≤ (k : Int) := by omega
      have hq1 : (k : Int) < 8 := by omega
      clear hl1 hl2
      go_wp2_with (first | (refine wpList_index_one rfl 99 _ _ rfl 98 8 _ _ k _ rfl rfl Tryd.underlying99 Tryd.underlying98 rfl infoWord hlt hn ?_) | fail)
      go_fit HP2.out
      rintro e w' ⟨rfl, rfl⟩
      go_wp2_with fail
      go_roundw
      case rel => exact ⟨k + 1, by omega, by go_num, by rw [HS.out]; go_num, rfl⟩
      case measure => simp [intOf]; omega
    · obtain rfl : k = 8 := by omega
      go_wp2_with fail
      go_ret
      exact ⟨rfl, rfl⟩
end Go.Proofs.YtafdijcolponjaaDoor
