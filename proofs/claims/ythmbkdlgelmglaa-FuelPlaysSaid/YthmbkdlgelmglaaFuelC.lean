/- FuelMore's walk: what is left and what was used are the limit, and with a greater limit what went goes. No condition. -/
import Derived.Test.YthmbkdlgelmglaaFuelB
import Derived.OpenShut
namespace Go.Proofs.Ythmbkdlgelmglaa
open Go.RowKit

/-- What two stores, the second at least as great, stand in after any takings. -/
structure Pair (l m : Int) (s t : FS) : Prop where
  s0 : 0 ≤ s.left
  s1 : 0 ≤ s.used
  ss : s.left + s.used = l
  t0 : 0 ≤ t.left
  t1 : 0 ≤ t.used
  ts : t.left + t.used = m
  le : s.spent = false → s.left ≤ t.left
  sp : s.spent = false → t.spent = false

theorem takeF_sp {s : FS} {n : Int} (h : 0 ≤ n) (hs : s.spent = true) : takeF s n = (13, s) := by
  unfold takeF; rw [if_neg (show ¬ n < 0 by omega), if_pos hs]
theorem takeF_ov {s : FS} {n : Int} (h : 0 ≤ n) (hs : s.spent = false) (hl : s.left < n) : takeF s n = (13, ⟨0, s.used + s.left, true⟩) := by
  unfold takeF; rw [if_neg (show ¬ n < 0 by omega), if_neg (show ¬ s.spent = true by simp [hs]), if_pos hl]
theorem takeF_go {s : FS} {n : Int} (h : 0 ≤ n) (hs : s.spent = false) (hl : n ≤ s.left) : takeF s n = (0, ⟨s.left - n, s.used + n, s.spent⟩) := by
  unfold takeF; rw [if_neg (show ¬ n < 0 by omega), if_neg (show ¬ s.spent = true by simp [hs]), if_neg (show ¬ s.left < n by omega)]

theorem Pair.step {l m : Int} {s t : FS} (h : Pair l m s t) {n : Int} (hn : 0 ≤ n) :
    Pair l m (takeF s n).2 (takeF t n).2 ∧ ((takeF s n).1 = 0 → (takeF t n).1 = 0) := by
  obtain ⟨s0, s1, ss, t0, t1, ts, le, sp⟩ := h
  cases hs : s.spent with
  | true =>
    rw [takeF_sp hn hs]
    refine ⟨?_, fun e => absurd e (by simp)⟩
    cases ht : t.spent with
    | true => rw [takeF_sp hn ht]; exact ⟨s0, s1, ss, t0, t1, ts, le, sp⟩
    | false =>
      by_cases hl : t.left < n
      · rw [takeF_ov hn ht hl]; exact ⟨s0, s1, ss, Int.le_refl 0, by simp only; omega, by simp only; omega, by simp [hs], by simp [hs]⟩
      · rw [takeF_go hn ht (by omega)]; exact ⟨s0, s1, ss, by simp only; omega, by simp only; omega, by simp only; omega, by simp [hs], by simp [hs]⟩
  | false =>
    have ht := sp hs
    have hle := le hs
    by_cases hl : s.left < n
    · rw [takeF_ov hn hs hl]
      refine ⟨?_, fun e => absurd e (by simp)⟩
      by_cases hl2 : t.left < n
      · rw [takeF_ov hn ht hl2]; exact ⟨Int.le_refl 0, by simp only; omega, by simp only; omega, Int.le_refl 0, by simp only; omega, by simp only; omega, by simp, by simp⟩
      · rw [takeF_go hn ht (by omega)]; exact ⟨Int.le_refl 0, by simp only; omega, by simp only; omega, by simp only; omega, by simp only; omega, by simp only; omega, by simp, by simp⟩
    · rw [takeF_go hn hs (by omega), takeF_go hn ht (by omega)]
      exact ⟨⟨by simp only; omega, by simp only; omega, by simp only; omega, by simp only; omega, by simp only; omega, by simp only; omega, fun _ => by simp only; omega, fun _ => ht⟩, fun _ => rfl⟩

theorem Pair.oks {l m : Int} {s t : FS} (h : Pair l m s t) (hl : l ≤ 131070) (hm : m ≤ 131070) : s.ok ∧ t.ok := by
  obtain ⟨s0, s1, ss, t0, t1, ts, le, sp⟩ := h
  exact ⟨⟨s0, s1, by omega⟩, ⟨t0, t1, by omega⟩⟩

/-- A cell of a row that came in, at a plain address. -/
theorem IsRow.at {k : IntKind} {w : World} {a : Option Addr} {len cap : Nat} {zs : List Int} (h : IsRow k w a len cap zs) {i : Nat} (hi : i < len) :
    ∃ b o, a = some ⟨b, o, none⟩ ∧ w.cell? ⟨b, o + i, none⟩ = some (.int k (zs.getD i 0)) ∧ (Lit.int k (zs.getD i 0)).wf = true ∧ len ≤ cap ∧ cap ≤ maxLen ∧ b < w.heap.size := by
  rcases h with ⟨rfl, rfl, rfl, rfl⟩ | ⟨x, rfl, hl, hm, hz, hc, hw⟩
  · omega
  · obtain ⟨b, off, rfl, hc'⟩ := ints_at hc (by omega)
    refine ⟨b, off, rfl, hc' i (by omega), ?_, hl, hm, World.block_lt_of_cell? w _ (hc' i (by omega))⟩
    rw [List.getD_eq_getElem?_getD, List.getElem?_eq_getElem (by omega)]
    exact hw _ (List.getElem_mem _)
theorem IsRow.len_le {k : IntKind} {w : World} {a : Option Addr} {len cap : Nat} {zs : List Int} (h : IsRow k w a len cap zs) : len ≤ cap ∧ cap ≤ 9223372036854775807 := by
  rcases h with ⟨rfl, rfl, rfl, rfl⟩ | ⟨x, rfl, hl, hm, hz, hc, hw⟩
  · exact ⟨Nat.le_refl _, by omega⟩
  · exact ⟨hl, by unfold maxLen at hm; omega⟩

def MoreRel (w : World) (f g len : Nat) (l m : Int) (i : Value) (wr : World) : Prop :=
  ∃ (k : Nat) (s t : FS), k ≤ len ∧ k ≤ 60 ∧ i = .int .i64 k ∧ FuelAt wr f s ∧ FuelAt wr g t ∧ Pair l m s t ∧ Below w.heap.size w wr ∧ f < wr.heap.size ∧ g < wr.heap.size

set_option maxHeartbeats 1000000 in
theorem more_any (a0 a1 : Int) (a2 : Option Addr) (len cap : Nat) (zs : List Int) (w : World) (w0 : (Lit.int .u16 a0).wf = true) (w1 : (Lit.int .u16 a1).wf = true) (w2 : IsRow .u8 w a2 len cap zs) :
    Calls Try.prog 4 #[.int .u16 a0, .int .u16 a1, .slice a2 len cap] w fun e w' => e = .returned (.bool true) ∧ Below w.heap.size w w' := by
  obtain ⟨b0l, b0h⟩ := bounds_u16 w0
  obtain ⟨b1l, b1h⟩ := bounds_u16 w1
  obtain ⟨hlen, hcap⟩ := w2.len_le
  go_enter Try.func4, Try.ntmps4
  go_wp2_with fail
  refine (new_ok _ _ (by omega)).mono ?_
  rintro e w3 ⟨rfl, h1⟩
  have hF : FuelAt w3 w.heap.size ⟨a0, 0, false⟩ := by subst h1; exact heap_new _ _
  have hB1 : Below w.heap.size w w3 := by subst h1; exact (Below.refl _ _).alloc (Nat.le_refl _) _
  have hS1 : w.heap.size < w3.heap.size := by subst h1; simp
  clear h1
  go_wp2_with fail
  refine (new_ok _ _ (by omega)).mono ?_
  rintro e w4 ⟨rfl, h1⟩
  have hG : FuelAt w4 w3.heap.size ⟨a0 + a1, 0, false⟩ := by subst h1; exact heap_new _ _
  have hF4 : FuelAt w4 w.heap.size ⟨a0, 0, false⟩ := by subst h1; exact (heap_alloc_lt hS1).trans hF
  have hB4 : Below w.heap.size w w4 := by subst h1; exact hB1.alloc (by omega) _
  have hS4 : w3.heap.size < w4.heap.size := by subst h1; simp
  clear h1 hF hB1
  generalize w3.heap.size = g at *
  clear w3
  go_wp2_with fail
  refine (works_any _).mono ?_
  rintro e w5 ⟨rfl, hB5⟩
  have hF5 : FuelAt w5 w.heap.size ⟨a0, 0, false⟩ := (hB5.block _ (by omega)).trans hF4
  have hG5 : FuelAt w5 g ⟨a0 + a1, 0, false⟩ := (hB5.block _ (by omega)).trans hG
  have hS5 : g < w5.heap.size := by have := hB5.size; omega
  replace hB5 : Below w.heap.size w w5 := hB4.trans (hB5.mono (by omega))
  clear hF4 hG hB4 hS4 w4
  go_wp2_with fail
  go_loopw [11] (fun i wr => MoreRel w w.heap.size g len a0 (a0 + a1) i wr) (fun i _ => len - (intOf i).toNat)
  case atStart => exact ⟨0, _, _, Nat.zero_le _, by omega, rfl, hF5, hG5, ⟨b0l, by simp, by simp, by simp only; omega, by simp, by simp, fun _ => by simp only; omega, fun _ => rfl⟩, hB5, by omega, hS5⟩
  case round =>
    clear hF5 hG5 hB5 hS5 w5
    obtain ⟨k, s, t, hk, hk6, rfl, hFs, hGt, hP, hBr, hfr, hgr⟩ := hrel
    by_cases hlt : k < len
    · by_cases hlt6 : k < 60
      · obtain ⟨xb, xo, rfl, hc, hw, _, _, hxb⟩ := w2.at hlt
        generalize zs.getD k 0 = v at hc hw
        obtain ⟨v0, v255⟩ := bounds_u8 hw
        have hcr := (hBr.cell (p := ⟨xb, xo + k, none⟩) hxb).trans hc
        clear hc hw
        go_wp2_with fail
        obtain ⟨hPs, hPt⟩ := hP.oks (by omega) (by omega)
        have hk0 : (0 : Int) ≤ (k : Int) := Int.natCast_nonneg _
        have hk1 : (k : Int) < (len : Int) := by omega
        have hne : ¬ g = w.heap.size := by omega
        have hFs' : FuelAt wr.drew w.heap.size s := hFs
        have hwv : IntKind.i64.wrap v = v := IntWalk.i64_in _ (by omega)
        go_region_held3 (fun w' => w'.cell? ⟨xb, xo + k, none⟩ = some (.int .u8 v))
          (first
            | assumption
            | go_keep)
          ((first
            | ((with_reducible refine (take_any w.heap.size s _ _ hFs' hPs).mono ?_)
               rintro e w6 ⟨rfl, hF6, hC6⟩
               replace hC6 := hC6.undrew
               have hs6 := hC6.size
               have hG6 : FuelAt w6 g t := (hC6.block g hgr (by omega)).trans hGt
               have hc6 : w6.cell? ⟨xb, xo + k, none⟩ = some (.int .u8 v) := (World.cell?_of_block (hC6.block xb (by have := hBr.size; omega) (by omega))).trans hcr)
            | ((with_reducible refine (take_any g t _ _ hG6 hPt).mono ?_)
               rintro e w7 ⟨rfl, hG7, hC7⟩
               have hs7 := hC7.size
               have hF7 : FuelAt w7 w.heap.size (takeF s v).2 := (hC7.block w.heap.size (by omega) (by omega)).trans hF6
               have hc7 : w7.cell? ⟨xb, xo + k, none⟩ = some (.int .u8 v) := (World.cell?_of_block (hC7.block xb (by have := hBr.size; omega) (by omega))).trans hc6)
            | fail))
        obtain ⟨hP', himp⟩ := hP.step v0
        have hsum1 := hP'.ss
        have hsum2 := hP'.ts
        have hq0 := hP'.s0
        have hq1 := hP'.s1
        have hq2 := hP'.t0
        have hq3 := hP'.t1
        have hB7 : Below w.heap.size w w7 := (hBr.trans (below_of_chg hC6 (Nat.le_refl _) (by omega))).trans (below_of_chg hC7 (by omega) (by omega))
        generalize takeF s v = r1 at *
        generalize takeF t v = r2 at *
        obtain ⟨e1, s'⟩ := r1
        obtain ⟨e2, t'⟩ := r2
        simp only at *
        clear hC6 hC7 hF6 hG6 hc6 hcr hFs hFs' hGt hPs hPt hP hwv
        have hs1 : ((s'.left + s'.used : Int) != a0) = false := by simp [hsum1]
        have hs2 : ((t'.left + t'.used : Int) != a0 + a1) = false := by simp [hsum2]
        have hu1 : s'.left + s'.used ≤ 131070 := by omega
        have hu2 : t'.left + t'.used ≤ 131070 := by omega
        have H1 := Lib.hid hsum1
        have H2 := Lib.hid hsum2
        clear hsum1 hsum2
        by_cases he1 : e1 = 0
        · have he2 := himp he1
          subst he1 he2
          clear himp
          go_wp2_with fail
          refine (left_any _ _ _ hF7).mono ?_
          rintro e w' ⟨rfl, rfl⟩
          go_wp2_with fail
          refine (used_any _ _ _ hF7).mono ?_
          rintro e w' ⟨rfl, rfl⟩
          go_wp2_with fail
          refine (left_any _ _ _ hG7).mono ?_
          rintro e w' ⟨rfl, rfl⟩
          go_wp2_with fail
          refine (used_any _ _ _ hG7).mono ?_
          rintro e w' ⟨rfl, rfl⟩
          go_wp2_with fail
          go_roundw
          case rel => exact ⟨k + 1, s', t', by omega, by omega, by go_num, hF7, hG7, hP', hB7, by omega, by omega⟩
          case measure => simp [intOf]; omega
        · have hb1 : (e1 == 0) = false := by simpa using he1
          clear himp he1
          go_wp2_with fail
          refine (left_any _ _ _ hF7).mono ?_
          rintro e w' ⟨rfl, rfl⟩
          go_wp2_with fail
          refine (used_any _ _ _ hF7).mono ?_
          rintro e w' ⟨rfl, rfl⟩
          go_wp2_with fail
          refine (left_any _ _ _ hG7).mono ?_
          rintro e w' ⟨rfl, rfl⟩
          go_wp2_with fail
          refine (used_any _ _ _ hG7).mono ?_
          rintro e w' ⟨rfl, rfl⟩
          go_wp2_with fail
          go_roundw
          case rel => exact ⟨k + 1, s', t', by omega, by omega, by go_num, hF7, hG7, hP', hB7, by omega, by omega⟩
          case measure => simp [intOf]; omega
      · go_wp2_with fail
        go_ret
        exact ⟨rfl, hBr⟩
    · go_wp2_with fail
      go_ret
      exact ⟨rfl, hBr⟩
end Go.Proofs.Ythmbkdlgelmglaa
