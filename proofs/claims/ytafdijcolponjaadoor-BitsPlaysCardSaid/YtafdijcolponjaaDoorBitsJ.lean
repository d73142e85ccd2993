/- BitsMeets answers true, whatever comes in, where the table lies. No condition but those in each statement. -/
import Derived.Test.YtafdijcolponjaaDoorBitsI
namespace Go.Proofs.YtafdijcolponjaaDoor
open Go.RowKit

def meetsW (x y : List Nat) : Bool := (List.range 8).any fun i => decide ((x.getD i 0 &&& y.getD i 0) ≠ 0)
def inSet (ws : List Nat) : Prop := ∀ m, 500 ≤ m → mem ws m = false

theorem newW_in (l : List Int) : inSet (newW l) := by
  intro m hm
  unfold newW
  have hz : mem [0, 0, 0, 0, 0, 0, 0, 0] m = false := mem_W0 m
  have h8 : ([0, 0, 0, 0, 0, 0, 0, 0] : List Nat).length = 8 := rfl
  generalize [0, 0, 0, 0, 0, 0, 0, 0] = z at *
  induction l generalizing z with
  | nil => exact hz
  | cons x l ih =>
    refine ih _ ?_ ?_
    · unfold put1
      split
      · rename_i hx
        rw [mem_put (by omega), hz, decide_eq_false (by omega)]; rfl
      · exact hz
    · unfold put1
      split
      · simp [putW, h8]
      · exact h8

theorem meetsW_eq (x y : List Nat) (hx : inSet x) (bx : ∀ a ∈ x, a < 2 ^ 64) : meetsW x y = meetsB x y := by
  rw [Bool.eq_iff_iff]
  unfold meetsW meetsB
  simp only [List.any_eq_true, List.mem_range, decide_eq_true_eq, Bool.and_eq_true]
  constructor
  · rintro ⟨i, hi, h⟩
    obtain ⟨b, hb⟩ := Nat.exists_testBit_of_ne_zero h
    rw [Nat.testBit_and, Bool.and_eq_true] at hb
    have hlt : b < 64 := by
      rcases Nat.lt_or_ge b 64 with g | g
      · exact g
      · have := Nat.testBit_lt_two_pow (Nat.lt_of_lt_of_le (getD_lt bx i) (Nat.pow_le_pow_right (by decide) g))
        rw [this] at hb
        cases hb.1
    have e1 : (i * 64 + b) / 64 = i := by omega
    have e2 : (i * 64 + b) % 64 = b := by omega
    have m1 : mem x (i * 64 + b) = true := by unfold mem; rw [e1, e2]; exact hb.1
    have m2 : mem y (i * 64 + b) = true := by unfold mem; rw [e1, e2]; exact hb.2
    refine ⟨i * 64 + b, ?_, m1, m2⟩
    rcases Nat.lt_or_ge (i * 64 + b) 500 with g | g
    · exact g
    · rw [hx _ g] at m1; cases m1
  · rintro ⟨n, hn, h1, h2⟩
    refine ⟨n / 64, by omega, fun h0 => ?_⟩
    unfold mem at h1 h2
    have := Nat.testBit_and (x.getD (n / 64) 0) (y.getD (n / 64) 0) (n % 64)
    rw [h0, h1, h2] at this
    simp at this
theorem meetsB_comm (x y : List Nat) : meetsB x y = meetsB y x := by
  unfold meetsB
  congr 1
  funext i
  exact Bool.and_comm _ _

def MeetsRel (x y : List Nat) (W : World) (i : Value) (wr : World) : Prop :=
  ∃ k : Nat, k ≤ 8 ∧ i = .int .i64 k ∧ (∀ j, j < k → (x.getD j 0 &&& y.getD j 0) = 0) ∧ W = wr

set_option maxRecDepth 20000 in
theorem meets_any (a b : Nat) (x y : List Nat) (w : World) (hx : SetAt w a x) (hy : SetAt w b y) :
    Calls Tryd.prog 27 #[.pointer (some ⟨a, 0, none⟩), .pointer (some ⟨b, 0, none⟩)] w fun e w' => e = .returned (.bool (meetsW x y)) ∧ w = w' := by
  have hr := set_range hy
  obtain ⟨x1, x2, x3⟩ := hx
  obtain ⟨y1, y2, y3⟩ := hy
  have hsz : (words y).toList.length = 8 := by simp [words, y2]
  have HX := Lib.hid (fun (i : Nat) (h : i < 8) => cell_at i x1 (words_nth x (i := i) (by omega)))
  have HN := Lib.hid (fun (j : Nat) (hj : j < 8) => words_nth y (i := j) (by omega))
  have HX3 := Lib.hid x3
  have HY3 := Lib.hid y3
  have HR := Lib.hid hr
  have HI := Lib.hid (by rw [hsz]; exact infoWords : (Tryd.prog.info? 99).map (·.size) = some (words y).toList.length)
  clear x1 x2 x3 y1 y2 y3 hr hsz
  go_enter Tryd.func27, Tryd.ntmps27
  go_wp2_with (first | (refine wpList_load_mid rfl 99 _ rfl b 0 rfl (words y).toList _ HR.out Tryd.underlying99 rfl HI.out ?_) | fail)
  go_loopw [17] (fun i wr => MeetsRel x y w i wr) (fun i _ => 8 - (intOf i).toNat)
  case atStart => exact ⟨0, by omega, rfl, fun j hj => by omega, rfl⟩
  case round =>
    obtain ⟨k, hk, rfl, hall, rfl⟩ := hrel
    have HALL := Lib.hid hall
    clear hall
    by_cases hlt : k < 8
    · have hn := HN.out k hlt
      have c1 := HX.out k hlt
      have bx := getD_lt HX3.out k
      have by' := getD_lt HY3.out k
      have hand : bits .and .u64 ((x.getD k 0 : Nat) : Int) ((y.getD k 0 : Nat) : Int) = ((x.getD k 0 &&& y.getD k 0 : Nat) : Int) := u64_and_nat _ _ bx by'
      have hk0 : (0 : Int) ≤ (k : Int) := by omega
      have hk1 : (k : Int) < 8 := by omega
      have HE : Hid (∀ u v z : Nat, x.getD k 0 = u → y.getD k 0 = v → u &&& v = z → (x.getD k 0 &&& y.getD k 0) = z) := fun u v z h1 h2 h3 => by rw [h1, h2, h3]
      generalize hu : x.getD k 0 = u at c1 hand
      generalize hv : y.getD k 0 = v at hn hand
      generalize hz : u &&& v = z at hand
      have hxy := HE.out u v z hu hv hz
      have HXY := Lib.hid hxy
      clear HE hu hv hz hxy bx by'
      generalize words y = cs at *
      by_cases h0 : z = 0
      · subst h0
        go_wp2_with (first | (refine wpList_index_one rfl 99 _ _ rfl 98 8 _ _ k _ rfl rfl Tryd.underlying99 Tryd.underlying98 rfl infoWord hlt hn ?_) | fail)
        go_roundw
        case rel =>
          refine ⟨k + 1, hlt, by go_num, fun j hj => ?_, rfl⟩
          rcases Nat.lt_or_ge j k with g | g
          · exact HALL.out j g
          · obtain rfl : j = k := by omega
            exact HXY.out
        case measure => simp [intOf]; omega
      · have hne : ¬ ((z : Int) = 0) := by omega
        have HZ := Lib.hid h0
        clear h0
        go_wp2_with (first | (refine wpList_index_one rfl 99 _ _ rfl 98 8 _ _ k _ rfl rfl Tryd.underlying99 Tryd.underlying98 rfl infoWord hlt hn ?_) | fail)
        go_ret
        refine ⟨ret_bool ?_, rfl⟩
        exact (List.any_eq_true.2 ⟨k, List.mem_range.2 hlt, decide_eq_true (by rw [HXY.out]; exact HZ.out)⟩).symm
    · obtain rfl : k = 8 := by omega
      go_wp2_with fail
      go_ret
      refine ⟨ret_bool ?_, rfl⟩
      refine (List.any_eq_false.2 fun j hj => ?_).symm
      rw [HALL.out j (List.mem_range.1 hj)]
      simp

theorem SetAt.below {w w' : World} {b : Nat} {ws : List Nat} (h : SetAt w b ws) {B : Nat} (hb : Below B w w') (hB : b < B) : SetAt w' b ws :=
  ⟨(hb.block b hB).trans h.1, h.2⟩
end Go.Proofs.YtafdijcolponjaaDoor
