/- How many bits a word has, as the library reckons it. Plain Lean, no program is walked here; no condition but those in each statement. -/
import Derived.Test.YtafdijcolponjaaDoorBitsC
namespace Go.Proofs.YtafdijcolponjaaDoor

def val : List Nat → Nat
  | [] => 0
  | b :: l => b + 256 * val l

theorem val_and (k m : Nat) (hk : k < 8) (hm : m < 2 ^ (8 - k)) : ∀ l : List Nat, (∀ b ∈ l, b < 256) →
    (val l >>> k) &&& val (l.map fun _ => m) = val (l.map fun b => (b >>> k) &&& m)
  | [], _ => by simp [val]
  | b :: l, h => by
    have hb : b < 2 ^ 8 := h b (by simp)
    have ih := val_and k m hk hm l (fun c hc => h c (by simp [hc]))
    have hm8 : m < 2 ^ 8 := Nat.lt_of_lt_of_le hm (Nat.pow_le_pow_right (by decide) (by omega))
    have hbm : (b >>> k) &&& m < 2 ^ 8 := Nat.lt_of_le_of_lt Nat.and_le_right hm8
    simp only [List.map_cons, val]
    rw [← ih]
    generalize val l = x
    generalize val (l.map fun _ => m) = r
    refine Nat.eq_of_testBit_eq fun i => ?_
    have e1 : b + 256 * x = 2 ^ 8 * x + b := by omega
    have e2 : m + 256 * r = 2 ^ 8 * r + m := by omega
    have e3 : (b >>> k &&& m) + 256 * (x >>> k &&& r) = 2 ^ 8 * (x >>> k &&& r) + (b >>> k &&& m) := by omega
    rw [e1, e2, e3, Nat.testBit_and, Nat.testBit_shiftRight, Nat.testBit_two_pow_mul_add _ hb, Nat.testBit_two_pow_mul_add _ hm8, Nat.testBit_two_pow_mul_add _ hbm]
    by_cases hi : i < 8
    · simp only [hi, if_true, Nat.testBit_and, Nat.testBit_shiftRight]
      by_cases hki : k + i < 8
      · simp [hki]
      · have : m.testBit i = false := Nat.testBit_lt_two_pow (Nat.lt_of_lt_of_le hm (Nat.pow_le_pow_right (by decide) (by omega)))
        simp [this]
    · have hki : ¬ k + i < 8 := by omega
      simp only [hi, hki, if_false, Nat.testBit_and, Nat.testBit_shiftRight]
      rw [show k + i - 8 = k + (i - 8) by omega]

theorem val_add (f g : Nat → Nat) : ∀ l : List Nat, val (l.map f) + val (l.map g) = val (l.map fun b => f b + g b)
  | [] => rfl
  | b :: l => by
    have := val_add f g l
    simp only [List.map_cons, val]
    omega

theorem val_nib : ∀ l : List Nat, (∀ b ∈ l, b % 16 ≤ 4 ∧ b / 16 ≤ 4) →
    (val l / 16 + val l) &&& val (l.map fun _ => 15) = val (l.map fun b => (b / 16 + b) % 16)
  | [], _ => by simp [val]
  | b :: l, h => by
    have hb := h b (by simp)
    have ih := val_nib l (fun c hc => h c (by simp [hc]))
    simp only [List.map_cons, val]
    rw [← ih]
    have hx : val l % 16 ≤ 4 := by
      cases l with
      | nil => simp [val]
      | cons c l => have := h c (by simp); simp only [val]; omega
    generalize val l = x at *
    generalize val (l.map fun _ => 15) = r
    have e1 : (b + 256 * x) / 16 + (b + 256 * x) = 2 ^ 8 * (x / 16 + x) + (b / 16 + b + 16 * (x % 16)) := by omega
    have hl : b / 16 + b + 16 * (x % 16) < 2 ^ 8 := by omega
    have e2 : 15 + 256 * r = 2 ^ 8 * r + 15 := by omega
    have e4 : (b / 16 + b) % 16 = (b / 16 + b + 16 * (x % 16)) &&& 15 := by
      rw [show (15 : Nat) = 2 ^ 4 - 1 from rfl, Nat.and_two_pow_sub_one_eq_mod]
      omega
    have e3 : (b / 16 + b) % 16 + 256 * ((x / 16 + x) &&& r) = 2 ^ 8 * ((x / 16 + x) &&& r) + ((b / 16 + b + 16 * (x % 16)) &&& 15) := by omega
    rw [e1, e2, e3]
    have hl2 : (b / 16 + b + 16 * (x % 16)) &&& 15 < 2 ^ 8 := by omega
    refine Nat.eq_of_testBit_eq fun i => ?_
    rw [Nat.testBit_and, Nat.testBit_two_pow_mul_add _ hl, Nat.testBit_two_pow_mul_add _ (by decide), Nat.testBit_two_pow_mul_add _ hl2]
    by_cases hi : i < 8
    · simp only [hi, if_true, Nat.testBit_and]
    · simp only [hi, if_false, Nat.testBit_and]

def sA (x : Nat) : Nat := (x / 2 &&& 6148914691236517205) + (x &&& 6148914691236517205)
def sB (x : Nat) : Nat := (x / 4 &&& 3689348814741910323) + (x &&& 3689348814741910323)
def sC (x : Nat) : Nat := (x / 16 + x) &&& 1085102592571150095
def sD (x : Nat) : Nat := x + x / 256
def sE (x : Nat) : Nat := x + x / 65536
def sF (x : Nat) : Nat := x + x / 4294967296
def popW (x : Nat) : Nat := sF (sE (sD (sC (sB (sA x))))) % 128

def bytes (x : Nat) : List Nat := [x % 256, x / 256 % 256, x / 65536 % 256, x / 16777216 % 256, x / 4294967296 % 256, x / 1099511627776 % 256, x / 281474976710656 % 256, x / 72057594037927936 % 256]
theorem val_bytes (x : Nat) (h : x < 2 ^ 64) : val (bytes x) = x := by
  simp only [bytes, val]
  omega
theorem bytes_lt (x : Nat) : ∀ b ∈ bytes x, b < 256 := by
  intro b hb
  simp only [bytes, List.mem_cons, List.not_mem_nil, or_false] at hb
  omega

def gA (b : Nat) : Nat := (b >>> 1 &&& 85) + (b >>> 0 &&& 85)
def gB (b : Nat) : Nat := (b >>> 2 &&& 51) + (b >>> 0 &&& 51)
def gC (b : Nat) : Nat := (b / 16 + b) % 16

def pc8 (b : Nat) : Nat := ((List.range 8).filter fun i => b.testBit i).length
theorem byte_ok : ∀ b, b < 256 → gA b < 256 ∧ gB (gA b) < 256 ∧ (gB (gA b) % 16 ≤ 4 ∧ gB (gA b) / 16 ≤ 4) ∧ gC (gB (gA b)) = pc8 b ∧ pc8 b ≤ 8 := by decide +kernel

theorem map_len {f : Nat → Nat} (x : Nat) : (bytes x).map f = [f (x % 256), f (x / 256 % 256), f (x / 65536 % 256), f (x / 16777216 % 256), f (x / 4294967296 % 256), f (x / 1099511627776 % 256), f (x / 281474976710656 % 256), f (x / 72057594037927936 % 256)] := rfl

theorem sABC (x : Nat) (h : x < 2 ^ 64) : sC (sB (sA x)) = val ((bytes x).map pc8) := by
  have hb := bytes_lt x
  have e0 := val_bytes x h
  have m1 : val ((bytes x).map fun _ => 85) = 6148914691236517205 := by simp [map_len, val]
  have eA : sA x = val ((bytes x).map gA) := by
    have a1 := val_and 1 85 (by decide) (by decide) (bytes x) hb
    have a2 := val_and 0 85 (by decide) (by decide) (bytes x) hb
    rw [e0, m1] at a1 a2
    rw [Nat.shiftRight_eq_div_pow] at a1 a2
    simp only [Nat.pow_one, Nat.pow_zero, Nat.div_one] at a1 a2
    unfold sA
    rw [a1, a2, val_add]
    rfl
  have hbA : ∀ b ∈ (bytes x).map gA, b < 256 := by
    intro b hb'
    obtain ⟨c, hc, rfl⟩ := List.mem_map.1 hb'
    exact (byte_ok c (hb c hc)).1
  have m2 : val (((bytes x).map gA).map fun _ => 51) = 3689348814741910323 := by simp [map_len, val]
  have eB : sB (sA x) = val ((bytes x).map fun b => gB (gA b)) := by
    have a1 := val_and 2 51 (by decide) (by decide) ((bytes x).map gA) hbA
    have a2 := val_and 0 51 (by decide) (by decide) ((bytes x).map gA) hbA
    rw [← eA, m2] at a1 a2
    rw [Nat.shiftRight_eq_div_pow] at a1 a2
    simp only [Nat.reducePow, Nat.div_one] at a1 a2
    unfold sB
    rw [a1, a2, val_add, List.map_map]
    rfl
  have hbB : ∀ b ∈ (bytes x).map (fun b => gB (gA b)), b % 16 ≤ 4 ∧ b / 16 ≤ 4 := by
    intro b hb'
    obtain ⟨c, hc, rfl⟩ := List.mem_map.1 hb'
    exact (byte_ok c (hb c hc)).2.2.1
  have m3 : val (((bytes x).map fun b => gB (gA b)).map fun _ => 15) = 1085102592571150095 := by simp [map_len, val]
  have a := val_nib _ hbB
  rw [← eB, m3] at a
  unfold sC
  rw [a, List.map_map]
  congr 1
  refine List.map_congr_left fun b hb' => ?_
  exact (byte_ok b (hb b hb')).2.2.2.1

theorem sDEF (c0 c1 c2 c3 c4 c5 c6 c7 : Nat) (h : c0 ≤ 8 ∧ c1 ≤ 8 ∧ c2 ≤ 8 ∧ c3 ≤ 8 ∧ c4 ≤ 8 ∧ c5 ≤ 8 ∧ c6 ≤ 8 ∧ c7 ≤ 8) :
    sF (sE (sD (val [c0, c1, c2, c3, c4, c5, c6, c7]))) % 128 = c0 + c1 + c2 + c3 + c4 + c5 + c6 + c7 := by
  obtain ⟨h0, h1, h2, h3, h4, h5, h6, h7⟩ := h
  have q1 : val [c0, c1, c2, c3, c4, c5, c6, c7] / 256 = val [c1, c2, c3, c4, c5, c6, c7] := by
    rw [show val [c0, c1, c2, c3, c4, c5, c6, c7] = c0 + 256 * val [c1, c2, c3, c4, c5, c6, c7] from rfl]
    generalize val [c1, c2, c3, c4, c5, c6, c7] = y
    omega
  have d : sD (val [c0, c1, c2, c3, c4, c5, c6, c7]) = val [c0 + c1, c1 + c2, c2 + c3, c3 + c4, c4 + c5, c5 + c6, c6 + c7, c7] := by
    unfold sD
    rw [q1]
    simp only [val]
    omega
  rw [d]
  clear d q1
  have q2 : val [c0 + c1, c1 + c2, c2 + c3, c3 + c4, c4 + c5, c5 + c6, c6 + c7, c7] / 65536 = val [c2 + c3, c3 + c4, c4 + c5, c5 + c6, c6 + c7, c7] := by
    rw [show val [c0 + c1, c1 + c2, c2 + c3, c3 + c4, c4 + c5, c5 + c6, c6 + c7, c7] = (c0 + c1) + 256 * ((c1 + c2) + 256 * val [c2 + c3, c3 + c4, c4 + c5, c5 + c6, c6 + c7, c7]) from rfl]
    generalize val [c2 + c3, c3 + c4, c4 + c5, c5 + c6, c6 + c7, c7] = y
    omega
  have e : sE (val [c0 + c1, c1 + c2, c2 + c3, c3 + c4, c4 + c5, c5 + c6, c6 + c7, c7]) = val [c0 + c1 + (c2 + c3), c1 + c2 + (c3 + c4), c2 + c3 + (c4 + c5), c3 + c4 + (c5 + c6), c4 + c5 + (c6 + c7), c5 + c6 + c7, c6 + c7, c7] := by
    unfold sE
    rw [q2]
    simp only [val]
    omega
  rw [e]
  clear e q2
  have q3 : val [c0 + c1 + (c2 + c3), c1 + c2 + (c3 + c4), c2 + c3 + (c4 + c5), c3 + c4 + (c5 + c6), c4 + c5 + (c6 + c7), c5 + c6 + c7, c6 + c7, c7] / 4294967296 = val [c4 + c5 + (c6 + c7), c5 + c6 + c7, c6 + c7, c7] := by
    rw [show val [c0 + c1 + (c2 + c3), c1 + c2 + (c3 + c4), c2 + c3 + (c4 + c5), c3 + c4 + (c5 + c6), c4 + c5 + (c6 + c7), c5 + c6 + c7, c6 + c7, c7] = (c0 + c1 + (c2 + c3)) + 256 * ((c1 + c2 + (c3 + c4)) + 256 * ((c2 + c3 + (c4 + c5)) + 256 * ((c3 + c4 + (c5 + c6)) + 256 * val [c4 + c5 + (c6 + c7), c5 + c6 + c7, c6 + c7, c7]))) from rfl]
    generalize val [c4 + c5 + (c6 + c7), c5 + c6 + c7, c6 + c7, c7] = y
    omega
  unfold sF
  rw [q3]
  clear q3
  rw [show val [c0 + c1 + (c2 + c3), c1 + c2 + (c3 + c4), c2 + c3 + (c4 + c5), c3 + c4 + (c5 + c6), c4 + c5 + (c6 + c7), c5 + c6 + c7, c6 + c7, c7] = (c0 + c1 + (c2 + c3)) + 256 * val [c1 + c2 + (c3 + c4), c2 + c3 + (c4 + c5), c3 + c4 + (c5 + c6), c4 + c5 + (c6 + c7), c5 + c6 + c7, c6 + c7, c7] from rfl,
    show val [c4 + c5 + (c6 + c7), c5 + c6 + c7, c6 + c7, c7] = (c4 + c5 + (c6 + c7)) + 256 * val [c5 + c6 + c7, c6 + c7, c7] from rfl]
  generalize val [c1 + c2 + (c3 + c4), c2 + c3 + (c4 + c5), c3 + c4 + (c5 + c6), c4 + c5 + (c6 + c7), c5 + c6 + c7, c6 + c7, c7] = y
  generalize val [c5 + c6 + c7, c6 + c7, c7] = z
  omega

def cnt (n x : Nat) : Nat := ((List.range n).filter fun i => x.testBit i).length
theorem cnt_add (n b x : Nat) (hb : b < 256) : cnt (8 + n) (b + 256 * x) = pc8 b + cnt n x := by
  unfold cnt pc8
  rw [List.range_add, List.filter_append, List.length_append, List.filter_map, List.length_map]
  have e : b + 256 * x = 2 ^ 8 * x + b := by omega
  congr 2
  · refine List.filter_congr fun i hi => ?_
    have := List.mem_range.1 hi
    rw [e, Nat.testBit_two_pow_mul_add _ hb, if_pos this]
  · refine List.filter_congr fun i _ => ?_
    show (b + 256 * x).testBit (8 + i) = x.testBit i
    rw [e, Nat.testBit_two_pow_mul_add _ hb, if_neg (by omega), show 8 + i - 8 = i by omega]

theorem pop_bits (x : Nat) (h : x < 2 ^ 64) : popW x = (bitL x).length := by
  have hb := bytes_lt x
  have e0 := val_bytes x h
  have hp : ∀ y, y % 256 < 256 := fun y => Nat.mod_lt _ (by decide)
  have h8 : ∀ y, pc8 (y % 256) ≤ 8 := fun y => (byte_ok _ (hp y)).2.2.2.2
  unfold popW
  rw [sABC x h, map_len, sDEF _ _ _ _ _ _ _ _ ⟨h8 _, h8 _, h8 _, h8 _, h8 _, h8 _, h8 _, h8 _⟩]
  have el : (bitL x).length = cnt 64 (val (bytes x)) := by rw [e0]; rfl
  rw [el]
  unfold bytes
  simp only [val]
  rw [cnt_add 56 _ _ (hp _), cnt_add 48 _ _ (hp _), cnt_add 40 _ _ (hp _), cnt_add 32 _ _ (hp _), cnt_add 24 _ _ (hp _), cnt_add 16 _ _ (hp _), cnt_add 8 _ _ (hp _), cnt_add 0 _ _ (hp _)]
  simp only [show cnt 0 0 = 0 from rfl]
  omega
end Go.Proofs.YtafdijcolponjaaDoor
