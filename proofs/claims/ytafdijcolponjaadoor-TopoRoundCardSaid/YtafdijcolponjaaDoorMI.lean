/- How many orders there are, in plain Lean: sets of nodes as numbers. No program is walked here; no condition but those in each statement. The contract of a counter's from: how many ways there are to go on. Conditions: six nodes at most. The contract of a graph's Count. Conditions: six nodes at most, or more than twelve; where the table lies. The contract of the document's Count (topo). Conditions: a graph that may be, six nodes at most. The chapter's example (topo), walked. Condition: where the table lies. -/
import Derived.Test.YtafdijcolponjaaDoorMG
import Derived.Lib.QuoteBits
import Derived.BigRegion
namespace Go.Proofs.YtafdijcolponjaaDoor
open Go.RowKit

theorem i64_and_nat (a b : Nat) (ha : a < 2 ^ 62) (hb : b < 2 ^ 62) : bits .and .i64 (a : Int) (b : Int) = ((a &&& b : Nat) : Int) := by
  show IntKind.i64.wrap ((BitVec.ofInt 64 (a : Int) &&& BitVec.ofInt 64 (b : Int)).toNat : Int) = _
  rw [BitVec.toNat_and, ofInt_u64 a (by omega), ofInt_u64 b (by omega)]
  exact Lib.wrap_i64_small _ (by have := Nat.and_le_left (n := a) (m := b); omega)
theorem i64_or_nat (a b : Nat) (ha : a < 2 ^ 62) (hb : b < 2 ^ 62) : bits .or .i64 (a : Int) (b : Int) = ((a ||| b : Nat) : Int) := by
  show IntKind.i64.wrap ((BitVec.ofInt 64 (a : Int) ||| BitVec.ofInt 64 (b : Int)).toNat : Int) = _
  rw [BitVec.toNat_or, ofInt_u64 a (by omega), ofInt_u64 b (by omega)]
  exact Lib.wrap_i64_small _ (by have := Nat.or_lt_two_pow ha hb; omega)
theorem i64_pow (k : Nat) (hk : k < 62) : IntKind.i64.wrap (2 ^ k) = ((2 ^ k : Nat) : Int) := by
  have h : 2 ^ k < 2 ^ 62 := Nat.pow_lt_pow_right (by decide) hk
  have e : (2 : Int) ^ k = ((2 ^ k : Nat) : Int) := by simp
  rw [e]
  exact Lib.wrap_i64_small _ (by omega)
theorem i64_bit (s a : Nat) (hs : s < 2 ^ 62) : bits .and .i64 ((s : Int) / 2 ^ a) 1 = ((if s.testBit a then 1 else 0 : Nat) : Int) := by
  have e : (s : Int) / 2 ^ a = ((s / 2 ^ a : Nat) : Int) := by simp
  have hl : s / 2 ^ a < 2 ^ 62 := Nat.lt_of_le_of_lt (Nat.div_le_self _ _) hs
  rw [e, show (1 : Int) = ((1 : Nat) : Int) from rfl, i64_and_nat _ _ hl (by decide), Nat.and_one_is_mod, Nat.testBit_eq_decide_div_mod_eq]
  have : s / 2 ^ a % 2 = 0 ∨ s / 2 ^ a % 2 = 1 := by omega
  rcases this with h | h <;> rw [h] <;> simp

/-- What must stand, as a number. -/
def needN (l : List Nat) : Nat := l.foldl (fun x a => x ||| 2 ^ a) 0
theorem needN_snoc (l : List Nat) (a : Nat) : needN (l ++ [a]) = needN l ||| 2 ^ a := by unfold needN; rw [List.foldl_append]; rfl
theorem needN_bit (l : List Nat) (i : Nat) : (needN l).testBit i = decide (i ∈ l) := by
  suffices h : ∀ (l : List Nat) (x : Nat), (l.foldl (fun x a => x ||| 2 ^ a) x).testBit i = (x.testBit i || decide (i ∈ l)) by
    unfold needN; rw [h]; simp
  intro l
  induction l with
  | nil => intro x; simp
  | cons a l ih =>
    intro x
    rw [List.foldl_cons, ih, Nat.testBit_or, Nat.testBit_two_pow, Bool.or_assoc]
    congr 1
    by_cases h : a = i
    · subst h; simp
    · simp [h, Ne.symm h]
theorem needN_lt {l : List Nat} {n : Nat} (h : ∀ a ∈ l, a < n) : needN l < 2 ^ n := by
  refine Nat.lt_pow_two_of_testBit _ fun i hi => ?_
  rw [needN_bit]
  exact decide_eq_false fun hm => by have := h i hm; omega
def goB (L : List (Nat × Nat)) (s a : Nat) : Bool := !s.testBit a && decide (∀ e ∈ L, e.2 = a → s.testBit e.1 = true)
theorem need_and {n : Nat} {L : List (Nat × Nat)} (hL : ∀ e ∈ L, e.1 < n ∧ e.2 < n) (s a : Nat) : (s &&& needN (backR n L a) = needN (backR n L a)) ↔ ∀ e ∈ L, e.2 = a → s.testBit e.1 = true := by
  constructor
  · intro h e he ha
    subst ha
    have hb : (needN (backR n L e.2)).testBit e.1 = true := by rw [needN_bit]; exact decide_eq_true ((mem_backR hL).2 he)
    have h2 := congrArg (·.testBit e.1) h
    simp only [Nat.testBit_and, hb, Bool.and_true] at h2
    exact h2
  · intro h
    refine Nat.eq_of_testBit_eq fun i => ?_
    rw [Nat.testBit_and, needN_bit]
    by_cases hi : i ∈ backR n L a
    · rw [h (i, a) ((mem_backR hL).1 hi) rfl]; simp
    · simp [hi]
def zeros (n s : Nat) : Nat := ((List.range n).filter fun i => !s.testBit i).length
def freeK (s j : Nat) : Nat := ((List.range j).filter fun i => !s.testBit i).length
theorem freeK_succ (s j : Nat) : freeK s (j + 1) = freeK s j + if s.testBit j then 0 else 1 := by
  unfold freeK
  rw [List.range_succ, List.filter_append, List.length_append]
  congr 1
  cases h : s.testBit j <;> simp [h]
theorem freeK_mono {s j n : Nat} (h : j ≤ n) : freeK s j ≤ freeK s n := by
  induction h with
  | refl => exact Nat.le_refl _
  | step _ ih => rw [freeK_succ]; omega
theorem zeros_zero {n s : Nat} (hs : s < 2 ^ n) : zeros n s = 0 ↔ s = 2 ^ n - 1 := by
  unfold zeros
  rw [List.length_eq_zero_iff, List.filter_eq_nil_iff]
  constructor
  · intro h
    refine Nat.eq_of_testBit_eq fun i => ?_
    rw [Nat.testBit_two_pow_sub_one]
    by_cases hi : i < n
    · have := h i (List.mem_range.2 hi)
      simp [hi]
      simpa using this
    · rw [Nat.testBit_lt_two_pow (Nat.lt_of_lt_of_le hs (Nat.pow_le_pow_right (by decide) (by omega)))]
      simp [hi]
  · rintro rfl i hi
    rw [Nat.testBit_two_pow_sub_one, decide_eq_true (List.mem_range.1 hi)]; simp
theorem bit_put (s a i : Nat) : (s ||| 2 ^ a).testBit i = (s.testBit i || decide (a = i)) := by rw [Nat.testBit_or, Nat.testBit_two_pow]
theorem put_lt {n s a : Nat} (hs : s < 2 ^ n) (ha : a < n) : s ||| 2 ^ a < 2 ^ n := Nat.or_lt_two_pow hs (Nat.pow_lt_pow_right (by decide) ha)
theorem zeros_put {n s a : Nat} (ha : a < n) (hf : s.testBit a = false) : zeros n s = zeros n (s ||| 2 ^ a) + 1 := by
  unfold zeros
  rw [filter_one (p := fun i => !s.testBit i) (a := a) List.nodup_range (List.mem_range.2 ha) (by rw [hf]; rfl)]
  congr 2
  refine List.filter_congr fun i _ => ?_
  rw [bit_put]
  by_cases h : a = i
  · subst h; simp
  · rw [decide_eq_false h, decide_eq_false (fun h' => h h'.symm)]; simp

/-- How many ways there are to go on, a million at most; so many nodes do not stand yet. -/
def cntF (n : Nat) (L : List (Nat × Nat)) : Nat → Nat → Nat
  | 0, _ => 1
  | k + 1, s => (List.range n).foldl (fun acc a => if goB L s a then min (acc + cntF n L k (s ||| 2 ^ a)) 1000000 else acc) 0
def cntK (n : Nat) (L : List (Nat × Nat)) (k s j : Nat) : Nat := (List.range j).foldl (fun acc a => if goB L s a then min (acc + cntF n L k (s ||| 2 ^ a)) 1000000 else acc) 0
theorem cntK_zero (n : Nat) (L : List (Nat × Nat)) (k s : Nat) : cntK n L k s 0 = 0 := rfl
theorem cntK_succ (n : Nat) (L : List (Nat × Nat)) (k s j : Nat) : cntK n L k s (j + 1) = if goB L s j then min (cntK n L k s j + cntF n L k (s ||| 2 ^ j)) 1000000 else cntK n L k s j := by
  unfold cntK; rw [List.range_succ, List.foldl_append]; rfl
theorem cntK_le (n : Nat) (L : List (Nat × Nat)) (k s : Nat) : ∀ j, cntK n L k s j ≤ 1000000
  | 0 => by rw [cntK_zero]; omega
  | j + 1 => by
    rw [cntK_succ]
    have := cntK_le n L k s j
    split <;> omega
theorem cntF_le (n : Nat) (L : List (Nat × Nat)) (k s : Nat) : cntF n L k s ≤ 1000000 := by
  cases k with
  | zero => show 1 ≤ 1000000; omega
  | succ k => exact cntK_le n L k s n
/-- How often the map is written, at most. -/
def updB : Nat → Nat
  | 0 => 0
  | k + 1 => (k + 1) * updB k + 1
theorem updB_le {k : Nat} (h : k ≤ 6) : updB k ≤ 10000 := by
  have : ∀ k : Fin 7, updB k.val ≤ 10000 := by decide
  exact this ⟨k, by omega⟩
theorem zeros_le (n s : Nat) : zeros n s ≤ n := by
  have := List.length_filter_le (fun i => !s.testBit i) (List.range n)
  simpa [zeros] using this

/-- What must stand ahead of each node: of the first b nodes; of that one, as told so far. -/
def midN (n : Nat) (L : List (Nat × Nat)) (b : Nat) (l : List Nat) : List Int := (List.range n).map fun i => if i < b then ((needN (backR n L i) : Nat) : Int) else if i = b then ((needN l : Nat) : Int) else 0
theorem midN_zero (n : Nat) (L : List (Nat × Nat)) : midN n L 0 [] = List.replicate n 0 := by
  refine List.ext_getElem (by simp [midN]) fun i h1 h2 => ?_
  simp [midN, needN]
theorem midN_at {n : Nat} {L : List (Nat × Nat)} {b : Nat} {l : List Nat} (h : b < n) : (midN n L b l).getD b 0 = ((needN l : Nat) : Int) := by simp [midN, h]
theorem midN_put {n : Nat} {L : List (Nat × Nat)} {b : Nat} {l : List Nat} (a : Nat) : (midN n L b l).set b ((needN l ||| 2 ^ a : Nat) : Int) = midN n L b (l ++ [a]) := by
  refine List.ext_getElem (by simp [midN]) fun i h1 h2 => ?_
  simp only [midN, List.getElem_set, List.getElem_map, List.getElem_range]
  rw [needN_snoc]
  by_cases e : b = i
  · subst e
    rw [if_pos rfl, if_neg (Nat.lt_irrefl _), if_pos rfl]
  · have e' : ¬ i = b := fun h => e h.symm
    rw [if_neg e, if_neg e', if_neg e']
theorem midN_next {n : Nat} {L : List (Nat × Nat)} {b : Nat} : midN n L b (backR n L b) = midN n L (b + 1) [] := by
  refine List.ext_getElem (by simp [midN]) fun i h1 h2 => ?_
  simp only [midN, List.getElem_map, List.getElem_range]
  by_cases h : i < b
  · rw [if_pos h, if_pos (by omega)]
  · rw [if_neg h]
    by_cases e : i = b
    · subst e
      rw [if_pos rfl, if_pos (Nat.lt_succ_self _)]
    · rw [if_neg e, if_neg (by omega)]
      have : needN ([] : List Nat) = 0 := rfl
      rw [this]
      split <;> rfl
def needL (n : Nat) (L : List (Nat × Nat)) : List Int := (List.range n).map fun (i : Nat) => ((needN (backR n L i) : Nat) : Int)
theorem midN_all {n : Nat} {L : List (Nat × Nat)} : midN n L n [] = needL n L := by
  unfold midN needL
  exact List.map_congr_left fun i hi => by rw [if_pos (List.mem_range.1 hi)]
theorem needL_at {n : Nat} {L : List (Nat × Nat)} {i : Nat} (h : i < n) : (needL n L).getD i 0 = ((needN (backR n L i) : Nat) : Int) := by simp [needL, h]
end Go.Proofs.YtafdijcolponjaaDoor

namespace Go.Proofs.YtafdijcolponjaaDoor
open Go.RowKit

structure CntAt (W : World) (p gb mb n m : Nat) (L : List (Nat × Nat)) (f : Int → Option Int) : Prop where
  blk : W.heap[p]? = some (.cells #[.slice (some ⟨gb, 0, none⟩) n n, .map (some mb)] 113 (0, 0))
  row : IntRow W gb n (needL n L)
  map : MapAt W mb m f
  inv : ∀ x v, f x = some v → ∃ s : Nat, s < 2 ^ n ∧ x = (s : Int) ∧ v = ((cntF n L (zeros n s) s : Nat) : Int)
  ne1 : p ≠ mb
  ne2 : gb ≠ mb
theorem CntAt.chg {W W' : World} {p gb mb n m m' : Nat} {L : List (Nat × Nat)} {f f' : Int → Option Int} (h : CntAt W p gb mb n m L f) (hc : Chg (· = mb) W W') (hm : MapAt W' mb m' f')
    (hi : ∀ x v, f' x = some v → ∃ s : Nat, s < 2 ^ n ∧ x = (s : Int) ∧ v = ((cntF n L (zeros n s) s : Nat) : Int)) : CntAt W' p gb mb n m' L f' :=
  ⟨(hc.block p (lt_of_block h.blk) h.ne1).trans h.blk, h.row.frame (hc.block gb h.row.lt h.ne2), hm, hi, h.ne1, h.ne2⟩
def FromEnds (p gb mb n b : Nat) (L : List (Nat × Nat)) (v : Nat) (W : World) (e : Ending) (w' : World) : Prop :=
  e = .returned (.int .i64 v) ∧ ∃ m' f', CntAt w' p gb mb n m' L f' ∧ m' ≤ b ∧ Chg (· = mb) W w'
def FromRel (p gb mb n m u k s : Nat) (L : List (Nat × Nat)) (W : World) (acc i : Value) (wr : World) : Prop :=
  ∃ (j m' : Nat) (f' : Int → Option Int), j ≤ n ∧ i = .int .i64 j ∧ acc = .int .i64 (cntK n L k s j) ∧ CntAt wr p gb mb n m' L f' ∧ m' ≤ m + freeK s j * u ∧ Chg (· = mb) W wr

set_option maxRecDepth 20000 in
set_option maxHeartbeats 2000000 in
theorem from_any (p gb mb n : Nat) (L : List (Nat × Nat)) (hn : n ≤ 6) (hL : ∀ e ∈ L, e.1 < n ∧ e.2 < n) : ∀ (k s m : Nat) (f : Int → Option Int) (W : World), zeros n s = k → s < 2 ^ n → CntAt W p gb mb n m L f → m + updB k ≤ 100000 →
    Calls Tryd.prog 94 #[.pointer (some ⟨p, 0, none⟩), .int .i64 s] W (FromEnds p gb mb n (m + updB k) L (cntF n L k s) W)
  | 0, s, m, f, W, hz, hs, h, hm => by
    have e := (zeros_zero hs).1 hz
    have c0 : W.cell? ⟨p, 0, none⟩ = some (.slice (some ⟨gb, 0, none⟩) n n) := cell_at 0 h.blk rfl
    have hw := i64_pow n (by omega)
    have hN : 2 ^ n ≤ 64 := Nat.pow_le_pow_right (n := 2) (by decide) hn
    have hv : cntF n L 0 s = 1 := rfl
    rw [hv]
    generalize 2 ^ n = N at *
    have hs1 : ((s : Int) == (N : Int) - 1) = true := by rw [beq_iff_eq]; omega
    have H := Lib.hid h
    clear h e hz
    go_enter Tryd.func94, Tryd.ntmps94
    go_wp2_with fail
    go_ret
    exact ⟨rfl, m, f, H.out, Nat.le_refl _, Chg.refl _ _⟩
  | k + 1, s, m, f, W, hz, hs, h, hm => by
    have e := mt (zeros_zero hs).2 (by omega)
    have c0 : W.cell? ⟨p, 0, none⟩ = some (.slice (some ⟨gb, 0, none⟩) n n) := cell_at 0 h.blk rfl
    have c1 : W.cell? ⟨p, 1, none⟩ = some (.map (some mb)) := cell_at 1 h.blk rfl
    have hw := i64_pow n (by omega)
    have hN : 2 ^ n ≤ 64 := Nat.pow_le_pow_right (n := 2) (by decide) hn
    have H := Lib.hid h
    have HZ := Lib.hid hz
    have HS := Lib.hid hs
    have hlk := h.map.lookOk (x := (s : Int)) (WalkArith.wf_i64 (by omega))
    generalize hNN : 2 ^ n = N at *
    have HNN := Lib.hid hNN
    have hs1 : ((s : Int) == (N : Int) - 1) = false := by rw [beq_eq_false_iff_ne]; omega
    cases hf : f (s : Int) with
    | some v =>
      rw [hf, Option.getD_some, Option.isSome_some] at hlk
      obtain ⟨s', hs', he', hv⟩ := h.inv _ _ hf
      obtain rfl : s = s' := by omega
      rw [hz] at hv
      have HV := Lib.hid hv
      clear h e hz hf hs' he' hNN hv
      go_enter Tryd.func94, Tryd.ntmps94
      go_wp2_with fail
      go_ret
      exact ⟨by rw [HV.out]; rfl, m, f, H.out, Nat.le_add_right _ _, Chg.refl _ _⟩
    | none =>
      rw [hf, Option.getD_none, Option.isSome_none] at hlk
      clear h e hz hf hNN
      go_enter Tryd.func94, Tryd.ntmps94
      go_wp2_with fail
      go_loopw [7, 35] (fun acc i wr => FromRel p gb mb n m (updB k) k s L W acc i wr) (fun _ i _ => n - (intOf i).toNat)
      case atStart => exact ⟨0, m, f, Nat.zero_le _, rfl, rfl, H.out, by omega, Chg.refl _ _⟩
      case round =>
        clear hlk c0 c1 hs1
        obtain ⟨j, m', f', hj, rfl, rfl, hC, hm', hCh⟩ := hrel
        obtain ⟨wa, rfl⟩ : ∃ x, x = wr := ⟨_, rfl⟩
        have HC := Lib.hid hC
        have HCh := Lib.hid hCh
        have HM' := Lib.hid hm'
        by_cases hjn : j < n
        · have z0 := hC.row.cell hjn
          rw [needL_at hjn] at z0
          have hq := needN_lt (n := n) (l := backR n L (j : Nat)) (fun a ha => List.mem_range.1 (List.mem_filter.1 ha).1)
          have hneed := need_and hL s j
          have HNeed := Lib.hid hneed
          generalize needN (backR n L (j : Nat)) = q at *
          rw [HNN.out] at hq
          have hbit := i64_bit s j (by omega)
          have hand := i64_and_nat s q (by omega) (by omega)
          have hj0 : (0 : Int) ≤ (j : Int) := by omega
          have hj1 : (j : Int) < (n : Int) := by omega
          have HK := Lib.hid (cntK_succ n L k s j)
          have HF := Lib.hid (freeK_succ s j)
          have hle := cntK_le n L k s j
          have HG : Hid (goB L s j = (!s.testBit j && decide (∀ e ∈ L, e.2 = j → s.testBit e.1 = true))) := rfl
          generalize hcc : cntK n L k s j = acc at *
          have HAcc := Lib.hid hcc
          clear hC hCh hm' hcc hneed
          cases hb : s.testBit j with
          | true =>
            rw [hb] at hbit HF HG
            have HG2 : Hid (goB L s j = false) := by show _ = _; rw [HG.out]; rfl
            have hb1 : ((1 : Int) == 0) = false := by decide
            clear hb hand
            go_wp2_with fail
            go_roundw
            case rel =>
              refine ⟨j + 1, m', f', hjn, by go_num, ?_, HC.out, by rw [HF.out]; exact HM'.out, HCh.out⟩
              rw [HK.out, HG2.out]; rfl
            case measure => simp [intOf]; omega
          | false =>
            rw [hb] at hbit HF HG
            by_cases hsq : s &&& q = q
            · have hsq' : (((s &&& q : Nat) : Int) == (q : Int)) = true := by rw [hsq]; simp
              have HG2 : Hid (goB L s j = true) := by show _ = _; rw [HG.out, decide_eq_true (HNeed.out.1 hsq)]; rfl
              have hw2 := i64_pow j (by omega)
              have hp2 : 2 ^ j < 2 ^ n := Nat.pow_lt_pow_right (by decide) hjn
              have hzp := zeros_put (n := n) (s := s) hjn hb
              have hpl := put_lt (n := n) (s := s) (a := j) (by rw [HNN.out]; exact hs) hjn
              rw [HNN.out] at hp2 hpl
              generalize hPj : 2 ^ j = Pj at *
              have hor := i64_or_nat s Pj (by omega) (by omega)
              generalize hT : s ||| Pj = T at *
              have hfm := freeK_mono (s := s) (show j + 1 ≤ n by omega)
              have hzz : freeK s n = k + 1 := HZ.out
              rw [HF.out, hzz] at hfm
              have hmul := Nat.mul_le_mul_right (updB k) hfm
              have hup : updB (k + 1) = (k + 1) * updB k + 1 := rfl
              have hsm : (freeK s j + 1) * updB k = freeK s j * updB k + updB k := Nat.succ_mul _ _
              have hmm := HM'.out
              have HI := Lib.hid (from_any p gb mb n L hn hL k T m' f' wa (by have := HZ.out; omega) (by rw [HNN.out]; exact hpl) HC.out (by simp only [Bool.false_eq_true, if_false] at hmul; omega))
              have hcl := cntF_le n L k T
              generalize hcv : cntF n L k T = cv at *
              have HCV := Lib.hid hcv
              have HT := Lib.hid hT
              have HPj := Lib.hid hPj
              clear hfm hmul hsm hup hmm hzz hzp hpl hb hcv hT hPj hsq
              go_wp2_with fail
              go_fit HI.out
              rintro e w8 ⟨rfl, m8, f8, hC8, hm8, hch8⟩
              have HC8 := Lib.hid hC8
              have HM8 : Hid (m8 ≤ m + freeK s (j + 1) * updB k) := by
                show _ ≤ _
                have h1 := HM'.out
                have h2 := HF.out
                rw [if_neg (by simp)] at h2
                rw [h2, Nat.succ_mul]
                omega
              have HCh8 := Lib.hid (HCh.out.trans hch8)
              clear hC8 hm8 hch8
              by_cases hmin : acc + cv ≤ 1000000
              · have hmin' : (acc : Int) + (cv : Int) ≤ 1000000 := by omega
                go_wp2_with fail
                go_roundw
                case rel =>
                  refine ⟨j + 1, m8, f8, hjn, by go_num, ?_, HC8.out, HM8.out, HCh8.out⟩
                  rw [HK.out, HG2.out, if_pos rfl, Nat.min_eq_left hmin]; go_num
                case measure => simp [intOf]; omega
              · have hmin' : ¬ (acc : Int) + (cv : Int) ≤ 1000000 := by omega
                go_wp2_with fail
                go_roundw
                case rel =>
                  refine ⟨j + 1, m8, f8, hjn, by go_num, ?_, HC8.out, HM8.out, HCh8.out⟩
                  rw [HK.out, HG2.out, if_pos rfl, Nat.min_eq_right (by omega)]; rfl
                case measure => simp [intOf]; omega
            · have hsq' : (((s &&& q : Nat) : Int) == (q : Int)) = false := by rw [beq_eq_false_iff_ne]; omega
              have HG2 : Hid (goB L s j = false) := by show _ = _; rw [HG.out, decide_eq_false (fun h => hsq (HNeed.out.2 h))]; rfl
              clear hb
              go_wp2_with fail
              go_roundw
              case rel =>
                refine ⟨j + 1, m', f', hjn, by go_num, ?_, HC.out, Nat.le_trans HM'.out ?_, HCh.out⟩
                · rw [HK.out, HG2.out]; rfl
                · rw [HF.out]; exact Nat.add_le_add_left (Nat.mul_le_mul_right _ (by simp)) _
              case measure => simp [intOf]; omega
        · obtain rfl : j = n := by omega
          have hzz : freeK s j = k + 1 := HZ.out
          have hup : updB (k + 1) = (k + 1) * updB k + 1 := rfl
          have hm2 := hm'
          rw [hzz] at hm2
          have c1 : wa.cell? ⟨p, 1, none⟩ = some (.map (some mb)) := cell_at 1 hC.blk rfl
          have HV : Hid (cntF j L (k + 1) s = cntK j L k s j) := rfl
          have hle := cntK_le j L k s j
          generalize cntK j L k s j = acc at *
          have HMp := Lib.hid hC.map
          have HB1 : Hid (m' < maxLen) := by show _ < _; unfold maxLen; omega
          have HB2 : Hid (m' + 1 ≤ m + updB (k + 1)) := by show _ ≤ _; omega
          have HKw := Lib.hid (WalkArith.wf_i64 (n := (s : Int)) (by omega))
          have HVw := Lib.hid (WalkArith.wf_i64 (n := (acc : Int)) (by omega))
          clear hC hCh hm' hzz hup hm2
          go_wp2_with (at_mapUpdate; refine wpList_map_put rfl _ _ _ rfl mb m' f' rfl HMp.out HB1.out s acc rfl rfl HKw.out HVw.out ?_)
          intro w8 hM8 hgrow
          have HM8 := Lib.hid hM8
          have HG8 := Lib.hid hgrow
          clear hM8 hgrow
          go_wp2_with fail
          go_ret
          have hch8 : Chg (· = mb) wa w8 := chg_grown HG8.out fun x hx => by cases hx; rfl
          refine ⟨by rw [HV.out]; rfl, m' + 1, _, HC.out.chg hch8 HM8.out ?_, HB2.out, HCh.out.trans hch8⟩
          intro x v hxv
          unfold putF at hxv
          split at hxv
          · rename_i hx
            cases hxv
            exact ⟨s, by rw [HNN.out]; exact hs, hx, by rw [HZ.out, HV.out]⟩
          · exact HC.out.inv x v hxv
end Go.Proofs.YtafdijcolponjaaDoor

namespace Go.Proofs.YtafdijcolponjaaDoor
open Go.RowKit

def TCountEnds (n : Int) (z : Nat → Nat → Int) (m : Nat) (w : World) (e : Ending) (w' : World) : Prop :=
  Below w.heap.size w w' ∧ ((ofB n z m = true ∧ n ≤ 6 ∧ e = .returned (.tuple #[.int .i64 (cntF n.toNat (ofZ n.toNat z m) n.toNat 0 : Nat), .int .i64 0])) ∨ (ofB n z m = true ∧ 12 < n ∧ e = .returned (.tuple #[.int .i64 0, .int .i64 3])) ∨ (ofB n z m = false ∧ e = .returned (.tuple #[.int .i64 0, .int .i64 2])))
def CMakeRel (w3 : World) (g n : Nat) (L : List (Nat × Nat)) (i : Value) (wr : World) : Prop :=
  ∃ b : Nat, b ≤ n ∧ i = .int .i64 b ∧ IntRow wr g n (midN n L b []) ∧ Chg (· = g) w3 wr
def CMidRel (w8 : World) (g n b : Nat) (L : List (Nat × Nat)) (l : List Nat) (i : Value) (wr : World) : Prop :=
  ∃ j : Nat, j ≤ l.length ∧ i = .int .i64 j ∧ IntRow wr g n (midN n L b (l.take j)) ∧ Chg (· = g) w8 wr
theorem below_chgAll {w w' : World} {F : Nat → Prop} (h : Below w.heap.size w w') : Chg F w w' := ⟨h.os, h.tape, h.output, h.size, fun k hk _ => h.block k hk⟩
theorem zeros_none (n : Nat) : zeros n 0 = n := by
  unfold zeros
  rw [List.filter_eq_self.2 (fun i _ => by simp)]; simp

set_option maxRecDepth 20000 in
set_option maxHeartbeats 2000000 in
theorem tcount_any (n : Int) (m c : Nat) (ad : Option Addr) (z : Nat → Nat → Int) (w : World) (hn6 : n ≤ 6 ∨ 12 < n) (hE : EdgesIn w ad m z) (hT : TabIs w) :
    Calls Tryd.prog 68 #[.int .i64 n, .slice ad m c] w (TCountEnds n z m w) := by
  obtain ⟨i0, hi, hz0, hz1, hz2⟩ := info_parts infoInt
  have HO := Lib.hid (gr_of n ad m c z w hE)
  have HT := Lib.hid hT
  have hmm := @run_makeMap Tryd.prog
  clear hE hT
  go_enter Tryd.func68, Tryd.ntmps68
  go_wp2_with fail
  go_fit HO.out
  rintro e wo (⟨hyes, b, F, rfl, hG, hF, hB⟩ | ⟨hno, rfl, hB⟩)
  · obtain ⟨hnn, hM⟩ : (0 ≤ n ∧ n ≤ 500) ∧ mayE n.toNat z m = true := by
      unfold ofB at hyes
      rw [Bool.and_eq_true] at hyes
      exact ⟨of_decide_eq_true hyes.1, hyes.2⟩
    have HY := Lib.hid hyes
    have hLr := ofZ_inr hM
    clear hyes hM
    rcases hn6 with hn6 | hn6
    · obtain ⟨q, rfl⟩ := Int.eq_ofNat_of_zero_le hnn.1
      rw [Int.toNat_natCast] at hLr hG
      have hq : q ≤ 6 := by omega
      obtain ⟨L, hLq⟩ : ∃ L, ofZ q z m = L := ⟨_, rfl⟩
      rw [hLq] at hLr hG
      have HLq := Lib.hid hLq
      have HL := Lib.hid hLr
      have HG := Lib.hid hG
      have HB := Lib.hid hB
      have hz := hB.size
      have HTo : Hid (∀ W, Below wo.heap.size wo W → TabIs W) := fun W hW => tab_below HT.out (HB.out.trans (hW.mono hz)) (Nat.le_refl _)
      clear hLq hLr hG hF hB hnn HO
      go_wp2_with (at_make; refine wpList_make_full _ rfl _ _ 22 rfl 0 3 i0 (.int .i64 0) 1 Tryd.underlying22 hi hz0 hz1 .i64 .i64 _ _ q rfl rfl rfl rfl (by rw [hz2]; omega) (by unfold maxLen; omega) (Nat.zero_le _) ?_)
      intro w1 hown hgrow
      have hB1 : Below wo.heap.size wo w1 := (Below.refl _ _).grown hgrow (Nat.le_refl _) (fun k hk => by cases hk)
      have hR1 : IntRow w1 wo.heap.size q (midN q L 0 []) := by
        have e : (madeCells #[Value.int .i64 0] q).toList = intl (List.replicate q 0) := intl_made q
        rw [e] at hown
        rw [midN_zero]; exact hown
      have hg1 := hR1.lt
      have HB1 := Lib.hid hB1
      have HR1 := Lib.hid hR1
      clear hown hgrow hB1 hR1
      go_wp2_with fail
      obtain ⟨w3, hw3⟩ : ∃ x, x = (w1.alloc (.map #[] 0)).alloc (.cells #[.slice (some ⟨wo.heap.size, 0, none⟩) q q, .map (some w1.heap.size)] 113) := ⟨_, rfl⟩
      rw [← hw3]
      have hblk : w3.heap[w1.heap.size + 1]? = some (.cells #[.slice (some ⟨wo.heap.size, 0, none⟩) q q, .map (some w1.heap.size)] 113 (0, 0)) := by
        have := heap_new (w1.alloc (.map #[] 0)) (.cells #[.slice (some ⟨wo.heap.size, 0, none⟩) q q, .map (some w1.heap.size)] 113)
        rw [hw3]; simpa using this
      have hmap : MapAt w3 w1.heap.size 0 (fun _ => none) := by
        rw [hw3]; exact (mapAt_made w1).frame (heap_alloc_lt (by simp))
      have hrow : IntRow w3 wo.heap.size q (midN q L 0 []) := by
        rw [hw3]; exact (HR1.out.frame (heap_alloc_lt hg1)).frame (heap_alloc_lt (by simp; omega))
      have hB3 : Below wo.heap.size wo w3 := by
        rw [hw3]; exact (HB1.out.alloc (by omega) _).alloc (by simp; omega) _
      have HBlk := Lib.hid hblk
      have HMap := Lib.hid hmap
      have HRow := Lib.hid hrow
      have HB3 := Lib.hid hB3
      have hpl := lt_of_block hblk
      have hz3 := hB3.size
      generalize hmb : w1.heap.size = mb at *
      have hmbl := hmap.lt
      clear hblk hmap hrow hB3 hw3 HB1 HR1 hmb
      go_loopw [29] (fun i wr => CMakeRel w3 wo.heap.size q L i wr) (fun i _ => q - (intOf i).toNat)
      case atStart => exact ⟨0, Nat.zero_le _, rfl, HRow.out, Chg.refl _ _⟩
      case round =>
        clear HRow
        obtain ⟨k, hk, rfl, hrow, hC⟩ := hrel
        obtain ⟨wa, rfl⟩ : ∃ x, x = wr := ⟨_, rfl⟩
        have HR := Lib.hid hrow
        have HC := Lib.hid hC
        have hgl := hrow.lt
        have hBa := HB3.out.trans (hC.below hz3 fun x hx e => by omega)
        have HBa := Lib.hid hBa
        have hza := hBa.size
        clear hrow hC hBa
        by_cases hlt : k < q
        · have hk1 : (k : Int) < (q : Int) := by omega
          have hk0 : (0 : Int) ≤ (k : Int) := by omega
          have hBk := gr_back b q F L k wa (HG.out.below HBa.out (Nat.le_refl _)) (HTo.out wa HBa.out)
          have HNx := Lib.hid (midN_next (n := q) (L := L) (b := k))
          have HLl := Lib.hid (fun x (hx : x ∈ backR q L (k : Nat)) => (List.mem_range.1 (List.mem_filter.1 hx).1 : x < q))
          have hlen := backR_len q L k
          generalize backR q L k = l at *
          have HBk := Lib.hid hBk
          clear hBk
          go_wp2_with fail
          go_fit HBk.out
          rintro e w8 ⟨v8, rfl, hO8, hB8⟩
          obtain ⟨ad8, c8, rfl⟩ := owns_slice hO8
          have HO8 := Lib.hid hO8
          have HR8 := Lib.hid (HR.out.below hB8 hgl)
          have HC8 := Lib.hid (HC.out.trans (below_chgAll hB8))
          clear hO8 hB8
          go_wp2_with fail
          go_loopw [36] (fun i wr => CMidRel w8 wo.heap.size q k L l i wr) (fun i _ => l.length - (intOf i).toNat)
          case atStart => exact ⟨0, Nat.zero_le _, rfl, HR8.out, Chg.refl _ _⟩
          case round =>
            clear HR8
            obtain ⟨j, hj, rfl, hrow, hC⟩ := hrel
            obtain ⟨wb, rfl⟩ : ∃ x, x = wr := ⟨_, rfl⟩
            have HRw := Lib.hid hrow
            have HCw := Lib.hid hC
            clear hrow hC
            by_cases hjl : j < l.length
            · obtain ⟨ad9, c9, hv9, hs9⟩ := src_list (owns_of_heap HO8.out (w' := wb) fun x hx => HCw.out.block x (owns_lt HO8.out x hx) (fun e => by have := (World.ownsRow.lt HO8.out x hx).1; omega))
              cases hv9
              obtain ⟨b9, o9, rfl, hc9⟩ := hs9.plain (by omega)
              have z9 := hc9 j hjl
              rw [natI_at] at z9
              have htk : l.take (j + 1) = l.take j ++ [l.getD j 0] := by
                rw [List.take_succ_eq_append_getElem hjl]; simp [List.getD, hjl]
              have htl : l.getD j 0 < q := HLl.out _ (by simp [List.getD, hjl])
              have z0 := HRw.out.cell hlt
              have f0 := HRw.out.free k
              rw [midN_at hlt] at z0
              have hnl := needN_lt (n := q) (l := l.take j) (fun a ha => HLl.out a (List.mem_of_mem_take ha))
              have hN : 2 ^ q ≤ 64 := Nat.pow_le_pow_right (n := 2) (by decide) hq
              have HPut := Lib.hid (midN_put (n := q) (L := L) (b := k) (l := l.take j) (l.getD j 0))
              rw [← htk] at HPut
              have hbk := (HC8.out.trans HCw.out)
              have c0 : wb.cell? ⟨mb + 1, 0, none⟩ = some (.slice (some ⟨wo.heap.size, 0, none⟩) q q) := cell_at 0 ((hbk.block _ hpl (by omega)).trans HBlk.out) rfl
              generalize l.getD j 0 = t at *
              have hw2 := i64_pow t (by omega)
              have hp2 : 2 ^ t < 2 ^ q := Nat.pow_lt_pow_right (by decide) htl
              generalize needN (l.take j) = x at *
              generalize 2 ^ t = Pt at *
              have hor := i64_or_nat x Pt (by omega) (by omega)
              generalize hT : x ||| Pt = T at *
              have hj0 : (0 : Int) ≤ (j : Int) := by omega
              have hj1 : (j : Int) < (l.length : Int) := by omega
              have ht0 : (0 : Int) ≤ (t : Int) := by omega
              have ht1 : (t : Int) < (q : Int) := by omega
              clear hc9 hs9 htk hnl hN hp2 hbk hT
              go_wp2_with fail
              go_region
              go_wp2_with fail
              go_roundw
              case rel => exact ⟨j + 1, hjl, by go_num, by rw [← HPut.out]; exact (HRw.out.put k _).frame rfl, (HCw.out.set1 _ _).drew⟩
              case measure => simp [intOf]; omega
            · obtain rfl : j = l.length := by omega
              have hrr := HRw.out
              rw [List.take_length, HNx.out] at hrr
              have HRr := Lib.hid hrr
              clear hrr
              go_wp2_with fail
              go_roundw
              case rel => exact ⟨k + 1, hlt, by go_num, HRr.out, HC8.out.trans HCw.out⟩
              case measure => simp [intOf]; omega
        · obtain rfl : k = q := by omega
          have hrr := HR.out
          rw [midN_all] at hrr
          have hcnt : CntAt wa (mb + 1) wo.heap.size mb k 0 L (fun _ => none) :=
            ⟨(HC.out.block _ hpl (by omega)).trans HBlk.out, hrr, HMap.out.frame (HC.out.block mb hmbl (by omega)), fun x v h => (by cases h), by omega, by omega⟩
          have HFr := Lib.hid (from_any (mb + 1) wo.heap.size mb k L hq HL.out k 0 0 (fun _ => none) wa (zeros_none k) (Nat.pos_of_ne_zero (by simp)) hcnt (by have := updB_le hq; omega))
          clear hrr hcnt
          go_wp2_with fail
          go_fit HFr.out
          rintro e w9 ⟨rfl, m9, f9, -, -, hch⟩
          have hB9 := HB.out.trans ((HBa.out.trans (hch.below hza fun x hx e => by omega)).mono hz)
          have HB9 := Lib.hid hB9
          clear hch hB9
          go_wp2_with fail
          go_ret2
          refine ⟨HB9.out, .inl ⟨HY.out, hn6, ?_⟩⟩
          rw [Int.toNat_natCast, HLq.out]; rfl
    · go_wp2_with fail
      go_ret2
      exact ⟨hB, .inr (.inl ⟨HY.out, hn6, rfl⟩)⟩
  · have HB := Lib.hid hB
    have HN := Lib.hid hno
    clear hB hno HO
    go_wp2_with fail
    go_ret2
    exact ⟨HB.out, .inr (.inr ⟨HN.out, rfl⟩)⟩
end Go.Proofs.YtafdijcolponjaaDoor

namespace Go.Proofs.YtafdijcolponjaaDoor
open Go.RowKit

/-- The nodes that stand, as a list. -/
def setL (n s : Nat) : List Nat := (List.range n).filter fun i => s.testBit i
theorem mem_setL {n s i : Nat} : i ∈ setL n s ↔ i < n ∧ s.testBit i = true := by unfold setL; rw [List.mem_filter, List.mem_range]
theorem go_free {n : Nat} {L : List (Nat × Nat)} (hL : ∀ e ∈ L, e.1 < n ∧ e.2 < n) {s a : Nat} (ha : a < n) : freeB L (setL n s) a = goB L s a := by
  unfold freeB goB
  rw [Bool.eq_iff_iff, decide_eq_true_iff, Bool.and_eq_true, decide_eq_true_iff]
  constructor
  · rintro ⟨h1, h2⟩
    refine ⟨?_, fun e he heb => (mem_setL.1 (h2 e he heb)).2⟩
    cases hb : s.testBit a with
    | true => exact absurd (mem_setL.2 ⟨ha, hb⟩) h1
    | false => rfl
  · rintro ⟨h1, h2⟩
    refine ⟨fun hm => ?_, fun e he heb => mem_setL.2 ⟨(hL e he).1, h2 e he heb⟩⟩
    rw [(mem_setL.1 hm).2] at h1; cases h1
def RCntEnds (g n s v : Nat) (W : World) (e : Ending) (w' : World) : Prop :=
  e = .returned (.int .i64 v) ∧ BoolRow w' g n (fun i => s.testBit i) ∧ Chg (· = g) W w'
def RCntRel (g n k s : Nat) (L : List (Nat × Nat)) (W : World) (acc i : Value) (wr : World) : Prop :=
  ∃ j : Nat, j ≤ n ∧ i = .int .i64 j ∧ acc = .int .i64 (cntK n L k s j) ∧ BoolRow wr g n (fun i => s.testBit i) ∧ Chg (· = g) W wr

set_option maxRecDepth 20000 in
set_option maxHeartbeats 2000000 in
theorem rcount_any (g n m c : Nat) (ad : Option Addr) (z : Nat → Nat → Int) (hn : n ≤ 6) (hM : mayE n z m = true) : ∀ (k s : Nat) (W : World), zeros n s = k → s < 2 ^ n → BoolRow W g n (fun i => s.testBit i) → EdgesIn W ad m z → (∀ b, ad = some ⟨b, 0, none⟩ → b ≠ g) →
    Calls Tryd.prog 95 #[.int .i64 n, .slice (some ⟨g, 0, none⟩) n n, .int .i64 k, .slice ad m c] W (RCntEnds g n s (cntF n (ofZ n z m) k s) W)
  | 0, s, W, hz, hs, hB, hE, hne => by
    have HB := Lib.hid hB
    have hv : cntF n (ofZ n z m) 0 s = 1 := rfl
    rw [hv]
    clear hB hE hz
    go_enter Tryd.func95, Tryd.ntmps95
    go_wp2_with fail
    go_ret
    exact ⟨rfl, HB.out, Chg.refl _ _⟩
  | k + 1, s, W, hz, hs, hB, hE, hne => by
    have hkn : k + 1 ≤ n := by have := zeros_le n s; omega
    have hk1 : (((k + 1 : Nat) : Int) == 0) = false := by rw [beq_eq_false_iff_ne]; omega
    have HZ := Lib.hid hz
    have HS := Lib.hid hs
    have HB := Lib.hid hB
    have HE := Lib.hid hE
    have HNe := Lib.hid hne
    have HL := Lib.hid (ofZ_inr hM)
    have HM := Lib.hid hM
    have HI := Lib.hid (fun (s : Nat) (W : World) hz hs hB hE hne => rcount_any g n m c ad z hn hM k s W hz hs hB hE hne)
    obtain ⟨L, hLq⟩ : ∃ L, ofZ n z m = L := ⟨_, rfl⟩
    have HLq := Lib.hid hLq
    obtain ⟨kk, hkk⟩ : ∃ kk : Nat, k + 1 = kk := ⟨_, rfl⟩
    rw [hLq] at HL HI ⊢
    have HV : Hid (cntF n L kk s = cntK n L k s n) := by show _ = _; rw [← hkk]; rfl
    rw [hkk] at hk1 hkn ⊢
    have HKK := Lib.hid hkk
    clear hz hs hB hE hne hLq hM hkk
    go_enter Tryd.func95, Tryd.ntmps95
    go_wp2_with fail
    go_loopw [9, 10] (fun acc i wr => RCntRel g n k s L W acc i wr) (fun _ i _ => n - (intOf i).toNat)
    case atStart => exact ⟨0, Nat.zero_le _, rfl, rfl, HB.out, Chg.refl _ _⟩
    case round =>
      obtain ⟨j, hj, rfl, rfl, hrow, hC⟩ := hrel
      obtain ⟨wa, rfl⟩ : ∃ x, x = wr := ⟨_, rfl⟩
      have HR := Lib.hid hrow
      have HC := Lib.hid hC
      have hEa : ∀ W', Chg (· = g) W W' → EdgesIn W' ad m z := fun W' hc => ⟨HE.out.1, fun hm => by
        obtain ⟨g1, rfl, hg1, hc1⟩ := HE.out.2 hm
        have hb := hc.block g1 hg1 (HNe.out g1 rfl)
        refine ⟨g1, rfl, Nat.lt_of_lt_of_le hg1 hc.size, fun i hi => ⟨(World.cell?_of_block hb).trans (hc1 i hi).1, (World.cell?_of_block hb).trans (hc1 i hi).2⟩⟩⟩
      have HEa := Lib.hid hEa
      have hle := cntK_le n L k s j
      clear hrow hC hEa
      by_cases hjn : j < n
      · have hF := free_any n g j m c ad z (setL n s) wa (HR.out.congr fun i hi => by
          show s.testBit i = decide (i ∈ setL n s)
          rw [Bool.eq_iff_iff, decide_eq_true_iff, mem_setL]
          exact ⟨fun h => ⟨hi, h⟩, fun h => h.2⟩) hjn (by omega) (HEa.out wa HC.out) HM.out
        rw [HLq.out, go_free HL.out hjn] at hF
        have HK := Lib.hid (cntK_succ n L k s j)
        have hj0 : (0 : Int) ≤ (j : Int) := by omega
        have hj1 : (j : Int) < (n : Int) := by omega
        generalize hcc : cntK n L k s j = acc at *
        have HAcc := Lib.hid hcc
        clear hcc
        cases hg : goB L s j with
        | false =>
          rw [hg] at hF HK
          have HF := Lib.hid hF
          clear hF hg
          go_wp2_with fail
          go_fit HF.out
          rintro e w' ⟨rfl, rfl⟩
          go_wp2_with fail
          go_roundw
          case rel => exact ⟨j + 1, hjn, by go_num, by rw [HK.out]; rfl, HR.out, HC.out⟩
          case measure => simp [intOf]; omega
        | true =>
          rw [hg] at hF HK
          have HF := Lib.hid hF
          have hb : s.testBit j = false := by
            unfold goB at hg
            rw [Bool.and_eq_true] at hg
            cases h : s.testBit j with
            | true => rw [h] at hg; cases hg.1
            | false => rfl
          have hzp := zeros_put (n := n) (s := s) hjn hb
          have hpl := put_lt (n := n) (s := s) (a := j) HS.out hjn
          have c0 := HR.out.cell hjn
          have f0 := HR.out.free j
          have hrow2 : BoolRow (wa.setCell ⟨g, j, none⟩ (.bool true)) g n (fun i => (s ||| 2 ^ j).testBit i) := (HR.out.put j true).congr fun i hi => by
            rw [bit_put]
            by_cases hij : i = j
            · subst hij; simp
            · rw [if_neg hij, decide_eq_false (fun h => hij h.symm), Bool.or_false]
          have HI2 := Lib.hid (HI.out (s ||| 2 ^ j) (wa.setCell ⟨g, j, none⟩ (.bool true)) (by have := HZ.out; have := HKK.out; omega) hpl hrow2 (HEa.out _ (HC.out.set1 _ _)) HNe.out)
          have hcl := cntF_le n L k (s ||| 2 ^ j)
          generalize cntF n L k (s ||| 2 ^ j) = cv at *
          have hkk1 : ((kk : Int) - 1) = (k : Int) := by have := HKK.out; omega
          have HBit := Lib.hid hb
          clear hF hg hb hzp hpl hrow2
          go_wp2_with fail
          go_fit HF.out
          rintro e w' ⟨rfl, rfl⟩
          go_wp2_with fail
          go_fit HI2.out
          rintro e w8 ⟨rfl, hrow8, hch8⟩
          have c8 := hrow8.cell hjn
          have f8 := hrow8.free j
          have HR9 : Hid (BoolRow (w8.setCell ⟨g, j, none⟩ (.bool false)) g n (fun i => s.testBit i)) := (hrow8.put j false).congr fun i hi => by
            rw [bit_put]
            by_cases hij : i = j
            · subst hij; rw [if_pos rfl, HBit.out]
            · rw [if_neg hij, decide_eq_false (fun h => hij h.symm), Bool.or_false]
          have HC9 := Lib.hid (((HC.out.set1 j (.bool true)).trans hch8).set1 j (.bool false))
          clear hrow8 hch8 c0 f0
          by_cases hmin : acc + cv ≤ 1000000
          · have hmin' : (acc : Int) + (cv : Int) ≤ 1000000 := by omega
            go_wp2_with fail
            go_roundw
            case rel => exact ⟨j + 1, hjn, by go_num, by rw [HK.out, if_pos trivial, Nat.min_eq_left hmin]; go_num, HR9.out, HC9.out⟩
            case measure => simp [intOf]; omega
          · have hmin' : ¬ (acc : Int) + (cv : Int) ≤ 1000000 := by omega
            go_wp2_with fail
            go_roundw
            case rel => exact ⟨j + 1, hjn, by go_num, by rw [HK.out, if_pos trivial, Nat.min_eq_right (by omega)]; rfl, HR9.out, HC9.out⟩
            case measure => simp [intOf]; omega
      · obtain rfl : j = n := by omega
        go_wp2_with fail
        go_ret
        exact ⟨by rw [HV.out]; rfl, HR.out, HC.out⟩
theorem rcounts_any (n m c : Nat) (ad : Option Addr) (z : Nat → Nat → Int) (hn : n ≤ 6) (hM : mayE n z m = true) (w : World) (hE : EdgesIn w ad m z) (had : ∀ b, ad = some ⟨b, 0, none⟩ → b < w.heap.size) :
    Calls Tryd.prog 69 #[.int .i64 n, .slice ad m c] w fun e w' => e = .returned (.int .i64 (cntF n (ofZ n z m) n 0 : Nat)) ∧ Below w.heap.size w w' := by
  obtain ⟨j0, hj, hy0, hy1, hy2⟩ := info_parts infoBool
  have HE := Lib.hid hE
  have HA := Lib.hid had
  have HM := Lib.hid hM
  clear hE had hM
  go_enter Tryd.func69, Tryd.ntmps69
  go_wp2_with (at_make; refine wpList_make_full _ rfl _ _ 105 rfl 0 4 j0 (.bool false) 1 Tryd.underlying105 hj hy0 hy1 .i64 .i64 _ _ n rfl rfl rfl rfl (by rw [hy2]; omega) (by unfold maxLen; omega) (Nat.zero_le _) ?_)
  intro w1 hown hgrow
  have hB1 : Below w.heap.size w w1 := (Below.refl _ _).grown hgrow (Nat.le_refl _) (fun k hk => by cases hk)
  have hR1 : BoolRow w1 w.heap.size n (fun i => (0 : Nat).testBit i) := by
    have e : (madeCells #[Value.bool false] n).toList = boolL n fun _ => false := boolL_made n
    rw [e] at hown
    exact BoolRow.congr hown fun j _ => by simp
  have hC := rcount_any w.heap.size n m c ad z hn HM.out n 0 w1 (zeros_none n) (Nat.pos_of_ne_zero (by simp)) hR1 (HE.out.below hB1 (Nat.le_refl _)) (fun b hb => by have := HA.out b hb; omega)
  generalize hv : cntF n (ofZ n z m) n 0 = v at hC
  have HV := Lib.hid hv
  have HC := Lib.hid hC
  have HB1 := Lib.hid hB1
  clear hown hgrow hB1 hR1 hC hv
  go_wp2_with fail
  go_fit HC.out
  rintro e w8 ⟨rfl, -, hch⟩
  have HB8 := Lib.hid (HB1.out.trans (hch.below HB1.out.size fun x hx e => by omega))
  clear hch
  go_wp2_with fail
  go_ret
  exact ⟨by rw [HV.out]; rfl, HB8.out⟩
end Go.Proofs.YtafdijcolponjaaDoor

namespace Go.Proofs.YtafdijcolponjaaDoor
open Go.RowKit

def wtz (_ j : Nat) : Int := if j = 0 then 2 else 0
theorem wt1 : ofB 3 wtz 1 = true := by decide
theorem wt2 : leastF (3 : Int).toNat (ofZ (3 : Int).toNat wtz 1) (3 : Int).toNat [] = some [1, 2, 0] := by decide
theorem wt3 : cntF (3 : Int).toNat (ofZ (3 : Int).toNat wtz 1) (3 : Int).toNat 0 = 3 := by decide
theorem wt4 : isT [1, 2, 0] wtz 1 = true := by decide
theorem src_three (w : World) (x y z : Int) (t : TypeId) : Src (w.alloc (.cells #[.int .i64 x, .int .i64 y, .int .i64 z] t)) (some ⟨w.heap.size, 0, none⟩) 3 3 1 (intl [x, y, z]) := by
  refine ⟨rfl, (fun h => by cases h), Nat.le_refl _, by unfold maxLen; omega, fun ad had j u hj => ?_, fun u hu => ?_⟩
  · cases had
    match j, hj with
    | 0, hj => cases hj; exact cell_at 0 (heap_new _ _) rfl
    | 1, hj => cases hj; exact cell_at 1 (heap_new _ _) rfl
    | 2, hj => cases hj; exact cell_at 2 (heap_new _ _) rfl
  · obtain ⟨n, _, rfl⟩ := List.mem_map.1 hu; rfl

set_option maxRecDepth 20000 in
set_option maxHeartbeats 1000000 in
theorem tworks_any (w : World) (hT : TabIs w) : Calls Tryd.prog 63 #[] w (YesEnds w) := by
  have HT := Lib.hid hT
  have hb0 : Below w.heap.size w (w.alloc (.cells #[.int .i64 2, .int .i64 0] 61)) := (Below.refl _ _).alloc (Nat.le_refl _) _
  have HL := Lib.hid (tleast_any 3 1 1 (some ⟨w.heap.size, 0, none⟩) wtz _ (edgesIn_one w 2 0 wtz rfl rfl 61) (tab_below hT hb0 (Nat.le_refl _)))
  have HB0 := Lib.hid hb0
  clear hT hb0
  go_enter Tryd.func63, Tryd.ntmps63
  go_wp2_with fail
  go_fit HL.out
  rintro e w1 (⟨-, hB, (⟨out, v, ho, rfl, hown⟩ | ⟨hn, -⟩)⟩ | ⟨hno, -⟩)
  · rw [wt2] at ho
    cases ho
    obtain ⟨ad, c, rfl, hs⟩ := src_list hown
    have hB1 := HB0.out.trans (hB.mono HB0.out.size)
    have hb1 : Below w.heap.size w (w1.alloc (.cells #[.int .i64 2, .int .i64 0] 61)) := hB1.alloc hB1.size _
    have HC := Lib.hid (tcount_any 3 1 1 (some ⟨w1.heap.size, 0, none⟩) wtz _ (.inl (by decide)) (edgesIn_one w1 2 0 wtz rfl rfl 61) (tab_below HT.out hb1 (Nat.le_refl _)))
    have HB1 := Lib.hid hb1
    have HS := Lib.hid (hs.belowAll ((Below.refl w1.heap.size w1).alloc (Nat.le_refl _) (.cells #[.int .i64 2, .int .i64 0] 61)) (Nat.le_refl _))
    clear hown hB hs hB1 hb1 HL
    go_wp2_with fail
    go_fit HC.out
    rintro e w2 ⟨hB, (⟨-, -, rfl⟩ | ⟨-, h12, -⟩ | ⟨hno, -⟩)⟩
    · rw [wt3]
      have hB2 := HB1.out.trans (hB.mono HB1.out.size)
      have hs2 := HS.out.belowAll hB (Nat.le_refl _)
      have hs3 := hs2.belowAll ((Below.refl w2.heap.size w2).alloc (Nat.le_refl _) (.cells #[.int .i64 1, .int .i64 2, .int .i64 0] 3)) (Nat.le_refl _)
      have HSM := Lib.hid (same_any _ _ _ _ _ _ _ _ _ hs3 (src_three w2 1 2 0 3))
      have HB2 := Lib.hid (hB2.alloc hB2.size (.cells #[.int .i64 1, .int .i64 2, .int .i64 0] 3))
      have HS3 := Lib.hid hs3
      clear hB hB2 hs2 hs3
      go_wp2_with fail
      go_fit HSM.out
      rintro e w3 ⟨rfl, hS3⟩
      have e1 : sameB (natI [1, 2, 0]) [1, 2, 0] = true := by decide
      rw [e1]
      have hb3 := HB2.out.trans hS3.below
      have hs4 := HS3.out.belowAll (hS3.below (B := _)) (Nat.le_refl _)
      have hs5 := hs4.belowAll ((Below.refl w3.heap.size w3).alloc (Nat.le_refl _) (.cells #[.int .i64 2, .int .i64 0] 61)) (Nat.le_refl _)
      have hI := tis_any ad 3 c (natI [1, 2, 0]) (some ⟨w3.heap.size, 0, none⟩) 1 1 wtz _ hs5 (by decide) (edgesIn_one w3 2 0 wtz rfl rfl 61)
      rw [show natI [1, 2, 0] = [1, 2, 0] from rfl, wt4] at hI
      have HI := Lib.hid hI
      have HB3 := Lib.hid (hb3.alloc hb3.size (.cells #[.int .i64 2, .int .i64 0] 61))
      clear hS3 hb3 hs4 hs5 hI e1
      go_wp2_with fail
      go_fit HI.out
      rintro e w4 ⟨rfl, hB4⟩
      have HB4 := Lib.hid (HB3.out.trans (hB4.mono HB3.out.size))
      clear hB4
      go_wp2_with fail
      go_ret
      exact ⟨rfl, HB4.out⟩
    · exact absurd h12 (by decide)
    · rw [wt1] at hno; cases hno
  · rw [wt2] at hn; cases hn
  · rw [wt1] at hno; cases hno
end Go.Proofs.YtafdijcolponjaaDoor
