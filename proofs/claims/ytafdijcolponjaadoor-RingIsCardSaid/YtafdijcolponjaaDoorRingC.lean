/- The contract of slices.Repeat of one number. Conditions: five hundred at most. -/
import Derived.Test.YtafdijcolponjaaDoorRingB
import Derived.IntWalk
namespace Go.Proofs.YtafdijcolponjaaDoor
open Go.RowKit

theorem owns_block {w : World} {base e g n : Nat} {xs : List Value} (h : w.ownsRow base e 1 (.slice (some ⟨g, 0, none⟩) n n) n xs) : w.heap[g]? = some (.cells xs.toArray e (0, 0)) := by
  obtain ⟨h1, h2⟩ := h
  rcases h2 with ⟨h0, _⟩ | ⟨g', cap', cur, hv, hg, hh, hn, hcap, hsz, htake⟩
  · cases h0
  · cases hv
    rw [hh]
    have : cur = xs.toArray := by
      have e1 : cur.toList = xs := by
        rw [← htake, List.take_of_length_le]
        simp; omega
      rw [← e1]
    rw [this]
theorem owns_of_block {w : World} {base e g n : Nat} {xs : List Value} (hb : base ≤ g) (hn : n ≤ maxLen) (hl : xs.length = n) (h : w.heap[g]? = some (.cells xs.toArray e (0, 0))) : w.ownsRow base e 1 (.slice (some ⟨g, 0, none⟩) n n) n xs := by
  refine ⟨by omega, .inr ⟨g, n, xs.toArray, rfl, hb, h, Nat.le_refl _, hn, by simp [hl], ?_⟩⟩
  rw [List.take_of_length_le (by simp; omega)]
def repL (n k : Nat) (v : Int) : List Int := List.replicate k v ++ List.replicate (n - k) 0
theorem repL_len {n k : Nat} (v : Int) (h : k ≤ n) : (intl (repL n k v)).length = n := by simp [intl, repL]; omega
theorem repL_splice {n k m : Nat} (v : Int) (h : k + m ≤ n) : splice (intl (repL n k v)) k (intl (List.replicate m v)) = intl (repL n (k + m) v) := by
  unfold splice intl repL
  rw [← List.map_take, ← List.map_drop, ← List.map_append, ← List.map_append]
  congr 1
  rw [List.take_left' (by simp), List.length_map, List.length_replicate, List.drop_append, List.length_replicate, ← List.replicate_append_replicate, List.append_assoc]
  congr 1
  rw [List.drop_of_length_le (by simp), List.nil_append, List.drop_replicate]
  congr 2
  omega
def RepRel (w : World) (g n : Nat) (v : Int) (i : Value) (wr : World) : Prop :=
  ∃ k : Nat, k ≤ n ∧ (k = 0 → n = 0) ∧ i = .int .i64 k ∧ wr.heap[g]? = some (.cells (intl (repL n k v)).toArray 3 (0, 0)) ∧ Below g w wr
def RepEnds (n : Nat) (v : Int) (w : World) (e : Ending) (w' : World) : Prop :=
  e = .returned (.slice (some ⟨w.heap.size, 0, none⟩) n n) ∧ IntRow w' w.heap.size n (List.replicate n v) ∧ Below w.heap.size w w'
def KeepT (_ : World) : Prop := True
theorem keepT (w : World) : KeepT w := trivial

set_option maxRecDepth 20000 in
set_option maxHeartbeats 1000000 in
theorem repeat_any (a : Option Addr) (c n : Nat) (v : Int) (w : World) (hn : n ≤ 500) (h : Src w a 1 c 1 (intl [v])) :
    Calls Tryd.prog 111 #[.slice a 1 c, .int .i64 n] w (RepEnds n v w) := by
  obtain ⟨i0, hi, hz0, hz1, hz2⟩ := info_parts infoInt
  have HM := Lib.hid (mul_one_any n hn w)
  have HS := Lib.hid h
  obtain ⟨b, o, hab, hc0⟩ := h.plain (by omega)
  have hsz : (Tryd.prog.info? 3).map (·.size) = some 1 := by rw [hi]; simp [hz1]
  have HSz := Lib.hid hsz
  have HC := Lib.hid (hc0 0 (by omega))
  cases hab
  have hn0 : (0 : Int) ≤ (n : Int) := by omega
  have hn1 : (n : Int) ≤ 500 := by omega
  clear h hc0 hsz
  go_enter Tryd.func111, Tryd.ntmps111
  go_wp2_with fail
  go_fit HM.out
  rintro e w' ⟨rfl, rfl⟩
  go_wp2_with (at_make; refine wpList_make_full _ rfl _ _ 22 rfl 0 3 i0 (.int .i64 0) 1 Tryd.underlying22 hi hz0 hz1 .i64 .i64 _ _ n rfl rfl rfl rfl (by rw [hz2]; omega) (by unfold maxLen; omega) (Nat.zero_le _) ?_)
  intro w1 hown hgrow
  have hB1 : Below w.heap.size w w1 := (Below.refl _ _).grown hgrow (Nat.le_refl _) (fun k hk => by cases hk)
  have hbl : w1.heap[w.heap.size]? = some (.cells (intl (repL n 0 v)).toArray 3 (0, 0)) := by
    have e : (madeCells #[Value.int .i64 0] n).toList = intl (repL n 0 v) := by rw [intl_made]; simp [repL]
    rw [e] at hown
    exact owns_block hown
  have hcw : w1.cell? ⟨b, o + 0, none⟩ = some (.int .i64 v) := (hB1.cell (p := ⟨b, o + 0, none⟩) (World.block_lt_of_cell? w _ HC.out)).trans HC.out
  have HBl := Lib.hid hbl
  have HB1 := Lib.hid hB1
  have HCw := Lib.hid hcw
  clear hown hgrow hB1 hbl hcw
  go_wp2_with (with_reducible refine wpList_copy_splice rfl _ _ 22 22 rfl 3 Tryd.underlying22 HSz.out (some ⟨w.heap.size, 0, none⟩) (some ⟨b, o, none⟩) n n 1 c rfl rfl w.heap.size 0 (intl (repL n 0 v)) 3 HBl.out (intl (List.replicate (Nat.min 1 n) v)) (by simp [intl]) ?c1 ?c2 ?c3 w.heap.size w HB1.out (Nat.le_refl _) ?_)
  case c1 =>
    intro _ j u hj
    have hj1 : j < 1 := by
      have := (List.getElem?_eq_some_iff.1 hj).1
      have h2 : (intl (List.replicate (Nat.min 1 n) v)).length = Nat.min 1 n := by simp [intl]
      have h3 : Nat.min 1 n ≤ 1 := Nat.min_le_left _ _
      omega
    obtain rfl : j = 0 := by omega
    have : u = .int .i64 v := by
      have h2 := (List.getElem?_eq_some_iff.1 hj).2
      simpa [intl] using h2.symm
    rw [this]
    exact HCw.out
  case c2 => rw [repL_len v (Nat.zero_le _)]; simp [intl]; exact Nat.min_le_right _ _
  case c3 => intro u hu; obtain ⟨z, _, rfl⟩ := List.mem_map.1 hu; rfl
  intro w2 hb2 hB2
  have hb2' := hb2.out
  rw [repL_splice v (by rw [Nat.zero_add]; exact Nat.min_le_right _ _), Nat.zero_add] at hb2'
  have e1 : (intl (List.replicate (Nat.min 1 n) v)).length = Nat.min 1 n := by simp [intl]
  rw [e1]
  have hm1 : Nat.min 1 n ≤ n := Nat.min_le_right _ _
  have hm2 : Nat.min 1 n = 0 → n = 0 := fun h => by have h2 : min 1 n = 0 := h; omega
  generalize Nat.min 1 n = m at *
  have HB2 := Lib.hid hB2
  have HBl2 := Lib.hid hb2'
  have HM1 := Lib.hid hm1
  have HM2 := Lib.hid hm2
  clear hb2 hb2' hB2 hm1 hm2 e1 HCw HBl HB1
  go_wp2_with fail
  go_loopw [8] (fun i wr => RepRel w w.heap.size n v i wr) (fun i _ => n - (intOf i).toNat)
  case atStart => exact ⟨m, HM1.out, HM2.out, rfl, HBl2.out, HB2.out⟩
  case round =>
    clear HBl2 HB2
    obtain ⟨k, hk, hk0, rfl, hbl, hB⟩ := hrel
    obtain ⟨wa, rfl⟩ : ∃ x, x = wr := ⟨_, rfl⟩
    have HBl := Lib.hid hbl
    have HB := Lib.hid hB
    have HK0 := Lib.hid hk0
    clear hbl hB hk0
    by_cases hlt : k < n
    · have hk1 : (k : Int) < (n : Int) := by omega
      have hkp : (0 : Int) ≤ (k : Int) := by omega
      have hne : ¬ n = k := by omega
      have hkpos : 0 < k := by
        rcases Nat.eq_zero_or_pos k with h | h
        · have := HK0.out h; omega
        · exact h
      obtain ⟨q, hq⟩ : ∃ q, q = Nat.min k (n - k) := ⟨_, rfl⟩
      have hq1 : q ≤ k := by rw [hq]; exact Nat.min_le_left _ _
      have hq2 : q ≤ n - k := by rw [hq]; exact Nat.min_le_right _ _
      have hq3 : 0 < q := by rw [hq]; show 0 < min k (n - k); omega
      have HLn : Hid ((intl (List.replicate q v)).length = q) := by show _ = _; simp [intl]
      have HMn : Hid ((intl (List.replicate q v)).length = Nat.min k (n - k)) := HLn.out.trans hq
      have HPos : Hid (∀ j u, (intl (List.replicate q v))[j]? = some u → wa.cell? ((⟨w.heap.size, 0, none⟩ : Addr).add j) = some u) := fun j u hj => by
        have hjq : j < q := by have := (List.getElem?_eq_some_iff.1 hj).1; rw [HLn.out] at this; exact this
        have e2 : (intl (repL n k v))[j]? = some u := by
          have h2 := (List.getElem?_eq_some_iff.1 hj).2
          have h3 : u = .int .i64 v := by simpa [intl] using h2.symm
          rw [h3]
          unfold intl repL
          rw [List.getElem?_map, List.getElem?_append_left (by simp; omega), List.getElem?_replicate, if_pos (by omega)]
          rfl
        rw [Addr.add_lit, Nat.zero_add]
        exact cell_at j HBl.out (by rw [List.getElem?_toArray]; exact e2)
      have HFit : Hid (k + (intl (List.replicate q v)).length ≤ (intl (repL n k v)).length) := by
        show _ ≤ _
        rw [HLn.out, repL_len v (by omega)]; omega
      have HOne : Hid (∀ u ∈ intl (List.replicate q v), u.oneCell' = true) := fun u hu => by obtain ⟨z, _, rfl⟩ := List.mem_map.1 hu; rfl
      have HSp := Lib.hid (repL_splice (n := n) (k := k) (m := q) v (by omega))
      have hk2 : (k : Int) ≤ (n : Int) := by omega
      have hw : IntKind.i64.wrap ((k : Int) + (q : Int)) = (k : Int) + (q : Int) := IntWalk.i64_in _ (by omega)
      clear hq
      go_wp2_with fail
      go_region_held3 (fun w' => KeepT w') (exact keepT _)
        ((first
          | (refine step_copy_splice (by rfl) _ _ 22 22 (by rfl) 3 Tryd.underlying22 HSz.out (some ⟨w.heap.size, k, none⟩) (some ⟨w.heap.size, 0, none⟩) (n - k) (n - k) k n (by rfl) (by rfl) w.heap.size k (intl (repL n k v)) 3 HBl.out (intl (List.replicate q v)) HMn.out (fun _ => ⟨rfl, _, rfl, HPos.out⟩) HFit.out HOne.out w.heap.size w HB.out.drew (Nat.le_refl _) ?_
             intro w4 hg4 hb4
             rw [HLn.out]
             have HB4 := Lib.hid hb4
             have hg4' := hg4.out
             rw [HSp.out] at hg4'
             have HG4 := Lib.hid hg4'
             clear hg4 hb4 hg4')
          | fail))
      go_wp2_with fail
      go_roundw
      case rel => exact ⟨k + q, by omega, by omega, by go_num, HG4.out, HB4.out⟩
      case measure => simp [intOf]; omega
    · obtain rfl : k = n := by omega
      go_wp2_with fail
      go_ret
      refine ⟨rfl, ?_, HB.out⟩
      have e : repL k k v = List.replicate k v := by simp [repL]
      have := HBl.out
      rw [e] at this
      exact owns_of_block (Nat.zero_le _) (by unfold maxLen; omega) (by simp [intl]) this
end Go.Proofs.YtafdijcolponjaaDoor
