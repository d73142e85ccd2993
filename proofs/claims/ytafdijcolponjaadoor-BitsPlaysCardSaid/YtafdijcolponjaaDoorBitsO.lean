/- The contract of a set's Join. No condition but those in each statement. -/
import Derived.Test.YtafdijcolponjaaDoorBitsN
namespace Go.Proofs.YtafdijcolponjaaDoor
open Go.RowKit

/-- The first k words joined. -/
def mixW (x y : List Nat) (k : Nat) : List Nat := (List.range 8).map fun i => if i < k then x.getD i 0 ||| y.getD i 0 else x.getD i 0
theorem mixW_len (x y : List Nat) (k : Nat) : (mixW x y k).length = 8 := by simp [mixW]
theorem mixW_zero {x y : List Nat} (hx : x.length = 8) : mixW x y 0 = x := by
  refine List.ext_getElem (by simp [mixW, hx]) fun i h1 h2 => ?_
  simp [mixW, List.getElem?_eq_getElem h2]
theorem mixW_at (x y : List Nat) {k i : Nat} (hi : i < 8) : (mixW x y k).getD i 0 = if i < k then x.getD i 0 ||| y.getD i 0 else x.getD i 0 := by
  simp [mixW, List.getD, hi]
theorem mixW_step (x y : List Nat) {k : Nat} : (mixW x y k).set k (x.getD k 0 ||| y.getD k 0) = mixW x y (k + 1) := by
  refine List.ext_getElem (by simp [mixW]) fun i h1 h2 => ?_
  rw [List.getElem_set]
  by_cases e : k = i
  · subst e; simp [mixW]
  · rw [if_neg e]
    have h3 : i < 8 := by simpa [mixW] using h2
    by_cases h4 : i < k
    · simp [mixW, h4, show i < k + 1 by omega]
    · simp [mixW, h4, show ¬ i < k + 1 by omega]
theorem mixW_lt {x y : List Nat} (hx : ∀ a ∈ x, a < 2 ^ 64) (hy : ∀ a ∈ y, a < 2 ^ 64) (k : Nat) : ∀ a ∈ mixW x y k, a < 2 ^ 64 := by
  intro a ha
  obtain ⟨i, -, rfl⟩ := List.mem_map.1 ha
  split
  · exact or_lt (getD_lt hx i) (getD_lt hy i)
  · exact getD_lt hx i
def joinW (x y : List Nat) : List Nat := mixW x y 8
def JoinEnds (a : Nat) (x y : List Nat) (w : World) (e : Ending) (w' : World) : Prop :=
  e = .returned (.bool (!decide (joinW x y = x))) ∧ SetAt w' a (joinW x y) ∧ Chg (· = a) w w'
def JoinRel (w : World) (a c : Nat) (x y : List Nat) (i : Value) (wr : World) : Prop :=
  ∃ k : Nat, k ≤ 8 ∧ i = .int .i64 k ∧ SetAt wr a (mixW x y k) ∧ wr.heap[c]? = some (.cells (words x) 99 (0, 0)) ∧ Chg (· = a) w wr

set_option maxRecDepth 20000 in
set_option maxHeartbeats 1000000 in
theorem join_any (a b : Nat) (x y : List Nat) (w : World) (hx : SetAt w a x) (hy : SetAt w b y) :
    Calls Tryd.prog 32 #[.pointer (some ⟨a, 0, none⟩), .pointer (some ⟨b, 0, none⟩)] w (JoinEnds a x y w) := by
  have hrx := set_range hx
  have haw := lt_of_block hx.1
  have hbw := lt_of_block hy.1
  have HX := Lib.hid hx
  have HY := Lib.hid hy
  have HZ := Lib.hid (zero_of_info infoArr)
  have hszx : (words x).toList.length = 8 := by simp [words, hx.2.1]
  have hszy : (words y).toList.length = 8 := by simp [words, hy.2.1]
  have HIx := Lib.hid (by rw [hszx]; exact infoWords : (Tryd.prog.info? 99).map (·.size) = some (words x).toList.length)
  have HIy := Lib.hid (by rw [hszy]; exact infoWords : (Tryd.prog.info? 99).map (·.size) = some (words y).toList.length)
  have HIx2 : Hid ((Tryd.prog.info? 99).map (·.size) = some (words x).size) := by show _ = _; rw [words_size hx.2.1]; exact infoWords
  have HEq : Hid ((words W0).size = (words x).size) := by show _ = _; rw [words_size hx.2.1, words_size (ws := W0) rfl]
  have HO := Lib.hid (words_one x)
  have HRx := Lib.hid hrx
  have HN := Lib.hid (heap_new w (.cells (words W0) 99))
  have hry : ∀ w' : World, w'.heap[b]? = w.heap[b]? → w'.rangeAt b 0 (words y).toList := fun w' h => set_range ⟨h.trans hy.1, hy.2.1, hy.2.2⟩
  have HRy := Lib.hid hry
  have hyn : Hid (∀ j, j < 8 → (words y)[j]? = some (.int .u64 ((y.getD j 0 : Nat) : Int))) := fun j hj => words_nth y (by rw [hy.2.1]; exact hj)
  clear hx hy hrx hszx hszy hry
  go_enter Tryd.func32, Tryd.ntmps32
  go_wp2_with (first | (refine wpList_load_mid rfl 99 _ rfl a 0 rfl (words x).toList _ HRx.out Tryd.underlying99 rfl HIx.out ?_) | (refine wpList_alloc_zero rfl 99 rfl (words W0) HZ.out.1 ?_) | (refine wpList_store_whole rfl 99 _ _ rfl w.heap.size (words W0) (words x) 99 rfl rfl HN.out HIx2.out HEq.out HO.out ?_; intro w1 hw1 hC1; have HW1 := Lib.hid hw1; have HC1 := Lib.hid hC1; clear hw1 hC1; have HRy1 := Lib.hid (HRy.out w1 ((HC1.out.block b (by simp; omega) (by omega)).trans (heap_alloc_lt hbw)))) | (refine wpList_load_mid rfl 99 _ rfl b 0 rfl (words y).toList _ HRy1.out Tryd.underlying99 rfl HIy.out ?_) | fail)
  have hS1 : SetAt w1 a (mixW x y 0) := by
    rw [mixW_zero HX.out.2.1]
    exact ⟨(HC1.out.block a (by simp; omega) (by omega)).trans ((heap_alloc_lt haw).trans HX.out.1), HX.out.2⟩
  have hCh : Chg (· = a) w w1 := ⟨HC1.out.os, HC1.out.tape, HC1.out.output, by have := HC1.out.size; simp at this; omega, fun q hq _ => (HC1.out.block q (by simp; omega) (by omega)).trans (heap_alloc_lt hq)⟩
  have HS1 := Lib.hid hS1
  have HCh := Lib.hid hCh
  obtain ⟨c, hc⟩ : ∃ c, c = w.heap.size := ⟨_, rfl⟩
  rw [← hc] at HW1
  have hca : c ≠ a := by omega
  have HCc := Lib.hid hc
  clear hS1 hCh
  rw [← hc]
  clear hc
  go_loopw [22] (fun i wr => JoinRel w a c x y i wr) (fun i _ => 8 - (intOf i).toNat)
  case atStart => exact ⟨0, by omega, rfl, HS1.out, HW1.out, HCh.out⟩
  case round =>
    clear HS1 HW1 HCh HC1 HRy1
    obtain ⟨k, hk, rfl, hS, hW, hC⟩ := hrel
    have HS := Lib.hid hS
    have HW := Lib.hid hW
    have HC := Lib.hid hC
    by_cases hlt : k < 8
    · have hat : (mixW x y k).getD k 0 = x.getD k 0 := by rw [mixW_at x y hlt, if_neg (by omega)]
      have hc1 : wr.cell? ⟨a, k, none⟩ = some (.int .u64 ((x.getD k 0 : Nat) : Int)) := by
        have := words_nth (mixW x y k) (i := k) (by rw [mixW_len]; exact hlt)
        rw [hat] at this
        exact cell_at k hS.1 this
      have fb := free_at k hS.1
      have hyk := hyn.out k hlt
      have hor := or_lt (getD_lt HX.out.2.2 k) (getD_lt HY.out.2.2 k)
      have hbo : bits .or .u64 ((x.getD k 0 : Nat) : Int) ((y.getD k 0 : Nat) : Int) = ((x.getD k 0 ||| y.getD k 0 : Nat) : Int) := u64_or_nat _ _ (getD_lt HX.out.2.2 k) (getD_lt HY.out.2.2 k)
      have HSt := Lib.hid (mixW_step x y (k := k))
      obtain ⟨xk, hxk⟩ : ∃ v, v = x.getD k 0 := ⟨_, rfl⟩
      obtain ⟨yk, hyk2⟩ : ∃ v, v = y.getD k 0 := ⟨_, rfl⟩
      rw [← hxk] at hc1 hbo HSt
      rw [← hyk2] at hyk hbo HSt
      have HBo := Lib.hid hbo
      have hq0 : (0 : Int) ≤ (k : Int) := by omega
      have hq1 : (k : Int) < 8 := by omega
      clear hS hW hC hat hor hbo hxk hyk2
      generalize words y = csy at *
      go_wp2_with (first | (refine wpList_index_one rfl 99 _ _ rfl 98 8 _ _ k _ rfl rfl Tryd.underlying99 Tryd.underlying98 rfl infoWord hlt hyk ?_) | fail)
      go_region
      go_wp2_with fail
      go_roundw
      case rel =>
        rw [HBo.out]
        have hh := heap_set k (.int .u64 ((xk ||| yk : Nat) : Int)) HS.out.1
        rw [words_set, HSt.out] at hh
        refine ⟨k + 1, by omega, by go_num, ⟨hh, mixW_len _ _ _, mixW_lt HX.out.2.2 HY.out.2.2 _⟩, (heap_set_ne k _ hca).trans HW.out, ?_⟩
        exact (HC.out.set1 k _).drew
      case measure => simp [intOf]; omega
    · have e : k = 8 := by omega
      subst e
      have hrj := set_range hS
      have hszj : (words (mixW x y 8)).toList.length = 8 := by simp [words, mixW_len]
      have HIj := Lib.hid (by rw [hszj]; exact infoWords : (Tryd.prog.info? 99).map (·.size) = some (words (mixW x y 8)).toList.length)
      have hrc : wr.rangeAt c 0 (words x).toList := fun j v hj => by
        rw [Nat.zero_add]
        exact cell_at j hW (by simpa using hj)
      have HEq := Lib.hid (fun W => words_same (mixW x y 8) x W (mixW_len _ _ _) HX.out.2.1 hS.2.2 HX.out.2.2)
      have HRj := Lib.hid hrj
      have HRc := Lib.hid hrc
      have hg : Tryd.prog.eqGuardType Tryd.prog.depth 99 = false := by kernel_rfl
      have HG := Lib.hid hg
      clear hS hW hC hrj hrc hszj hg
      go_wp2_with fail
      refine region_tail 6 (by kernel_rfl) (by kernel_rfl) fun w3 hS3 => ?_
      have hr1 : w3.rangeAt a 0 (words (mixW x y 8)).toList := fun j v hj => hS3.cell (HRj.out j v hj)
      have hr2 : w3.rangeAt c 0 (words x).toList := fun j v hj => hS3.cell (HRc.out j v hj)
      have HR1 := Lib.hid hr1
      have HR2 := Lib.hid hr2
      have HS3 := Lib.hid hS3
      clear hr1 hr2 hS3
      simp only [List.take_succ_cons, List.take_zero, List.drop_succ_cons, List.drop_zero]
      still_step
      still_step
      still_step
      refine wpStill_load_mid rfl 99 _ rfl a 0 rfl (words (mixW x y 8)).toList _ HR1.out Tryd.underlying99 rfl HIj.out ?_
      refine wpStill_load_mid rfl 99 _ rfl c 0 rfl (words x).toList _ HR2.out Tryd.underlying99 rfl HIx.out ?_
      refine wpStill_neq rfl 99 _ _ _ rfl (words (mixW x y 8)).toList.toArray (words x).toList.toArray rfl rfl HG.out _ (HEq.out w3) ?_
      refine wpStill_nil ?_
      go_wp2_with fail
      go_ret
      exact ⟨rfl, ⟨(HS3.out.at a).trans HS.out.1, HS.out.2⟩, HC.out.trans HS3.out.chg⟩
end Go.Proofs.YtafdijcolponjaaDoor
