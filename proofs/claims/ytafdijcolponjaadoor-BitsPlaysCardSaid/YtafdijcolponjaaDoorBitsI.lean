/- The contracts of a set's Meets, and of the document's Make and Meets. No condition but those in each statement. -/
import Derived.Test.YtafdijcolponjaaDoorBitsG
import Derived.Test.YtafdijcolponjaaDoorRowB
namespace Go.Proofs.YtafdijcolponjaaDoor
open Go.RowKit

def bools (l : List Bool) : Array Value := (l.map Value.bool).toArray
/-- A document's set, as the words say it. -/
def bl (ws : List Nat) : List Bool := (List.range 500).map (mem ws)
theorem bl_len (ws : List Nat) : (bl ws).length = 500 := by simp [bl]
theorem bools_size (ws : List Nat) : (bools (bl ws)).size = 500 := by simp [bools, bl]
theorem bools_at (ws : List Nat) {i : Nat} (h : i < 500) : (bools (bl ws))[i]? = some (.bool (mem ws i)) := by simp [bools, bl, h]
theorem bools_one (l : List Bool) : (bools l).all (·.oneCell') = true := by
  refine Array.all_eq_true_iff_forall_mem.2 fun v hv => ?_
  obtain ⟨b, _, rfl⟩ := List.mem_map.1 (List.mem_toArray.1 hv)
  rfl
def W0 : List Nat := [0, 0, 0, 0, 0, 0, 0, 0]
theorem mem_W0 (i : Nat) : mem W0 i = false := by
  unfold mem W0
  have : ([0, 0, 0, 0, 0, 0, 0, 0] : List Nat).getD (i / 64) 0 = 0 := by
    rcases Nat.lt_or_ge (i / 64) 8 with h | h
    · generalize i / 64 = j at h
      match j, h with
      | 0, _ => rfl
      | 1, _ => rfl
      | 2, _ => rfl
      | 3, _ => rfl
      | 4, _ => rfl
      | 5, _ => rfl
      | 6, _ => rfl
      | 7, _ => rfl
      | n + 8, h => omega
    · rw [List.getD_eq_getElem?_getD, List.getElem?_eq_none (by simpa using h)]; rfl
  rw [this]; simp
theorem bl_W0 : bl W0 = List.replicate 500 false := by
  unfold bl
  refine List.ext_getElem (by rw [List.length_map, List.length_range, List.length_replicate]) fun i h1 h2 => ?_
  rw [List.getElem_map, List.getElem_replicate, List.getElem_range, mem_W0]
theorem bl_put {ws : List Nat} (h : ws.length = 8) {n : Nat} (hn : n < 500) : bl (putW ws n) = (bl ws).set n true := by
  refine List.ext_getElem (by simp [bl]) fun i h1 h2 => ?_
  simp only [bl, List.getElem_map, List.getElem_range, List.getElem_set]
  rw [mem_put (by omega)]
  by_cases e : i = n
  · subst e; simp
  · have : ¬ n = i := fun e' => e e'.symm
    simp [e, this]

theorem newW_len (l : List Int) : (newW l).length = 8 := by
  unfold newW
  generalize h0 : [0, 0, 0, 0, 0, 0, 0, 0] = z
  have hz : z.length = 8 := by rw [← h0]; rfl
  clear h0
  induction l generalizing z with
  | nil => exact hz
  | cons x l ih =>
    refine ih _ ?_
    unfold put1
    split
    · simp [putW, hz]
    · exact hz

theorem infoRef : (Tryd.prog.info? 35).map (fun i => (i.zero, i.size)) = some (some (.agg (bools (List.replicate 500 false))), 500) := by kernel_rfl
theorem builtRef : Tryd.prog.built 35 [] = some (bools (List.replicate 500 false)) := by kernel_rfl

def AggEnds (ws : List Nat) (w : World) (e : Ending) (w' : World) : Prop :=
  e = .returned (.agg (bools (bl ws))) ∧ Below w.heap.size w w'
def MakeRel (w : World) (l : List Int) (i : Value) (wr : World) : Prop :=
  ∃ k : Nat, k ≤ l.length ∧ i = .int .i64 k ∧ wr.heap[w.heap.size + 1]? = some (.cells (bools (bl (newW (l.take k)))) 35 (0, 0)) ∧
    wr.heap[w.heap.size]? = some (.cells (bools (bl W0)) 35 (0, 0)) ∧ Below w.heap.size w wr

set_option maxRecDepth 20000 in
theorem make_any (a : Option Addr) (len cap : Nat) (l : List Int) (w : World) (h : Src w a len cap 1 (intl l)) :
    Calls Tryd.prog 29 #[.slice a len cap] w (AggEnds (newW l) w) := by
  have hl : l.length = len := by have := h.1; simpa [intl] using this
  have hle := h.2.2.1
  have hx := h.2.2.2.1
  unfold maxLen at hx
  subst hl
  have HA := Lib.hid h
  have HZ := Lib.hid (zero_of_info infoRef)
  have HB := Lib.hid builtRef
  rw [← bl_W0] at HZ HB
  clear h
  have hs0 : (bools (bl W0)).size = 500 := bools_size W0
  have HS := Lib.hid hs0
  have H1 := Lib.hid (bools_one (bl W0))
  have HW : Hid (bl W0 = bl (newW (l.take 0))) := rfl
  clear hs0
  generalize hc0 : bools (bl W0) = c0 at *
  have HC0 := Lib.hid hc0
  clear hc0
  have HN := Lib.hid (heap_new (w.alloc (.cells c0 35)) (.cells c0 35))
  have HSZ : Hid ((w.alloc (.cells c0 35)).heap.size = w.heap.size + 1) := by show _ = _; simp
  have HN0 : Hid (((w.alloc (.cells c0 35)).alloc (.cells c0 35)).heap[w.heap.size]? = some (.cells c0 35 (0, 0))) := by
    have := heap_alloc_lt (w := w.alloc (.cells c0 35)) (o := .cells c0 35) (k := w.heap.size) (by simp)
    exact this.trans (heap_new _ _)
  have HIC : Hid ((Tryd.prog.info? 35).map (·.size) = some c0.size) := by show _ = _; rw [HS.out]; exact HZ.out.2
  have HBel := Lib.hid (((Below.refl w.heap.size w).alloc (Nat.le_refl _) (.cells c0 35)).alloc (by simp) (.cells c0 35))
  go_enter Tryd.func29, Tryd.ntmps29
  go_wp2_with (first | (refine wpList_alloc_zero rfl 35 rfl c0 HZ.out.1 ?_) | (refine wpList_build_none rfl 35 rfl c0 HB.out ?_) | (refine wpList_store_whole rfl 35 _ _ rfl (w.alloc (.cells c0 35)).heap.size c0 c0 35 rfl rfl HN.out HIC.out rfl H1.out ?_; intro w1 hw1 hC1; rw [HSZ.out] at hw1 hC1; have HW1 := Lib.hid hw1; have HC1 := Lib.hid hC1; clear hw1 hC1) | fail)
  go_loopw [4] (fun i wr => MakeRel w l i wr) (fun i _ => l.length - (intOf i).toNat)
  case atStart =>
    refine ⟨0, Nat.zero_le _, rfl, ?_, ?_, HBel.out.trans (HC1.out.below (by have := HBel.out.size; omega) (fun k hk e => by omega))⟩
    · rw [← HW.out, HC0.out]; exact HW1.out
    · rw [HC0.out]; exact (HC1.out.block _ (by simp; omega) (by omega)).trans HN0.out
  case round =>
    clear HBel HN HN0 HW1 HC1
    obtain ⟨k, hk, rfl, hb, hb0, hB⟩ := hrel
    by_cases hlt : k < l.length
    · obtain ⟨b, o, hab, hc⟩ := HA.out.plain (by omega)
      cases hab
      have hc1 := hc k hlt
      have hcw := (World.cell?_of_block (hB.block b (World.block_lt_of_cell? w _ hc1))).trans hc1
      generalize hz : l.getD k 0 = z at hcw
      have ht := newW_take hlt
      rw [hz] at ht
      have HTk := Lib.hid ht
      have hl8 := newW_len (l.take k)
      generalize newW (l.take k) = ws at *
      have HB0 := Lib.hid hb0
      have HBl := Lib.hid hB
      have HBk := Lib.hid hb
      have hk0 : (0 : Int) ≤ (k : Int) := by omega
      have hk1 : (k : Int) < (l.length : Int) := by omega
      clear hc hc1 hz ht hb0 hB
      by_cases hr : 0 ≤ z ∧ z < 500
      · obtain ⟨n, rfl⟩ := Int.eq_ofNat_of_zero_le hr.1
        have hn : n < 500 := by omega
        have c1 : wr.cell? ⟨w.heap.size + 1, n, none⟩ = some (.bool (mem ws n)) := cell_at n hb (bools_at ws hn)
        have f1 := free_at n hb
        have e1 : newW (l.take (k + 1)) = putW ws n := by rw [HTk.out]; unfold put1; rw [if_pos hr]; rfl
        have E1 := Lib.hid e1
        have HL8 := Lib.hid hl8
        have hn0 : (0 : Int) ≤ (n : Int) := by omega
        have hn1 : (n : Int) < 500 := by omega
        clear hb e1 hl8 hr
        go_wp2_with fail
        go_roundw
        case rel =>
          refine ⟨k + 1, hlt, by go_num, ?_, ?_, ?_⟩
          · rw [E1.out, bl_put HL8.out hn]
            have := heap_set n (.bool true) HBk.out
            rw [this]
            simp [bools, List.map_set]
          · rw [heap_set_ne n _ (by omega)]; exact HB0.out
          · exact HBl.out.setCell (by show w.heap.size ≤ w.heap.size + 1; omega) _
        case measure => simp [intOf]; omega
      · have e1 : newW (l.take (k + 1)) = ws := by rw [HTk.out]; unfold put1; rw [if_neg hr]
        have E1 := Lib.hid e1
        clear e1 hl8 hb
        by_cases hz0 : 0 ≤ z
        · have hz1 : ¬ z < 500 := fun h => hr ⟨hz0, h⟩
          clear hr
          go_wp2_with fail
          go_roundw
          case rel => exact ⟨k + 1, hlt, by go_num, by rw [E1.out]; exact HBk.out, HB0.out, HBl.out⟩
          case measure => simp [intOf]; omega
        · clear hr
          go_wp2_with fail
          go_roundw
          case rel => exact ⟨k + 1, hlt, by go_num, by rw [E1.out]; exact HBk.out, HB0.out, HBl.out⟩
          case measure => simp [intOf]; omega
    · obtain rfl : k = l.length := by omega
      rw [List.take_length] at hb
      have hsz := bools_size (newW l)
      have hon := bools_one (bl (newW l))
      generalize hcc : bools (bl (newW l)) = cs at *
      have HCC := Lib.hid hcc
      have HBk := Lib.hid hb
      have HB0 := Lib.hid (hb0.trans (by rw [HC0.out]))
      have HBl := Lib.hid hB
      have HI2 : Hid ((Tryd.prog.info? 35).map (·.size) = some cs.size) := by show _ = _; rw [hsz]; exact HZ.out.2
      have HON := Lib.hid hon
      have HSS : Hid (c0.size = cs.size) := by show _ = _; rw [hsz, HS.out]
      clear hcc hb hb0 hB hsz hon
      go_wp2_with (first | (refine wpList_load_whole rfl 35 _ rfl (w.heap.size + 1) cs _ _ rfl HBk.out Tryd.underlying35 rfl HI2.out ?_) | (refine wpList_store_whole rfl 35 _ _ rfl w.heap.size c0 cs 35 rfl rfl HB0.out HI2.out HSS.out HON.out ?_; intro w1 hw1 hC1; have HW1 := Lib.hid hw1; have HC1 := Lib.hid hC1; clear hw1 hC1) | fail)
      refine bodyPost_ret_by (results_cell_row Tryd.results29 _ _ w.heap.size 35 cs (0, 0) _ rfl HW1.out Tryd.underlying35 rfl HI2.out) rfl ⟨by rw [HCC.out], ?_⟩
      exact HBl.out.trans (HC1.out.below HBl.out.size (fun k hk e => by omega))

def meetsB (x y : List Nat) : Bool := (List.range 500).any fun i => mem x i && mem y i
def BoolEnds (b : Bool) (w : World) (e : Ending) (w' : World) : Prop := e = .returned (.bool b) ∧ Below w.heap.size w w'
def RefMeetsRel (x y : List Nat) (W : World) (i : Value) (wr : World) : Prop :=
  ∃ k : Nat, k ≤ 500 ∧ i = .int .i64 k ∧ (∀ j, j < k → (mem x j && mem y j) = false) ∧ W = wr

theorem refMeets_any (x y : List Nat) (w : World) :
    Calls Tryd.prog 28 #[.agg (bools (bl x)), .agg (bools (bl y))] w (BoolEnds (meetsB x y) w) := by
  have HX := Lib.hid (fun (i : Nat) (h : i < 500) => bools_at x h)
  have HY := Lib.hid (fun (i : Nat) (h : i < 500) => bools_at y h)
  generalize bools (bl x) = cx at *
  generalize bools (bl y) = cy at *
  go_enter Tryd.func28, Tryd.ntmps28
  go_wp2_with fail
  have HC1 := Lib.hid ((heap_alloc_lt (w := w.alloc (.cells cx 35)) (o := .cells cy 35) (k := w.heap.size) (by simp)).trans (heap_new _ _))
  have hc2 := heap_new (w.alloc (.cells cx 35)) (.cells cy 35)
  rw [show (w.alloc (.cells cx 35)).heap.size = w.heap.size + 1 by simp] at hc2
  have HC2 := Lib.hid hc2
  have HB := Lib.hid (((Below.refl w.heap.size w).alloc (Nat.le_refl _) (.cells cx 35)).alloc (by simp) (.cells cy 35))
  clear hc2
  generalize (w.alloc (.cells cx 35)).alloc (.cells cy 35) = W at *
  go_loopw [5] (fun i wr => RefMeetsRel x y W i wr) (fun i _ => 500 - (intOf i).toNat)
  case atStart => exact ⟨0, by omega, rfl, fun j hj => by omega, rfl⟩
  case round =>
    obtain ⟨k, hk, rfl, hall, rfl⟩ := hrel
    have HALL := Lib.hid hall
    clear hall
    by_cases hlt : k < 500
    · have c1 := cell_at k HC1.out (HX.out k hlt)
      have c2 := cell_at k HC2.out (HY.out k hlt)
      have hk0 : (0 : Int) ≤ (k : Int) := by omega
      have hk1 : (k : Int) < 500 := by omega
      cases hmx : mem x k with
      | true =>
        rw [hmx] at c1
        cases hmy : mem y k with
        | true =>
          rw [hmy] at c2
          have HM : Hid (mem x k = true ∧ mem y k = true) := ⟨hmx, hmy⟩
          clear hmx hmy
          go_wp2_with fail
          go_ret
          refine ⟨ret_bool ?_, HB.out⟩
          exact (List.any_eq_true.2 ⟨k, List.mem_range.2 hlt, by rw [HM.out.1, HM.out.2]; rfl⟩).symm
        | false =>
          rw [hmy] at c2
          have HM : Hid (mem x k = true ∧ mem y k = false) := ⟨hmx, hmy⟩
          clear hmx hmy
          go_wp2_with fail
          go_roundw
          case rel =>
            refine ⟨k + 1, hlt, by go_num, fun j hj => ?_, rfl⟩
            rcases Nat.lt_or_ge j k with g | g
            · exact HALL.out j g
            · obtain rfl : j = k := by omega
              rw [HM.out.1, HM.out.2]; rfl
          case measure => simp [intOf]; omega
      | false =>
        rw [hmx] at c1
        have HM : Hid (mem x k = false) := hmx
        clear hmx c2
        go_wp2_with fail
        go_roundw
        case rel =>
          refine ⟨k + 1, hlt, by go_num, fun j hj => ?_, rfl⟩
          rcases Nat.lt_or_ge j k with g | g
          · exact HALL.out j g
          · obtain rfl : j = k := by omega
            rw [HM.out]; rfl
        case measure => simp [intOf]; omega
    · obtain rfl : k = 500 := by omega
      go_wp2_with fail
      go_ret
      refine ⟨ret_bool ?_, HB.out⟩
      refine (List.any_eq_false.2 fun j hj => ?_).symm
      have := HALL.out j (List.mem_range.1 hj)
      rw [this]
      exact Bool.false_ne_true
end Go.Proofs.YtafdijcolponjaaDoor
