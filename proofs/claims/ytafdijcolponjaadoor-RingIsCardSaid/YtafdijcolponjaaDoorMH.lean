/- Whole arrays and structs by value: made, stored, loaded. No program is walked here; no condition but those in each statement. The contracts of a set's Meets, and of the document's Make and Meets. No condition but those in each statement. BitsMeets answers true, whatever comes in, where the table lies. No condition but those in each statement. BitsMeets answers true, whatever comes in, where the table lies. No condition but those in each statement. The contracts of the document's Put, Has, All, Join, and of a set's Copy. No condition but those in each statement. Reads within a region that draws its order: whole rows, and '!=' on arrays of eight words. No program is walked here; no condition but those in each statement. The contracts of a set's Copy and Join. No condition but those in each statement. Whether two arrays of eight words are the same. No program is walked here; no condition but those in each statement. The contract of a set's Join. No condition but those in each statement. Closures, in plain Lean: what is reached by way of the first nodes, what is thin, and that both close alike. No program is walked here; no condition but those in each statement. The contracts of slices.IndexFunc and ContainsFunc at numbers, whatever the predicate. Conditions: those in each statement. -/
import Derived.Test.YtafdijcolponjaaDoorMG
import Derived.Deep.WholeRow
import Derived.Laws.NewBlocks
import Derived.Laws.ResultCell
import Derived.DeepKeys
import Derived.Laws.StructEq
namespace Go.Proofs.YtafdijcolponjaaDoor
open Go.RowKit
variable {P : Program}

/-- A variable of a type whose zero value is known: a new block. -/
theorem wpList_alloc_zero {ops : Array Oper} {rest : List Oper} {op : Oper} {a : Act} {w : World} {Q : Exit → Act → World → Prop} (hgd : op.guard = none) (ty : TypeId) (ho : op.op = .alloc ty)
    (cs : Array Value) (hz : ∀ w, (zeroValue ty).run P w = .ok (.agg cs) w)
    (h : wpList P ops Q rest (a.put op.dst (.pointer (some ⟨w.heap.size, 0, none⟩))) (w.alloc (.cells cs ty))) : wpList P ops Q (op :: rest) a w :=
  wpList_plain hgd fun _ hK => by
    unfold Oper.wp execOp
    simp only [ho, Instr.alloc, Sem.run_bind, Sem.run_pure, Result.andThen_ok, hz]
    exact hK _ _ h

theorem wpList_build_none {ops : Array Oper} {rest : List Oper} {op : Oper} {a : Act} {w : World} {Q : Exit → Act → World → Prop} (hgd : op.guard = none) (ty : TypeId) (ho : op.op = .build ty #[])
    (cs : Array Value) (hz : P.built ty [] = some cs)
    (h : wpList P ops Q rest (a.put op.dst (.agg cs)) w) : wpList P ops Q (op :: rest) a w :=
  wpList_build hgd ty #[] ho (by simp [hz]) (by simpa [hz] using h)

theorem setRow_chg (w : World) (b : Nat) (cs : Array Value) : Chg (· = b) w (w.setRow b cs) := by
  refine ⟨rfl, rfl, rfl, by simp [World.setRow], fun k _ hk => ?_⟩
  simp only [World.setRow, Array.getElem?_modify]
  rw [if_neg (fun e => hk e.symm)]

/-- A whole row or struct into its block. -/
theorem wpList_store_whole {ops : Array Oper} {rest : List Oper} {op : Oper} {a : Act} {w : World} {Q : Exit → Act → World → Prop} (hgd : op.guard = none) (ty : TypeId) (x y : Operand) (ho : op.op = .store ty x y)
    (b : Nat) (old cs : Array Value) (t : TypeId) (hx : a.eval x = .pointer (some ⟨b, 0, none⟩)) (hy : a.eval y = .agg cs) (hg : w.heap[b]? = some (.cells old t (0, 0))) (hi : (P.info? ty).map (·.size) = some cs.size)
    (hold : old.size = cs.size) (h1 : cs.all (·.oneCell') = true)
    (h : ∀ w', w'.heap[b]? = some (.cells cs t (0, 0)) → Chg (· = b) w w' → wpList P ops Q rest (a.put op.dst undef) w') : wpList P ops Q (op :: rest) a w :=
  wpList_plain hgd fun _ hK => wp_store_row ty x y ho b cs hx hy t old hg hi hold h1 (hK _ _ (h _ (setRow_heap w b old cs t (0, 0) hg) (setRow_chg w b cs)))

/-- A whole row or struct out of its block. -/
theorem wpList_load_whole {ops : Array Oper} {rest : List Oper} {op : Oper} {a : Act} {w : World} {Q : Exit → Act → World → Prop} (hgd : op.guard = none) (ty : TypeId) (x : Operand) (ho : op.op = .load ty x)
    (b : Nat) (cs : Array Value) (t : TypeId) (d : TypeDesc) (hx : a.eval x = .pointer (some ⟨b, 0, none⟩)) (hg : w.heap[b]? = some (.cells cs t (0, 0))) (hu : P.underlying ty = some d) (hd : d.isRow = true) (hi : (P.info? ty).map (·.size) = some cs.size)
    (h : wpList P ops Q rest (a.put op.dst (.agg cs)) w) : wpList P ops Q (op :: rest) a w := by
  have hr : w.rangeAt b 0 cs.toList := fun j v hj => by
    rw [Nat.zero_add]
    exact cell_at j hg (by simpa using hj)
  exact wpList_load_mid hgd ty x ho b 0 hx cs.toList d hr hu hd (by simpa using hi) h
end Go.Proofs.YtafdijcolponjaaDoor

namespace Go.Proofs.YtafdijcolponjaaDoor
open Go.RowKit

def bools (l : List Bool) : Array Value := (l.map Value.bool).toArray
/-- A document's set, as the words say it. -/
def bl (ws : List Nat) : List Bool := (List.range 500).map (mem ws)
theorem bl_len (ws : List Nat) : (bl ws).length = 500 := by simp [bl]
theorem bools_size (ws : List Nat) : (bools (bl ws)).size = 500 := by simp [bools, bl]
theorem bools_at (ws : List Nat) {i : Nat} (h : i < 500) : (bools (bl ws))[i]? = some (.bool (mem ws i)) := by simp [bools, bl, h]
theorem bools_one (l : List Bool) : (bools l).all (·.oneCell') = true := by
  refine Array.all_eq_true_iff_forall_mem.2 fun v hv => ?_
  obtain ⟨b, _, rfl⟩ := List.mem_map.1 (List.mem_toArray.1 hv)
  rfl
def W0 : List Nat := [0, 0, 0, 0, 0, 0, 0, 0]
theorem mem_W0 (i : Nat) : mem W0 i = false := by
  unfold mem W0
  have : ([0, 0, 0, 0, 0, 0, 0, 0] : List Nat).getD (i / 64) 0 = 0 := by
    rcases Nat.lt_or_ge (i / 64) 8 with h | h
    · generalize i / 64 = j at h
      match j, h with
      | 0, _ => rfl
      | 1, _ => rfl
      | 2, _ => rfl
      | 3, _ => rfl
      | 4, _ => rfl
      | 5, _ => rfl
      | 6, _ => rfl
      | 7, _ => rfl
      | n + 8, h => omega
    · rw [List.getD_eq_getElem?_getD, List.getElem?_eq_none (by simpa using h)]; rfl
  rw [this]; simp
theorem bl_W0 : bl W0 = List.replicate 500 false := by
  unfold bl
  refine List.ext_getElem (by rw [List.length_map, List.length_range, List.length_replicate]) fun i h1 h2 => ?_
  rw [List.getElem_map, List.getElem_replicate, List.getElem_range, mem_W0]
theorem bl_put {ws : List Nat} (h : ws.length = 8) {n : Nat} (hn : n < 500) : bl (putW ws n) = (bl ws).set n true := by
  refine List.ext_getElem (by simp [bl]) fun i h1 h2 => ?_
  simp only [bl, List.getElem_map, List.getElem_range, List.getElem_set]
  rw [mem_put (by omega)]
  by_cases e : i = n
  · subst e; simp
  · have : ¬ n = i := fun e' => e e'.symm
    simp [e, this]

theorem newW_len (l : List Int) : (newW l).length = 8 := by
  unfold newW
  generalize h0 : [0, 0, 0, 0, 0, 0, 0, 0] = z
  have hz : z.length = 8 := by rw [← h0]; rfl
  clear h0
  induction l generalizing z with
  | nil => exact hz
  | cons x l ih =>
    refine ih _ ?_
    unfold put1
    split
    · simp [putW, hz]
    · exact hz

theorem infoRef : (Tryd.prog.info? 35).map (fun i => (i.zero, i.size)) = some (some (.agg (bools (List.replicate 500 false))), 500) := by kernel_rfl
theorem builtRef : Tryd.prog.built 35 [] = some (bools (List.replicate 500 false)) := by kernel_rfl

def AggEnds (ws : List Nat) (w : World) (e : Ending) (w' : World) : Prop :=
  e = .returned (.agg (bools (bl ws))) ∧ Below w.heap.size w w'
def MakeRel (w : World) (l : List Int) (i : Value) (wr : World) : Prop :=
  ∃ k : Nat, k ≤ l.length ∧ i = .int .i64 k ∧ wr.heap[w.heap.size + 1]? = some (.cells (bools (bl (newW (l.take k)))) 35 (0, 0)) ∧
    wr.heap[w.heap.size]? = some (.cells (bools (bl W0)) 35 (0, 0)) ∧ Below w.heap.size w wr

set_option maxRecDepth 20000 in
theorem make_any (a : Option Addr) (len cap : Nat) (l : List Int) (w : World) (h : Src w a len cap 1 (intl l)) :
    Calls Tryd.prog 29 #[.slice a len cap] w (AggEnds (newW l) w) := by
  have hl : l.length = len := by have := h.1; simpa [intl] using this
  have hle := h.2.2.1
  have hx := h.2.2.2.1
  unfold maxLen at hx
  subst hl
  have HA := Lib.hid h
  have HZ := Lib.hid (zero_of_info infoRef)
  have HB := Lib.hid builtRef
  rw [← bl_W0] at HZ HB
  clear h
  have hs0 : (bools (bl W0)).size = 500 := bools_size W0
  have HS := Lib.hid hs0
  have H1 := Lib.hid (bools_one (bl W0))
  have HW : Hid (bl W0 = bl (newW (l.take 0))) := rfl
  clear hs0
  generalize hc0 : bools (bl W0) = c0 at *
  have HC0 := Lib.hid hc0
  clear hc0
  have HN := Lib.hid (heap_new (w.alloc (.cells c0 35)) (.cells c0 35))
  have HSZ : Hid ((w.alloc (.cells c0 35)).heap.size = w.heap.size + 1) := by show _ = _; simp
  have HN0 : Hid (((w.alloc (.cells c0 35)).alloc (.cells c0 35)).heap[w.heap.size]? = some (.cells c0 35 (0, 0))) := by
    have := heap_alloc_lt (w := w.alloc (.cells c0 35)) (o := .cells c0 35) (k := w.heap.size) (by simp)
    exact this.trans (heap_new _ _)
  have HIC : Hid ((Tryd.prog.info? 35).map (·.size) = some c0.size) := by show _ = _; rw [HS.out]; exact HZ.out.2
  have HBel := Lib.hid (((Below.refl w.heap.size w).alloc (Nat.le_refl _) (.cells c0 35)).alloc (by simp) (.cells c0 35))
  go_enter Tryd.func29, Tryd.ntmps29
  go_wp2_with (first | (refine wpList_alloc_zero rfl 35 rfl c0 HZ.out.1 ?_) | (refine wpList_build_none rfl 35 rfl c0 HB.out ?_) | (refine wpList_store_whole rfl 35 _ _ rfl (w.alloc (.cells c0 35)).heap.size c0 c0 35 rfl rfl HN.out HIC.out rfl H1.out ?_; intro w1 hw1 hC1; rw [HSZ.out] at hw1 hC1; have HW1 := Lib.hid hw1; have HC1 := Lib.hid hC1; clear hw1 hC1) | fail)
  go_loopw [4] (fun i wr => MakeRel w l i wr) (fun i _ => l.length - (intOf i).toNat)
  case atStart =>
    refine ⟨0, Nat.zero_le _, rfl, ?_, ?_, HBel.out.trans (HC1.out.below (by have := HBel.out.size; omega) (fun k hk e => by omega))⟩
    · rw [← HW.out, HC0.out]; exact HW1.out
    · rw [HC0.out]; exact (HC1.out.block _ (by simp; omega) (by omega)).trans HN0.out
  case round =>
    clear HBel HN HN0 HW1 HC1
    obtain ⟨k, hk, rfl, hb, hb0, hB⟩ := hrel
    by_cases hlt : k < l.length
    · obtain ⟨b, o, hab, hc⟩ := HA.out.plain (by omega)
      cases hab
      have hc1 := hc k hlt
      have hcw := (World.cell?_of_block (hB.block b (World.block_lt_of_cell? w _ hc1))).trans hc1
      generalize hz : l.getD k 0 = z at hcw
      have ht := newW_take hlt
      rw [hz] at ht
      have HTk := Lib.hid ht
      have hl8 := newW_len (l.take k)
      generalize newW (l.take k) = ws at *
      have HB0 := Lib.hid hb0
      have HBl := Lib.hid hB
      have HBk := Lib.hid hb
      have hk0 : (0 : Int) ≤ (k : Int) := by omega
      have hk1 : (k : Int) < (l.length : Int) := by omega
      clear hc hc1 hz ht hb0 hB
      by_cases hr : 0 ≤ z ∧ z < 500
      · obtain ⟨n, rfl⟩ := Int.eq_ofNat_of_zero_le hr.1
        have hn : n < 500 := by omega
        have c1 : wr.cell? ⟨w.heap.size + 1, n, none⟩ = some (.bool (mem ws n)) := cell_at n hb (bools_at ws hn)
        have f1 := free_at n hb
        have e1 : newW (l.take (k + 1)) = putW ws n := by rw [HTk.out]; unfold put1; rw [if_pos hr]; rfl
        have E1 := Lib.hid e1
        have HL8 := Lib.hid hl8
        have hn0 : (0 : Int) ≤ (n : Int) := by omega
        have hn1 : (n : Int) < 500 := by omega
        clear hb e1 hl8 hr
        go_wp2_with fail
        go_roundw
        case rel =>
          refine ⟨k + 1, hlt, by go_num, ?_, ?_, ?_⟩
          · rw [E1.out, bl_put HL8.out hn]
            have := heap_set n (.bool true) HBk.out
            rw [this]
            simp [bools, List.map_set]
          · rw [heap_set_ne n _ (by omega)]; exact HB0.out
          · exact HBl.out.setCell (by show w.heap.size ≤ w.heap.size + 1; omega) _
        case measure => simp [intOf]; omega
      · have e1 : newW (l.take (k + 1)) = ws := by rw [HTk.out]; unfold put1; rw [if_neg hr]
        have E1 := Lib.hid e1
        clear e1 hl8 hb
        by_cases hz0 : 0 ≤ z
        · have hz1 : ¬ z < 500 := fun h => hr ⟨hz0, h⟩
          clear hr
          go_wp2_with fail
          go_roundw
          case rel => exact ⟨k + 1, hlt, by go_num, by rw [E1.out]; exact HBk.out, HB0.out, HBl.out⟩
          case measure => simp [intOf]; omega
        · clear hr
          go_wp2_with fail
          go_roundw
          case rel => exact ⟨k + 1, hlt, by go_num, by rw [E1.out]; exact HBk.out, HB0.out, HBl.out⟩
          case measure => simp [intOf]; omega
    · obtain rfl : k = l.length := by omega
      rw [List.take_length] at hb
      have hsz := bools_size (newW l)
      have hon := bools_one (bl (newW l))
      generalize hcc : bools (bl (newW l)) = cs at *
      have HCC := Lib.hid hcc
      have HBk := Lib.hid hb
      have HB0 := Lib.hid (hb0.trans (by rw [HC0.out]))
      have HBl := Lib.hid hB
      have HI2 : Hid ((Tryd.prog.info? 35).map (·.size) = some cs.size) := by show _ = _; rw [hsz]; exact HZ.out.2
      have HON := Lib.hid hon
      have HSS : Hid (c0.size = cs.size) := by show _ = _; rw [hsz, HS.out]
      clear hcc hb hb0 hB hsz hon
      go_wp2_with (first | (refine wpList_load_whole rfl 35 _ rfl (w.heap.size + 1) cs _ _ rfl HBk.out Tryd.underlying35 rfl HI2.out ?_) | (refine wpList_store_whole rfl 35 _ _ rfl w.heap.size c0 cs 35 rfl rfl HB0.out HI2.out HSS.out HON.out ?_; intro w1 hw1 hC1; have HW1 := Lib.hid hw1; have HC1 := Lib.hid hC1; clear hw1 hC1) | fail)
      refine bodyPost_ret_by (results_cell_row Tryd.results29 _ _ w.heap.size 35 cs (0, 0) _ rfl HW1.out Tryd.underlying35 rfl HI2.out) rfl ⟨by rw [HCC.out], ?_⟩
      exact HBl.out.trans (HC1.out.below HBl.out.size (fun k hk e => by omega))

def meetsB (x y : List Nat) : Bool := (List.range 500).any fun i => mem x i && mem y i
def BoolEnds (b : Bool) (w : World) (e : Ending) (w' : World) : Prop := e = .returned (.bool b) ∧ Below w.heap.size w w'
def RefMeetsRel (x y : List Nat) (W : World) (i : Value) (wr : World) : Prop :=
  ∃ k : Nat, k ≤ 500 ∧ i = .int .i64 k ∧ (∀ j, j < k → (mem x j && mem y j) = false) ∧ W = wr

theorem refMeets_any (x y : List Nat) (w : World) :
    Calls Tryd.prog 28 #[.agg (bools (bl x)), .agg (bools (bl y))] w (BoolEnds (meetsB x y) w) := by
  have HX := Lib.hid (fun (i : Nat) (h : i < 500) => bools_at x h)
  have HY := Lib.hid (fun (i : Nat) (h : i < 500) => bools_at y h)
  generalize bools (bl x) = cx at *
  generalize bools (bl y) = cy at *
  go_enter Tryd.func28, Tryd.ntmps28
  go_wp2_with fail
  have HC1 := Lib.hid ((heap_alloc_lt (w := w.alloc (.cells cx 35)) (o := .cells cy 35) (k := w.heap.size) (by simp)).trans (heap_new _ _))
  have hc2 := heap_new (w.alloc (.cells cx 35)) (.cells cy 35)
  rw [show (w.alloc (.cells cx 35)).heap.size = w.heap.size + 1 by simp] at hc2
  have HC2 := Lib.hid hc2
  have HB := Lib.hid (((Below.refl w.heap.size w).alloc (Nat.le_refl _) (.cells cx 35)).alloc (by simp) (.cells cy 35))
  clear hc2
  generalize (w.alloc (.cells cx 35)).alloc (.cells cy 35) = W at *
  go_loopw [5] (fun i wr => RefMeetsRel x y W i wr) (fun i _ => 500 - (intOf i).toNat)
  case atStart => exact ⟨0, by omega, rfl, fun j hj => by omega, rfl⟩
  case round =>
    obtain ⟨k, hk, rfl, hall, rfl⟩ := hrel
    have HALL := Lib.hid hall
    clear hall
    by_cases hlt : k < 500
    · have c1 := cell_at k HC1.out (HX.out k hlt)
      have c2 := cell_at k HC2.out (HY.out k hlt)
      have hk0 : (0 : Int) ≤ (k : Int) := by omega
      have hk1 : (k : Int) < 500 := by omega
      cases hmx : mem x k with
      | true =>
        rw [hmx] at c1
        cases hmy : mem y k with
        | true =>
          rw [hmy] at c2
          have HM : Hid (mem x k = true ∧ mem y k = true) := ⟨hmx, hmy⟩
          clear hmx hmy
          go_wp2_with fail
          go_ret
          refine ⟨ret_bool ?_, HB.out⟩
          exact (List.any_eq_true.2 ⟨k, List.mem_range.2 hlt, by rw [HM.out.1, HM.out.2]; rfl⟩).symm
        | false =>
          rw [hmy] at c2
          have HM : Hid (mem x k = true ∧ mem y k = false) := ⟨hmx, hmy⟩
          clear hmx hmy
          go_wp2_with fail
          go_roundw
          case rel =>
            refine ⟨k + 1, hlt, by go_num, fun j hj => ?_, rfl⟩
            rcases Nat.lt_or_ge j k with g | g
            · exact HALL.out j g
            · obtain rfl : j = k := by omega
              rw [HM.out.1, HM.out.2]; rfl
          case measure => simp [intOf]; omega
      | false =>
        rw [hmx] at c1
        have HM : Hid (mem x k = false) := hmx
        clear hmx c2
        go_wp2_with fail
        go_roundw
        case rel =>
          refine ⟨k + 1, hlt, by go_num, fun j hj => ?_, rfl⟩
          rcases Nat.lt_or_ge j k with g | g
          · exact HALL.out j g
          · obtain rfl : j = k := by omega
            rw [HM.out]; rfl
        case measure => simp [intOf]; omega
    · obtain rfl : k = 500 := by omega
      go_wp2_with fail
      go_ret
      refine ⟨ret_bool ?_, HB.out⟩
      refine (List.any_eq_false.2 fun j hj => ?_).symm
      have := HALL.out j (List.mem_range.1 hj)
      rw [this]
      exact Bool.false_ne_true
end Go.Proofs.YtafdijcolponjaaDoor

namespace Go.Proofs.YtafdijcolponjaaDoor
open Go.RowKit

def meetsW (x y : List Nat) : Bool := (List.range 8).any fun i => decide ((x.getD i 0 &&& y.getD i 0) ≠ 0)
def inSet (ws : List Nat) : Prop := ∀ m, 500 ≤ m → mem ws m = false

theorem newW_in (l : List Int) : inSet (newW l) := by
  intro m hm
  unfold newW
  have hz : mem [0, 0, 0, 0, 0, 0, 0, 0] m = false := mem_W0 m
  have h8 : ([0, 0, 0, 0, 0, 0, 0, 0] : List Nat).length = 8 := rfl
  generalize [0, 0, 0, 0, 0, 0, 0, 0] = z at *
  induction l generalizing z with
  | nil => exact hz
  | cons x l ih =>
    refine ih _ ?_ ?_
    · unfold put1
      split
      · rename_i hx
        rw [mem_put (by omega), hz, decide_eq_false (by omega)]; rfl
      · exact hz
    · unfold put1
      split
      · simp [putW, h8]
      · exact h8

theorem meetsW_eq (x y : List Nat) (hx : inSet x) (bx : ∀ a ∈ x, a < 2 ^ 64) : meetsW x y = meetsB x y := by
  rw [Bool.eq_iff_iff]
  unfold meetsW meetsB
  simp only [List.any_eq_true, List.mem_range, decide_eq_true_eq, Bool.and_eq_true]
  constructor
  · rintro ⟨i, hi, h⟩
    obtain ⟨b, hb⟩ := Nat.exists_testBit_of_ne_zero h
    rw [Nat.testBit_and, Bool.and_eq_true] at hb
    have hlt : b < 64 := by
      rcases Nat.lt_or_ge b 64 with g | g
      · exact g
      · have := Nat.testBit_lt_two_pow (Nat.lt_of_lt_of_le (getD_lt bx i) (Nat.pow_le_pow_right (by decide) g))
        rw [this] at hb
        cases hb.1
    have e1 : (i * 64 + b) / 64 = i := by omega
    have e2 : (i * 64 + b) % 64 = b := by omega
    have m1 : mem x (i * 64 + b) = true := by unfold mem; rw [e1, e2]; exact hb.1
    have m2 : mem y (i * 64 + b) = true := by unfold mem; rw [e1, e2]; exact hb.2
    refine ⟨i * 64 + b, ?_, m1, m2⟩
    rcases Nat.lt_or_ge (i * 64 + b) 500 with g | g
    · exact g
    · rw [hx _ g] at m1; cases m1
  · rintro ⟨n, hn, h1, h2⟩
    refine ⟨n / 64, by omega, fun h0 => ?_⟩
    unfold mem at h1 h2
    have := Nat.testBit_and (x.getD (n / 64) 0) (y.getD (n / 64) 0) (n % 64)
    rw [h0, h1, h2] at this
    simp at this
theorem meetsB_comm (x y : List Nat) : meetsB x y = meetsB y x := by
  unfold meetsB
  congr 1
  funext i
  exact Bool.and_comm _ _

def MeetsRel (x y : List Nat) (W : World) (i : Value) (wr : World) : Prop :=
  ∃ k : Nat, k ≤ 8 ∧ i = .int .i64 k ∧ (∀ j, j < k → (x.getD j 0 &&& y.getD j 0) = 0) ∧ W = wr

set_option maxRecDepth 20000 in
theorem meets_any (a b : Nat) (x y : List Nat) (w : World) (hx : SetAt w a x) (hy : SetAt w b y) :
    Calls Tryd.prog 27 #[.pointer (some ⟨a, 0, none⟩), .pointer (some ⟨b, 0, none⟩)] w fun e w' => e = .returned (.bool (meetsW x y)) ∧ w = w' := by
  have hr := set_range hy
  obtain ⟨x1, x2, x3⟩ := hx
  obtain ⟨y1, y2, y3⟩ := hy
  have hsz : (words y).toList.length = 8 := by simp [words, y2]
  have HX := Lib.hid (fun (i : Nat) (h : i < 8) => cell_at i x1 (words_nth x (i := i) (by omega)))
  have HN := Lib.hid (fun (j : Nat) (hj : j < 8) => words_nth y (i := j) (by omega))
  have HX3 := Lib.hid x3
  have HY3 := Lib.hid y3
  have HR := Lib.hid hr
  have HI := Lib.hid (by rw [hsz]; exact infoWords : (Tryd.prog.info? 99).map (·.size) = some (words y).toList.length)
  clear x1 x2 x3 y1 y2 y3 hr hsz
  go_enter Tryd.func27, Tryd.ntmps27
  go_wp2_with (first | (refine wpList_load_mid rfl 99 _ rfl b 0 rfl (words y).toList _ HR.out Tryd.underlying99 rfl HI.out ?_) | fail)
  go_loopw [17] (fun i wr => MeetsRel x y w i wr) (fun i _ => 8 - (intOf i).toNat)
  case atStart => exact ⟨0, by omega, rfl, fun j hj => by omega, rfl⟩
  case round =>
    obtain ⟨k, hk, rfl, hall, rfl⟩ := hrel
    have HALL := Lib.hid hall
    clear hall
    by_cases hlt : k < 8
    · have hn := HN.out k hlt
      have c1 := HX.out k hlt
      have bx := getD_lt HX3.out k
      have by' := getD_lt HY3.out k
      have hand : bits .and .u64 ((x.getD k 0 : Nat) : Int) ((y.getD k 0 : Nat) : Int) = ((x.getD k 0 &&& y.getD k 0 : Nat) : Int) := u64_and_nat _ _ bx by'
      have hk0 : (0 : Int) ≤ (k : Int) := by omega
      have hk1 : (k : Int) < 8 := by omega
      have HE : Hid (∀ u v z : Nat, x.getD k 0 = u → y.getD k 0 = v → u &&& v = z → (x.getD k 0 &&& y.getD k 0) = z) := fun u v z h1 h2 h3 => by rw [h1, h2, h3]
      generalize hu : x.getD k 0 = u at c1 hand
      generalize hv : y.getD k 0 = v at hn hand
      generalize hz : u &&& v = z at hand
      have hxy := HE.out u v z hu hv hz
      have HXY := Lib.hid hxy
      clear HE hu hv hz hxy bx by'
      generalize words y = cs at *
      by_cases h0 : z = 0
      · subst h0
        go_wp2_with (first | (refine wpList_index_one rfl 99 _ _ rfl 98 8 _ _ k _ rfl rfl Tryd.underlying99 Tryd.underlying98 rfl infoWord hlt hn ?_) | fail)
        go_roundw
        case rel =>
          refine ⟨k + 1, hlt, by go_num, fun j hj => ?_, rfl⟩
          rcases Nat.lt_or_ge j k with g | g
          · exact HALL.out j g
          · obtain rfl : j = k := by omega
            exact HXY.out
        case measure => simp [intOf]; omega
      · have hne : ¬ ((z : Int) = 0) := by omega
        have HZ := Lib.hid h0
        clear h0
        go_wp2_with (first | (refine wpList_index_one rfl 99 _ _ rfl 98 8 _ _ k _ rfl rfl Tryd.underlying99 Tryd.underlying98 rfl infoWord hlt hn ?_) | fail)
        go_ret
        refine ⟨ret_bool ?_, rfl⟩
        exact (List.any_eq_true.2 ⟨k, List.mem_range.2 hlt, decide_eq_true (by rw [HXY.out]; exact HZ.out)⟩).symm
    · obtain rfl : k = 8 := by omega
      go_wp2_with fail
      go_ret
      refine ⟨ret_bool ?_, rfl⟩
      refine (List.any_eq_false.2 fun j hj => ?_).symm
      rw [HALL.out j (List.mem_range.1 hj)]
      simp

theorem SetAt.below {w w' : World} {b : Nat} {ws : List Nat} (h : SetAt w b ws) {B : Nat} (hb : Below B w w') (hB : b < B) : SetAt w' b ws :=
  ⟨(hb.block b hB).trans h.1, h.2⟩
end Go.Proofs.YtafdijcolponjaaDoor

namespace Go.Proofs.YtafdijcolponjaaDoor
open Go.RowKit

theorem Src.later {w w' : World} {a : Option Addr} {len cap : Nat} {l : List Int} (h : Src w a len cap 1 (intl l)) (hb : Below w.heap.size w w') : Src w' a len cap 1 (intl l) := by
  refine h.of_block fun ad ha hl => hb.block _ ?_
  subst ha
  obtain ⟨v, hv⟩ : ∃ v, (intl l)[0]? = some v := by
    have := h.1
    exact ⟨_, List.getElem?_eq_getElem (by omega)⟩
  have := h.2.2.2.2.1 ad rfl 0 v hv
  have := World.block_lt_of_cell? w _ this
  simpa [Addr.add] using this
theorem Src.more {w w' : World} {a : Option Addr} {len cap B : Nat} {l : List Int} (h : Src w a len cap 1 (intl l)) (hb : Below B w w') (hB : w.heap.size ≤ B) : Src w' a len cap 1 (intl l) :=
  h.later (hb.mono hB)
theorem take_take100 (l : List Int) : (l.take 100).take 100 = l.take 100 := by rw [List.take_take, Nat.min_self]

theorem meetsAll_any (a b : Option Addr) (na ca nb cb : Nat) (la lb : List Int) (w : World) (ha : Src w a na ca 1 (intl la)) (hb : Src w b nb cb 1 (intl lb)) (hT : TabIs w) :
    Calls Tryd.prog 4 #[.slice a na ca, .slice b nb cb] w (YesEnds w) := by
  have HA := Lib.hid (few_any a na ca la w ha)
  have HB := Lib.hid hb
  have HT := Lib.hid hT
  clear ha hb hT
  go_enter Tryd.func4, Tryd.ntmps4
  go_wp2_with fail
  go_fit HA.out
  rintro e w1 ⟨g1, c1, rfl, b1, k1, s1⟩
  have HF := Lib.hid (few_any b nb cb lb w1 (HB.out.later b1))
  have t1 := take_take100 la
  generalize la.take 100 = pa at *
  have B1 := Lib.hid b1
  have S1 := Lib.hid s1
  have T1 := Lib.hid t1
  clear b1 s1 k1 t1
  go_wp2_with fail
  go_fit HF.out
  rintro e w2 ⟨g2, c2, rfl, b2, k2, s2⟩
  have t2 := take_take100 lb
  generalize lb.take 100 = pb at *
  have S1' := Lib.hid (S1.out.later b2)
  have hf1 := few_any _ _ _ _ w2 S1'.out
  unfold FewEnds at hf1
  rw [T1.out] at hf1
  have HF1 := Lib.hid hf1
  have B2 := Lib.hid (B1.out.trans (b2.mono B1.out.size))
  have S2 := Lib.hid s2
  have T2 := Lib.hid t2
  clear b2 s2 k2 t2 S1 HF hf1 B1 HA HB
  go_wp2_with fail
  go_fit HF1.out
  rintro e w3 ⟨g3, c3, rfl, b3, k3, s3⟩
  have HN := Lib.hid (new_any _ _ _ _ _ s3)
  have S1 := Lib.hid (S1'.out.later b3)
  have S2' := Lib.hid (S2.out.later b3)
  have B3 := Lib.hid (B2.out.trans (b3.mono B2.out.size))
  clear b3 k3 s3 HF1 S1' S2 B2
  go_wp2_with fail
  go_fit HN.out
  rintro e w4 ⟨rfl, x4, b4⟩
  have S1' := Lib.hid (S1.out.later b4)
  have S2 := Lib.hid (S2'.out.later b4)
  have B4 := Lib.hid (B3.out.trans (b4.mono B3.out.size))
  have hf2 := few_any _ _ _ _ w4 S2.out
  unfold FewEnds at hf2
  rw [T2.out] at hf2
  have HF2 := Lib.hid hf2
  generalize w3.heap.size = p at x4
  have X4 := Lib.hid x4
  have hp4 := lt_of_block x4.1
  have P4 := Lib.hid hp4
  clear x4 b4 hf2 HN S1 S2' B3 hp4
  go_wp2_with fail
  go_fit HF2.out
  rintro e w5 ⟨g5, c5, rfl, b5, k5, s5⟩
  have HN := Lib.hid (new_any _ _ _ _ _ s5)
  have S1 := Lib.hid (S1'.out.later b5)
  have S2' := Lib.hid (S2.out.later b5)
  have B5 := Lib.hid (B4.out.trans (b5.mono B4.out.size))
  have X5 := Lib.hid (X4.out.below b5 P4.out)
  have P5 : Hid (p < w5.heap.size) := Nat.lt_of_lt_of_le P4.out b5.size
  clear b5 k5 s5 HF2 S1' S2 B4 X4 P4
  go_wp2_with fail
  go_fit HN.out
  rintro e w6 ⟨rfl, y6, b6⟩
  have B6 := Lib.hid (B5.out.trans (b6.mono B5.out.size))
  have X6 := Lib.hid (X5.out.below b6 P5.out)
  have P6 : Hid (p < w6.heap.size) := Nat.lt_of_lt_of_le P5.out b6.size
  have S1' := Lib.hid (S1.out.later b6)
  have S2 := Lib.hid (S2'.out.later b6)
  generalize w5.heap.size = q at y6
  have Y6 := Lib.hid y6
  have Q6 := Lib.hid (lt_of_block y6.1)
  have M6 := Lib.hid (meets_any p q _ _ w6 X6.out y6)
  have K6 := Lib.hid (make_any _ _ _ _ w6 S1'.out)
  clear y6 b6 B5 X5 P5 HN S1 S2'
  have eW := Lib.hid (meetsW_eq (newW pa) (newW pb) (newW_in pa) X6.out.2.2)
  have eW' := Lib.hid (meetsW_eq (newW pb) (newW pa) (newW_in pb) Y6.out.2.2)
  have eC := Lib.hid (meetsB_comm (newW pb) (newW pa))
  rw [eW.out] at M6
  go_wp2_with fail
  go_fit M6.out
  rintro e w7 ⟨rfl, rfl⟩
  go_wp2_with fail
  go_fit K6.out
  rintro e w7 ⟨rfl, b7⟩
  have K7 := Lib.hid (make_any _ _ _ _ w7 (S2.out.later b7))
  have B7 := Lib.hid (B6.out.trans (b7.mono B6.out.size))
  have X7 := Lib.hid (X6.out.below b7 P6.out)
  have Y7 := Lib.hid (Y6.out.below b7 Q6.out)
  have P7 : Hid (p < w7.heap.size) := Nat.lt_of_lt_of_le P6.out b7.size
  have Q7 : Hid (q < w7.heap.size) := Nat.lt_of_lt_of_le Q6.out b7.size
  clear b7 B6 X6 Y6 P6 Q6 M6 K6 S1' S2
  go_wp2_with fail
  go_fit K7.out
  rintro e w8 ⟨rfl, b8⟩
  have K8 := Lib.hid (refMeets_any (newW pa) (newW pb) w8)
  have B8 := Lib.hid (B7.out.trans (b8.mono B7.out.size))
  have X8 := Lib.hid (X7.out.below b8 P7.out)
  have Y8 := Lib.hid (Y7.out.below b8 Q7.out)
  have P8 : Hid (p < w8.heap.size) := Nat.lt_of_lt_of_le P7.out b8.size
  have Q8 : Hid (q < w8.heap.size) := Nat.lt_of_lt_of_le Q7.out b8.size
  clear b8 B7 X7 Y7 P7 Q7 K7
  go_wp2_with fail
  go_fit K8.out
  rintro e w9 ⟨rfl, b9⟩
  have B9 := Lib.hid (B8.out.trans (b9.mono B8.out.size))
  have X9 := Lib.hid (X8.out.below b9 P8.out)
  have Y9 := Lib.hid (Y8.out.below b9 Q8.out)
  have M1 := Lib.hid (meets_any p q _ _ w9 X9.out Y9.out)
  have M2 := Lib.hid (meets_any q p _ _ w9 Y9.out X9.out)
  have HW := Lib.hid (works_any w9 (tab_below HT.out B9.out (Nat.le_refl _)))
  rw [eW.out] at M1
  rw [eW'.out, eC.out] at M2
  clear b9 B8 X8 Y8 P8 Q8 K8 X9 Y9 eW eW' eC
  generalize meetsB (newW pa) (newW pb) = m at *
  go_wp2_with fail
  go_fit M1.out
  rintro e w' ⟨rfl, rfl⟩
  go_wp2_with fail
  go_fit M2.out
  rintro e w' ⟨rfl, rfl⟩
  go_wp2_with fail
  go_fit HW.out
  rintro e w' ⟨rfl, hB⟩
  have HB := Lib.hid (B9.out.trans (hB.mono B9.out.size))
  clear hB
  go_wp2_with fail
  go_ret
  exact ⟨rfl, HB.out⟩

theorem meets_walk (a : Option Addr) (na ca : Nat) (za : List Int) (b : Option Addr) (nb cb : Nat) (zb : List Int) (w : World) (ha : IsRow .i64 w a na ca za) (hb : IsRow .i64 w b nb cb zb) (hT : TabIs w) :
    Calls Tryd.prog 4 #[.slice a na ca, .slice b nb cb] w (YesEnds w) :=
  meetsAll_any a b na ca nb cb (za.take na) (zb.take nb) w (ha.src (Nat.le_refl _)) (hb.src (Nat.le_refl _)) hT
end Go.Proofs.YtafdijcolponjaaDoor

namespace Go.Proofs.YtafdijcolponjaaDoor
open Go.RowKit

theorem bl_drop {ws : List Nat} (h : ws.length = 8) {n : Nat} (hn : n < 500) : bl (dropW ws n) = (bl ws).set n false := by
  refine List.ext_getElem (by simp [bl]) fun i h1 h2 => ?_
  simp only [bl, List.getElem_map, List.getElem_range, List.getElem_set]
  rw [mem_drop (by omega)]
  by_cases e : i = n
  · subst e; simp
  · have : ¬ n = i := fun e' => e e'.symm
    simp [e, this]

/-- A document's set in memory. -/
def RefAt (w : World) (c : Nat) (ws : List Nat) : Prop := w.heap[c]? = some (.cells (bools (bl ws)) 35 (0, 0))

def RPutEnds (c : Nat) (v : Int) (ws : List Nat) (w : World) (e : Ending) (w' : World) : Prop :=
  e = .returned (.int .i64 v) ∧ RefAt w' c ws ∧ Chg (· = c) w w'
def putB (is : Bool) (ws : List Nat) (n : Nat) : List Nat := if is then putW ws n else dropW ws n

set_option maxRecDepth 20000 in
theorem rput_yes (c n : Nat) (is : Bool) (ws : List Nat) (w : World) (h : RefAt w c ws) (h8 : ws.length = 8) (hn : n < 500) :
    Calls Tryd.prog 31 #[.pointer (some ⟨c, 0, none⟩), .int .i64 n, .bool is] w (RPutEnds c 0 (putB is ws n) w) := by
  have c1 : w.cell? ⟨c, n, none⟩ = some (.bool (mem ws n)) := cell_at n h (bools_at ws hn)
  have f1 := free_at n h
  have e : bl (putB is ws n) = (bl ws).set n is := by
    unfold putB
    cases is
    · exact bl_drop h8 hn
    · exact bl_put h8 hn
  have E := Lib.hid e
  have H := Lib.hid h
  have h0 : (0 : Int) ≤ (n : Int) := by omega
  have h1 : (n : Int) < 500 := by omega
  clear h e
  go_enter Tryd.func31, Tryd.ntmps31
  go_wp2_with fail
  go_ret
  refine ⟨rfl, ?_, (Chg.refl _ _).set1 _ _⟩
  unfold RefAt
  rw [heap_set n _ H.out, E.out]
  simp [bools, List.map_set]
set_option maxRecDepth 20000 in
theorem rput_no (c : Nat) (n : Int) (is : Bool) (w : World) (hn : n < 0 ∨ 500 ≤ n) :
    Calls Tryd.prog 31 #[.pointer (some ⟨c, 0, none⟩), .int .i64 n, .bool is] w fun e w' => e = .returned (.int .i64 2) ∧ w = w' := by
  by_cases h0 : n < 0
  · go_enter Tryd.func31, Tryd.ntmps31
    go_wp2_with fail
    go_ret
    exact ⟨rfl, rfl⟩
  · have h1 : 500 ≤ n := by omega
    go_enter Tryd.func31, Tryd.ntmps31
    go_wp2_with fail
    go_ret
    exact ⟨rfl, rfl⟩

set_option maxRecDepth 20000 in
theorem rhas_any (ws : List Nat) (n : Int) (w : World) :
    Calls Tryd.prog 35 #[.agg (bools (bl ws)), .int .i64 n] w (BoolEnds (memZ ws n) w) := by
  have HX := Lib.hid (fun (i : Nat) (h : i < 500) => bools_at ws h)
  by_cases hn : 0 ≤ n ∧ n < 500
  · obtain ⟨k, rfl⟩ := Int.eq_ofNat_of_zero_le hn.1
    have hk : k < 500 := by omega
    have hb := HX.out k hk
    have e : memZ ws (k : Int) = mem ws k := by unfold memZ; rw [decide_eq_true hn]; simp
    rw [e]
    clear e HX
    have h0 : (0 : Int) ≤ (k : Int) := by omega
    have h1 : (k : Int) < 500 := by omega
    generalize bools (bl ws) = cs at *
    have c1 : (w.alloc (.cells cs 35)).cell? ⟨w.heap.size, k, none⟩ = some (.bool (mem ws k)) := cell_at k (heap_new _ _) hb
    generalize mem ws k = m at *
    clear hb hn
    go_enter Tryd.func35, Tryd.ntmps35
    go_wp2_with fail
    go_ret
    exact ⟨rfl, (Below.refl _ _).alloc (Nat.le_refl _) _⟩
  · have e : memZ ws n = false := memZ_out ws hn
    rw [e]
    generalize bools (bl ws) = cs at *
    by_cases h0 : 0 ≤ n
    · have h1 : ¬ n < 500 := fun h => hn ⟨h0, h⟩
      clear e hn HX
      go_enter Tryd.func35, Tryd.ntmps35
      go_wp2_with fail
      go_ret
      exact ⟨rfl, (Below.refl _ _).alloc (Nat.le_refl _) _⟩
    · clear e hn HX
      go_enter Tryd.func35, Tryd.ntmps35
      go_wp2_with fail
      go_ret
      exact ⟨rfl, (Below.refl _ _).alloc (Nat.le_refl _) _⟩
end Go.Proofs.YtafdijcolponjaaDoor

namespace Go.Proofs.YtafdijcolponjaaDoor
open Go.RowKit
variable {P : Program}

theorem wanted_none {ops : Array Oper} {o : Oper} {a : Act} (h : o.guard = none) : Region.wanted o (yielded ops a.tmps) = true := by simp [Region.wanted, h]

theorem wpStill_load_mid {ops : Array Oper} {rest : List Oper} {o : Oper} {a : Act} {w : World} {Q : Act → Prop} (hgd : o.guard = none) (ty : TypeId) (x : Operand) (ho : o.op = .load ty x)
    (b off : Nat) (hx : a.eval x = .pointer (some ⟨b, off, none⟩)) (cs : List Value) (d : TypeDesc) (hc : w.rangeAt b off cs) (hu : P.underlying ty = some d) (hd : d.isRow = true) (hi : (P.info? ty).map (·.size) = some cs.length)
    (h : wpStill P ops w Q rest (a.put o.dst (.agg cs.toArray))) : wpStill P ops w Q (o :: rest) a := by
  refine wpStill_step fun K hK => ?_
  rw [if_pos (wanted_none hgd)]
  unfold Oper.still execOp
  simp only [ho, hx, Instr.loadAt, Instr.sureAddr, Sem.run_bind, Sem.run_pure, Result.andThen_ok, run_loadVar_mid w b off ty cs d hc hu hd hi]
  exact ⟨rfl, hK _ h⟩

theorem wpStill_neq {ops : Array Oper} {rest : List Oper} {o : Oper} {a : Act} {w : World} {Q : Act → Prop} (hgd : o.guard = none) (ty u : TypeId) (x y : Operand) (ho : o.op = .binOp .neq ty x y u)
    (xs ys : Array Value) (hx : a.eval x = .agg xs) (hy : a.eval y = .agg ys) (hm : P.eqGuardType P.depth ty = false) (r : Bool) (hr : (Op.equalIn 10000 ty (.agg xs) (.agg ys)).run P w = .ok r w)
    (h : wpStill P ops w Q rest (a.put o.dst (.bool (!r)))) : wpStill P ops w Q (o :: rest) a := by
  refine wpStill_step fun K hK => ?_
  rw [if_pos (wanted_none hgd)]
  unfold Oper.still execOp
  simp only [ho, hx, hy, Sem.run_bind, Sem.run_pure, Result.andThen_ok, run_eqGuard_agg (P := P) w .neq ty x y xs ys hm, run_neq_struct, hr]
  exact ⟨rfl, hK _ h⟩
end Go.Proofs.YtafdijcolponjaaDoor

namespace Go.Proofs.YtafdijcolponjaaDoor
open Go.RowKit

theorem infoSet : (Tryd.prog.info? 101).map (fun i => (i.zero, i.size)) = some (some (.agg (words W0)), 8) := by kernel_rfl
theorem infoArr : (Tryd.prog.info? 99).map (fun i => (i.zero, i.size)) = some (some (.agg (words W0)), 8) := by kernel_rfl
theorem words_size {ws : List Nat} (h : ws.length = 8) : (words ws).size = 8 := by simp [words, h]
theorem words_one (ws : List Nat) : (words ws).all (·.oneCell') = true := by
  simp only [words, List.all_toArray, List.all_map]
  refine List.all_eq_true.2 fun x _ => rfl

theorem copy_any (b : Nat) (ws : List Nat) (w : World) (h : SetAt w b ws) :
    Calls Tryd.prog 34 #[.pointer (some ⟨b, 0, none⟩)] w (NewEnds ws w) := by
  obtain ⟨h1, h2, h3⟩ := h
  have HZ := Lib.hid (zero_of_info infoSet)
  have HSz := Lib.hid (words_size h2)
  have HSz0 := Lib.hid (words_size (ws := W0) rfl)
  have HO := Lib.hid (words_one ws)
  have HI : Hid ((Tryd.prog.info? 101).map (·.size) = some (words ws).size) := by show _ = _; rw [HSz.out]; exact HZ.out.2
  have hW : ∀ w', w'.heap[w.heap.size]? = some (.cells (words ws) 101 (0, 0)) → SetAt w' w.heap.size ws := fun w' hw => ⟨hw, h2, h3⟩
  have HW := Lib.hid hW
  have H1 := Lib.hid h1
  have HEq : Hid ((words W0).size = (words ws).size) := by show _ = _; rw [HSz.out, HSz0.out]
  clear h1 h2 h3 hW
  generalize words ws = cs at *
  generalize words W0 = c0 at *
  have HN := Lib.hid (heap_new w (.cells c0 101))
  have HB := Lib.hid ((Below.refl w.heap.size w).alloc (Nat.le_refl _) (.cells c0 101))
  go_enter Tryd.func34, Tryd.ntmps34
  go_wp2_with (first | (refine wpList_load_whole rfl 101 _ rfl b cs 101 _ rfl H1.out Tryd.underlying101 rfl HI.out ?_) | (refine wpList_alloc_zero rfl 101 rfl c0 HZ.out.1 ?_) | (refine wpList_store_whole rfl 101 _ _ rfl w.heap.size c0 cs 101 rfl rfl HN.out HI.out HEq.out HO.out ?_; intro w1 hw1 hC1; have HW1 := Lib.hid hw1; have HC1 := Lib.hid hC1; clear hw1 hC1) | fail)
  go_ret
  refine ⟨rfl, HW.out w1 HW1.out, HB.out.trans (HC1.out.below (by simp) (fun k hk e => by omega))⟩
end Go.Proofs.YtafdijcolponjaaDoor

namespace Go.Proofs.YtafdijcolponjaaDoor
open Go.RowKit

theorem eight {ws : List Nat} (h : ws.length = 8) : ∃ a b c d e f g i, ws = [a, b, c, d, e, f, g, i] := by
  match ws, h with
  | [a, b, c, d, e, f, g, i], _ => exact ⟨a, b, c, d, e, f, g, i, rfl⟩
theorem lit_u64 {x : Nat} (h : x < 2 ^ 64) : (Lit.int .u64 (x : Int)).wf = true := by
  simp [Lit.wf, IntKind.min, IntKind.max, IntKind.bits, IntKind.signed]
  omega

theorem words_key {ws : List Nat} (h : ws.length = 8) (hb : ∀ x ∈ ws, x < 2 ^ 64) : Tryd.prog.keyLits 3 99 (words ws).toList = some (ws.map fun (x : Nat) => Lit.int .u64 (x : Int)) := by
  obtain ⟨a, b, c, d, e, f, g, i, rfl⟩ := eight h
  have hl : ∀ x ∈ [a, b, c, d, e, f, g, i], (Lit.int .u64 (x : Int)).wf = true := fun x hx => lit_u64 (hb x hx)
  simp only [List.mem_cons, List.not_mem_nil, or_false, forall_eq_or_imp, forall_eq] at hl
  obtain ⟨h1, h2, h3, h4, h5, h6, h7, h8⟩ := hl
  have c1 : Tryd.prog.cellsOf 99 = 8 := by kernel_rfl
  have c2 : Tryd.prog.cellsOf 98 = 1 := by kernel_rfl
  simp [Program.keyLits, words, Tryd.underlying99, Tryd.underlying98, c1, c2, List.range, List.range.loop, h1, h2, h3, h4, h5, h6, h7, h8]
theorem words_formed {ws : List Nat} (h : ws.length = 8) : (Value.agg (words ws)).formed Tryd.prog 99 = true := by
  obtain ⟨a, b, c, d, e, f, g, i, rfl⟩ := eight h
  have c1 : Tryd.prog.cellsOf 99 = 8 := by kernel_rfl
  simp [Value.formed, words, Tryd.underlying99, c1]

theorem words_same (x y : List Nat) (w : World) (hx : x.length = 8) (hy : y.length = 8) (bx : ∀ a ∈ x, a < 2 ^ 64) (b_y : ∀ a ∈ y, a < 2 ^ 64) :
    (Op.equalIn 10000 99 (.agg (words x)) (.agg (words y))).run Tryd.prog w = .ok (decide (x = y)) w := by
  have e3 : 9997 + 3 = 10000 := by decide
  have hk : Tryd.prog.keyTypeAt 3 99 = true := by kernel_rfl
  have hall := run_equalIn_deep (P := Tryd.prog) 9997 3 99 hk
  rw [e3] at hall
  obtain ⟨r, hr, hiff⟩ := hall w 3 3 (.agg (words x)) (.agg (words y)) _ _ (words_formed hx) (words_formed hy) (words_key hx bx) (words_key hy b_y)
  have hinj : (x.map fun (n : Nat) => Lit.int .u64 (n : Int)) = (y.map fun (n : Nat) => Lit.int .u64 (n : Int)) ↔ x = y := by
    exact List.map_inj_right fun a b hab => by
      have h2 : (a : Int) = (b : Int) := (Lit.int.inj hab).2
      omega
  have e : r = decide (x = y) := by
    rw [Bool.eq_iff_iff, hiff, hinj, decide_eq_true_iff]
  subst e
  exact hr
end Go.Proofs.YtafdijcolponjaaDoor

namespace Go.Proofs.YtafdijcolponjaaDoor
open Go.RowKit

/-- The first k words joined. -/
def mixW (x y : List Nat) (k : Nat) : List Nat := (List.range 8).map fun i => if i < k then x.getD i 0 ||| y.getD i 0 else x.getD i 0
theorem mixW_len (x y : List Nat) (k : Nat) : (mixW x y k).length = 8 := by simp [mixW]
theorem mixW_zero {x y : List Nat} (hx : x.length = 8) : mixW x y 0 = x := by
  refine List.ext_getElem (by simp [mixW, hx]) fun i h1 h2 => ?_
  simp [mixW, List.getElem?_eq_getElem h2]
theorem mixW_at (x y : List Nat) {k i : Nat} (hi : i < 8) : (mixW x y k).getD i 0 = if i < k then x.getD i 0 ||| y.getD i 0 else x.getD i 0 := by
  simp [mixW, List.getD, hi]
theorem mixW_step (x y : List Nat) {k : Nat} : (mixW x y k).set k (x.getD k 0 ||| y.getD k 0) = mixW x y (k + 1) := by
  refine List.ext_getElem (by simp [mixW]) fun i h1 h2 => ?_
  rw [List.getElem_set]
  by_cases e : k = i
  · subst e; simp [mixW]
  · rw [if_neg e]
    have h3 : i < 8 := by simpa [mixW] using h2
    by_cases h4 : i < k
    · simp [mixW, h4, show i < k + 1 by omega]
    · simp [mixW, h4, show ¬ i < k + 1 by omega]
theorem mixW_lt {x y : List Nat} (hx : ∀ a ∈ x, a < 2 ^ 64) (hy : ∀ a ∈ y, a < 2 ^ 64) (k : Nat) : ∀ a ∈ mixW x y k, a < 2 ^ 64 := by
  intro a ha
  obtain ⟨i, -, rfl⟩ := List.mem_map.1 ha
  split
  · exact or_lt (getD_lt hx i) (getD_lt hy i)
  · exact getD_lt hx i
def joinW (x y : List Nat) : List Nat := mixW x y 8
def JoinEnds (a : Nat) (x y : List Nat) (w : World) (e : Ending) (w' : World) : Prop :=
  e = .returned (.bool (!decide (joinW x y = x))) ∧ SetAt w' a (joinW x y) ∧ Chg (· = a) w w'
def JoinRel (w : World) (a c : Nat) (x y : List Nat) (i : Value) (wr : World) : Prop :=
  ∃ k : Nat, k ≤ 8 ∧ i = .int .i64 k ∧ SetAt wr a (mixW x y k) ∧ wr.heap[c]? = some (.cells (words x) 99 (0, 0)) ∧ Chg (· = a) w wr

set_option maxRecDepth 20000 in
set_option maxHeartbeats 1000000 in
theorem join_any (a b : Nat) (x y : List Nat) (w : World) (hx : SetAt w a x) (hy : SetAt w b y) :
    Calls Tryd.prog 32 #[.pointer (some ⟨a, 0, none⟩), .pointer (some ⟨b, 0, none⟩)] w (JoinEnds a x y w) := by
  have hrx := set_range hx
  have haw := lt_of_block hx.1
  have hbw := lt_of_block hy.1
  have HX := Lib.hid hx
  have HY := Lib.hid hy
  have HZ := Lib.hid (zero_of_info infoArr)
  have hszx : (words x).toList.length = 8 := by simp [words, hx.2.1]
  have hszy : (words y).toList.length = 8 := by simp [words, hy.2.1]
  have HIx := Lib.hid (by rw [hszx]; exact infoWords : (Tryd.prog.info? 99).map (·.size) = some (words x).toList.length)
  have HIy := Lib.hid (by rw [hszy]; exact infoWords : (Tryd.prog.info? 99).map (·.size) = some (words y).toList.length)
  have HIx2 : Hid ((Tryd.prog.info? 99).map (·.size) = some (words x).size) := by show _ = _; rw [words_size hx.2.1]; exact infoWords
  have HEq : Hid ((words W0).size = (words x).size) := by show _ = _; rw [words_size hx.2.1, words_size (ws := W0) rfl]
  have HO := Lib.hid (words_one x)
  have HRx := Lib.hid hrx
  have HN := Lib.hid (heap_new w (.cells (words W0) 99))
  have hry : ∀ w' : World, w'.heap[b]? = w.heap[b]? → w'.rangeAt b 0 (words y).toList := fun w' h => set_range ⟨h.trans hy.1, hy.2.1, hy.2.2⟩
  have HRy := Lib.hid hry
  have hyn : Hid (∀ j, j < 8 → (words y)[j]? = some (.int .u64 ((y.getD j 0 : Nat) : Int))) := fun j hj => words_nth y (by rw [hy.2.1]; exact hj)
  clear hx hy hrx hszx hszy hry
  go_enter Tryd.func32, Tryd.ntmps32
  go_wp2_with (first | (refine wpList_load_mid rfl 99 _ rfl a 0 rfl (words x).toList _ HRx.out Tryd.underlying99 rfl HIx.out ?_) | (refine wpList_alloc_zero rfl 99 rfl (words W0) HZ.out.1 ?_) | (refine wpList_store_whole rfl 99 _ _ rfl w.heap.size (words W0) (words x) 99 rfl rfl HN.out HIx2.out HEq.out HO.out ?_; intro w1 hw1 hC1; have HW1 := Lib.hid hw1; have HC1 := Lib.hid hC1; clear hw1 hC1; have HRy1 := Lib.hid (HRy.out w1 ((HC1.out.block b (by simp; omega) (by omega)).trans (heap_alloc_lt hbw)))) | (refine wpList_load_mid rfl 99 _ rfl b 0 rfl (words y).toList _ HRy1.out Tryd.underlying99 rfl HIy.out ?_) | fail)
  have hS1 : SetAt w1 a (mixW x y 0) := by
    rw [mixW_zero HX.out.2.1]
    exact ⟨(HC1.out.block a (by simp; omega) (by omega)).trans ((heap_alloc_lt haw).trans HX.out.1), HX.out.2⟩
  have hCh : Chg (· = a) w w1 := ⟨HC1.out.os, HC1.out.tape, HC1.out.output, by have := HC1.out.size; simp at this; omega, fun q hq _ => (HC1.out.block q (by simp; omega) (by omega)).trans (heap_alloc_lt hq)⟩
  have HS1 := Lib.hid hS1
  have HCh := Lib.hid hCh
  obtain ⟨c, hc⟩ : ∃ c, c = w.heap.size := ⟨_, rfl⟩
  rw [← hc] at HW1
  have hca : c ≠ a := by omega
  have HCc := Lib.hid hc
  clear hS1 hCh
  rw [← hc]
  clear hc
  go_loopw [22] (fun i wr => JoinRel w a c x y i wr) (fun i _ => 8 - (intOf i).toNat)
  case atStart => exact ⟨0, by omega, rfl, HS1.out, HW1.out, HCh.out⟩
  case round =>
    clear HS1 HW1 HCh HC1 HRy1
    obtain ⟨k, hk, rfl, hS, hW, hC⟩ := hrel
    have HS := Lib.hid hS
    have HW := Lib.hid hW
    have HC := Lib.hid hC
    by_cases hlt : k < 8
    · have hat : (mixW x y k).getD k 0 = x.getD k 0 := by rw [mixW_at x y hlt, if_neg (by omega)]
      have hc1 : wr.cell? ⟨a, k, none⟩ = some (.int .u64 ((x.getD k 0 : Nat) : Int)) := by
        have := words_nth (mixW x y k) (i := k) (by rw [mixW_len]; exact hlt)
        rw [hat] at this
        exact cell_at k hS.1 this
      have fb := free_at k hS.1
      have hyk := hyn.out k hlt
      have hor := or_lt (getD_lt HX.out.2.2 k) (getD_lt HY.out.2.2 k)
      have hbo : bits .or .u64 ((x.getD k 0 : Nat) : Int) ((y.getD k 0 : Nat) : Int) = ((x.getD k 0 ||| y.getD k 0 : Nat) : Int) := u64_or_nat _ _ (getD_lt HX.out.2.2 k) (getD_lt HY.out.2.2 k)
      have HSt := Lib.hid (mixW_step x y (k := k))
      obtain ⟨xk, hxk⟩ : ∃ v, v = x.getD k 0 := ⟨_, rfl⟩
      obtain ⟨yk, hyk2⟩ : ∃ v, v = y.getD k 0 := ⟨_, rfl⟩
      rw [← hxk] at hc1 hbo HSt
      rw [← hyk2] at hyk hbo HSt
      have HBo := Lib.hid hbo
      have hq0 : (0 : Int) ≤ (k : Int) := by omega
      have hq1 : (k : Int) < 8 := by omega
      clear hS hW hC hat hor hbo hxk hyk2
      generalize words y = csy at *
      go_wp2_with (first | (refine wpList_index_one rfl 99 _ _ rfl 98 8 _ _ k _ rfl rfl Tryd.underlying99 Tryd.underlying98 rfl infoWord hlt hyk ?_) | fail)
      go_region
      go_wp2_with fail
      go_roundw
      case rel =>
        rw [HBo.out]
        have hh := heap_set k (.int .u64 ((xk ||| yk : Nat) : Int)) HS.out.1
        rw [words_set, HSt.out] at hh
        refine ⟨k + 1, by omega, by go_num, ⟨hh, mixW_len _ _ _, mixW_lt HX.out.2.2 HY.out.2.2 _⟩, (heap_set_ne k _ hca).trans HW.out, ?_⟩
        exact (HC.out.set1 k _).drew
      case measure => simp [intOf]; omega
    · have e : k = 8 := by omega
      subst e
      have hrj := set_range hS
      have hszj : (words (mixW x y 8)).toList.length = 8 := by simp [words, mixW_len]
      have HIj := Lib.hid (by rw [hszj]; exact infoWords : (Tryd.prog.info? 99).map (·.size) = some (words (mixW x y 8)).toList.length)
      have hrc : wr.rangeAt c 0 (words x).toList := fun j v hj => by
        rw [Nat.zero_add]
        exact cell_at j hW (by simpa using hj)
      have HEq := Lib.hid (fun W => words_same (mixW x y 8) x W (mixW_len _ _ _) HX.out.2.1 hS.2.2 HX.out.2.2)
      have HRj := Lib.hid hrj
      have HRc := Lib.hid hrc
      have hg : Tryd.prog.eqGuardType Tryd.prog.depth 99 = false := by kernel_rfl
      have HG := Lib.hid hg
      clear hS hW hC hrj hrc hszj hg
      go_wp2_with fail
      refine region_tail 6 (by kernel_rfl) (by kernel_rfl) fun w3 hS3 => ?_
      have hr1 : w3.rangeAt a 0 (words (mixW x y 8)).toList := fun j v hj => hS3.cell (HRj.out j v hj)
      have hr2 : w3.rangeAt c 0 (words x).toList := fun j v hj => hS3.cell (HRc.out j v hj)
      have HR1 := Lib.hid hr1
      have HR2 := Lib.hid hr2
      have HS3 := Lib.hid hS3
      clear hr1 hr2 hS3
      simp only [List.take_succ_cons, List.take_zero, List.drop_succ_cons, List.drop_zero]
      still_step
      still_step
      still_step
      refine wpStill_load_mid rfl 99 _ rfl a 0 rfl (words (mixW x y 8)).toList _ HR1.out Tryd.underlying99 rfl HIj.out ?_
      refine wpStill_load_mid rfl 99 _ rfl c 0 rfl (words x).toList _ HR2.out Tryd.underlying99 rfl HIx.out ?_
      refine wpStill_neq rfl 99 _ _ _ rfl (words (mixW x y 8)).toList.toArray (words x).toList.toArray rfl rfl HG.out _ (HEq.out w3) ?_
      refine wpStill_nil ?_
      go_wp2_with fail
      go_ret
      exact ⟨rfl, ⟨(HS3.out.at a).trans HS.out.1, HS.out.2⟩, HC.out.trans HS3.out.chg⟩
end Go.Proofs.YtafdijcolponjaaDoor

namespace Go.Proofs.YtafdijcolponjaaDoor
open Go.RowKit

/-- Ways whose inner nodes are below k. -/
inductive Via (L : List (Nat × Nat)) (k : Nat) : Nat → Nat → Prop
  | edge {a b : Nat} (h : (a, b) ∈ L) : Via L k a b
  | join {a c b : Nat} (h : Via L k a c) (hc : c < k) (g : Via L k c b) : Via L k a b
variable {L M : List (Nat × Nat)} {a b c k n : Nat}
theorem Via.more (h : Via L k a b) {m : Nat} (hm : k ≤ m) : Via L m a b := by
  induction h with
  | edge h => exact .edge h
  | join _ hc _ h1 h2 => exact .join h1 (by omega) h2
theorem via_succ : Via L (k + 1) a b ↔ Via L k a b ∨ (Via L k a k ∧ Via L k k b) := by
  constructor
  · intro h
    induction h with
    | edge h => exact .inl (.edge h)
    | @join a c b _ hc _ h1 h2 =>
      by_cases hck : c < k
      · rcases h1 with h1 | ⟨h1, h1'⟩
        · rcases h2 with h2 | ⟨h2, h2'⟩
          · exact .inl (.join h1 hck h2)
          · exact .inr ⟨.join h1 hck h2, h2'⟩
        · rcases h2 with h2 | ⟨h2, h2'⟩
          · exact .inr ⟨h1, .join h1' hck h2⟩
          · exact .inr ⟨h1, h2'⟩
      · obtain rfl : c = k := by omega
        rcases h1 with h1 | ⟨h1, h1'⟩
        · rcases h2 with h2 | ⟨h2, h2'⟩
          · exact .inr ⟨h1, h2⟩
          · exact .inr ⟨h1, h2'⟩
        · rcases h2 with h2 | ⟨h2, h2'⟩
          · exact .inr ⟨h1, h2⟩
          · exact .inr ⟨h1, h2'⟩
  · rintro (h | ⟨h1, h2⟩)
    · exact h.more (by omega)
    · exact .join (h1.more (by omega)) (by omega) (h2.more (by omega))
theorem via_zero : Via L 0 a b ↔ (a, b) ∈ L := by
  constructor
  · intro h
    cases h with
    | edge h => exact h
    | join _ hc _ => exact absurd hc (Nat.not_lt_zero _)
  · exact .edge
theorem via_reach (hL : ∀ e ∈ L, e.1 < n ∧ e.2 < n) : Via L n a b ↔ Reach L a b := by
  constructor
  · intro h
    induction h with
    | edge h => exact .one h
    | join _ _ _ h1 h2 => exact h1.trans h2
  · intro h
    induction h with
    | one h => exact .edge h
    | more _ h ih => exact .join ih (hL _ h).1 (.edge h)
/-- The row that is joined to the others does not change in its own round. -/
theorem via_self : Via L (k + 1) k b ↔ Via L k k b := by
  rw [via_succ]
  exact ⟨fun h => h.elim id (·.2), .inl⟩
open Classical in
noncomputable def viaB (L : List (Nat × Nat)) (k a b : Nat) : Bool := decide (Via L k a b)
theorem viaB_iff : viaB L k a b = true ↔ Via L k a b := by simp [viaB]
theorem viaB_zero : viaB L 0 a b = decide ((a, b) ∈ L) := by rw [Bool.eq_iff_iff, viaB_iff, via_zero, decide_eq_true_iff]
theorem viaB_succ : viaB L (k + 1) a b = (viaB L k a b || (viaB L k a k && viaB L k k b)) := by
  rw [Bool.eq_iff_iff, viaB_iff, via_succ, Bool.or_eq_true, Bool.and_eq_true, viaB_iff, viaB_iff, viaB_iff]
theorem viaB_self : viaB L (k + 1) k b = viaB L k k b := by rw [Bool.eq_iff_iff, viaB_iff, viaB_iff, via_self]
theorem viaB_reach (hL : ∀ e ∈ L, e.1 < n ∧ e.2 < n) : viaB L n a b = reachB L a b := by rw [Bool.eq_iff_iff, viaB_iff, reachB_iff, via_reach hL]

theorem reach_congr (h : ∀ e, e ∈ L ↔ e ∈ M) : Reach L a b ↔ Reach M a b := ⟨fun r => r.mono fun e he => (h e).1 he, fun r => r.mono fun e he => (h e).2 he⟩
theorem reachB_congr (h : ∀ e, e ∈ L ↔ e ∈ M) : reachB L a b = reachB M a b := by rw [Bool.eq_iff_iff, reachB_iff, reachB_iff, reach_congr h]
theorem fromL_congr (h : ∀ e, e ∈ L ↔ e ∈ M) : fromL n L a = fromL n M a := by
  unfold fromL
  exact List.filter_congr fun x _ => reachB_congr h
theorem roundB_congr (h : ∀ e, e ∈ L ↔ e ∈ M) : roundB n L = roundB n M := by
  unfold roundB
  congr 1
  funext x
  exact reachB_congr h

/-- The closure's edges, by A, then by B, of the first k nodes. -/
noncomputable def closeL (n : Nat) (L : List (Nat × Nat)) (k : Nat) : List (Nat × Nat) := (List.range k).flatMap fun a => (fromL n L a).map fun b => (a, b)
theorem closeL_succ (n : Nat) (L : List (Nat × Nat)) (k : Nat) : closeL n L (k + 1) = closeL n L k ++ (fromL n L k).map fun b => (k, b) := by
  unfold closeL
  rw [List.range_succ, List.flatMap_append]; simp
theorem mem_closeL (hL : ∀ e ∈ L, e.1 < n ∧ e.2 < n) : (a, b) ∈ closeL n L n ↔ Reach L a b := by
  unfold closeL
  rw [List.mem_flatMap]
  constructor
  · rintro ⟨x, hx, h⟩
    obtain ⟨y, hy, he⟩ := List.mem_map.1 h
    cases he
    exact (mem_fromL.1 hy).2
  · intro h
    have := h.lt hL
    exact ⟨a, List.mem_range.2 this.1, List.mem_map.2 ⟨b, mem_fromL.2 ⟨this.2, h⟩, rfl⟩⟩
theorem closeL_inr : ∀ e ∈ closeL n L n, e.1 < n ∧ e.2 < n := by
  intro e he
  obtain ⟨x, hx, h⟩ := List.mem_flatMap.1 he
  obtain ⟨y, hy, rfl⟩ := List.mem_map.1 h
  exact ⟨List.mem_range.1 hx, (mem_fromL.1 hy).1⟩
/-- The closure's closure is the closure. -/
theorem reach_close (hL : ∀ e ∈ L, e.1 < n ∧ e.2 < n) (hM : ∀ e, e ∈ M ↔ e ∈ closeL n L n) : Reach M a b ↔ Reach L a b := by
  constructor
  · intro h
    induction h with
    | one h => exact (mem_closeL hL).1 ((hM _).1 h)
    | more _ h ih => exact ih.trans ((mem_closeL hL).1 ((hM _).1 h))
  · intro h
    exact .one ((hM _).2 ((mem_closeL hL).2 h))
theorem closeL_congr (h : ∀ a b, Reach L a b ↔ Reach M a b) (k : Nat) : closeL n L k = closeL n M k := by
  unfold closeL
  congr 1
  funext a
  unfold fromL
  congr 2
  funext b
  rw [Bool.eq_iff_iff, reachB_iff, reachB_iff, h]

/-- Is an edge one that other ways go, too? -/
noncomputable def overB (L : List (Nat × Nat)) (n : Nat) (e : Nat × Nat) : Bool := (nextR n L e.1).any fun k => reachB L k e.2
noncomputable def thinL (n : Nat) (L : List (Nat × Nat)) : List (Nat × Nat) := if roundB n L = true then edgesR n L n else (edgesR n L n).filter fun e => !overB L n e
theorem mem_edgesR (hL : ∀ e ∈ L, e.1 < n ∧ e.2 < n) (e : Nat × Nat) : e ∈ edgesR n L n ↔ e ∈ L := by
  unfold edgesR
  rw [List.mem_flatMap]
  constructor
  · rintro ⟨x, hx, h⟩
    obtain ⟨y, hy, rfl⟩ := List.mem_map.1 h
    exact (mem_nextR hL).1 hy
  · intro h
    exact ⟨e.1, List.mem_range.2 (hL e h).1, List.mem_map.2 ⟨e.2, (mem_nextR hL).2 h, rfl⟩⟩
theorem overB_iff (hL : ∀ e ∈ L, e.1 < n ∧ e.2 < n) : overB L n (a, b) = true ↔ ∃ k, (a, k) ∈ L ∧ Reach L k b := by
  unfold overB
  rw [List.any_eq_true]
  constructor
  · rintro ⟨k, h1, h2⟩; exact ⟨k, (mem_nextR hL).1 h1, reachB_iff.1 h2⟩
  · rintro ⟨k, h1, h2⟩; exact ⟨k, (mem_nextR hL).2 h1, reachB_iff.2 h2⟩
theorem no_round (hL : ∀ e ∈ L, e.1 < n ∧ e.2 < n) (h : roundB n L = false) (x : Nat) : ¬ Reach L x x := fun hx => by
  rw [Bool.eq_false_iff] at h
  exact h (roundB_iff.2 ⟨x, (hx.lt hL).1, hx⟩)
theorem mem_thinL (hL : ∀ e ∈ L, e.1 < n ∧ e.2 < n) (h : roundB n L = false) : (a, b) ∈ thinL n L ↔ (a, b) ∈ L ∧ ¬ ∃ k, (a, k) ∈ L ∧ Reach L k b := by
  unfold thinL
  rw [if_neg (by rw [h]; simp), List.mem_filter, mem_edgesR hL]
  have := overB_iff (a := a) (b := b) hL
  constructor
  · rintro ⟨h1, h2⟩
    refine ⟨h1, fun hk => ?_⟩
    rw [this.2 hk] at h2; cases h2
  · rintro ⟨h1, h2⟩
    refine ⟨h1, ?_⟩
    cases ho : overB L n (a, b) with
    | true => exact absurd (this.1 ho) h2
    | false => rfl
theorem thinL_inr (hL : ∀ e ∈ L, e.1 < n ∧ e.2 < n) : ∀ e ∈ thinL n L, e.1 < n ∧ e.2 < n := by
  intro e he
  unfold thinL at he
  split at he
  · exact hL e ((mem_edgesR hL e).1 he)
  · exact hL e ((mem_edgesR hL e).1 (List.mem_filter.1 he).1)
/-- What lies between two nodes. -/
noncomputable def mids (n : Nat) (L : List (Nat × Nat)) (a b : Nat) : List Nat := (List.range n).filter fun c => reachB L a c && reachB L c b
theorem mem_mids (hL : ∀ e ∈ L, e.1 < n ∧ e.2 < n) : c ∈ mids n L a b ↔ Reach L a c ∧ Reach L c b := by
  unfold mids
  rw [List.mem_filter, List.mem_range, Bool.and_eq_true, reachB_iff, reachB_iff]
  exact ⟨fun h => h.2, fun h => ⟨(h.1.lt hL).2, h⟩⟩
theorem mids_less {a' b' x : Nat} (hs : ∀ c, c ∈ mids n L a' b' → c ∈ mids n L a b) (hx : x ∈ mids n L a b) (hn : x ∉ mids n L a' b') : (mids n L a' b').length < (mids n L a b).length := by
  have hnd : (x :: mids n L a' b').Nodup := List.nodup_cons.2 ⟨hn, List.Nodup.sublist List.filter_sublist List.nodup_range⟩
  have := len_le_of_sub hnd (m := mids n L a b) fun y hy => by
    rcases List.mem_cons.1 hy with rfl | hy
    · exact hx
    · exact hs y hy
  simp only [List.length_cons] at this
  omega
theorem reach_thin_le (hL : ∀ e ∈ L, e.1 < n ∧ e.2 < n) (h : roundB n L = false) : ∀ (k a b : Nat), (mids n L a b).length ≤ k → Reach L a b → Reach (thinL n L) a b := by
  intro k
  induction k using Nat.strongRecOn with
  | ind k ih =>
    intro a b hk hr
    have hac := no_round hL h
    by_cases hm : mids n L a b = []
    · have hno : ∀ c, ¬ (Reach L a c ∧ Reach L c b) := fun c hc => by
        have := (mem_mids hL).2 hc
        rw [hm] at this; simp at this
      have hab : (a, b) ∈ L := by
        rcases hr.first with hr | ⟨c, h1, h2⟩
        · exact hr
        · exact absurd ⟨.one h1, h2⟩ (hno c)
      exact .one ((mem_thinL hL h).2 ⟨hab, fun ⟨c, h1, h2⟩ => hno c ⟨.one h1, h2⟩⟩)
    · obtain ⟨c, hc⟩ : ∃ c, c ∈ mids n L a b := by
        cases hl : mids n L a b with
        | nil => exact absurd hl hm
        | cons x l => exact ⟨x, by simp⟩
      obtain ⟨h1, h2⟩ := (mem_mids hL).1 hc
      have l1 : (mids n L a c).length < (mids n L a b).length := mids_less (x := c) (fun x hx => by
        obtain ⟨q1, q2⟩ := (mem_mids hL).1 hx
        exact (mem_mids hL).2 ⟨q1, q2.trans h2⟩) hc (fun hx => hac c ((mem_mids hL).1 hx).2)
      have l2 : (mids n L c b).length < (mids n L a b).length := mids_less (x := c) (fun x hx => by
        obtain ⟨q1, q2⟩ := (mem_mids hL).1 hx
        exact (mem_mids hL).2 ⟨h1.trans q1, q2⟩) hc (fun hx => hac c ((mem_mids hL).1 hx).1)
      exact (ih _ (by omega) a c (Nat.le_refl _) h1).trans (ih _ (by omega) c b (Nat.le_refl _) h2)
/-- What is thin has the same closure. -/
theorem reach_thin (hL : ∀ e ∈ L, e.1 < n ∧ e.2 < n) : Reach (thinL n L) a b ↔ Reach L a b := by
  cases h : roundB n L with
  | true =>
    refine reach_congr fun e => ?_
    unfold thinL
    rw [if_pos h, mem_edgesR hL]
  | false =>
    constructor
    · intro hr
      exact hr.mono fun e he => ((mem_thinL (a := e.1) (b := e.2) hL h).1 he).1
    · exact reach_thin_le hL h _ a b (Nat.le_refl _)
/-- An edge is one that other ways go, too, just if they still go without it. -/
theorem over_rest (hL : ∀ e ∈ L, e.1 < n ∧ e.2 < n) (h : roundB n L = false) {rest : List (Nat × Nat)} (hr : ∀ e, e ∈ rest ↔ e ∈ L ∧ e ≠ (a, b)) (hab : (a, b) ∈ L) : reachB rest a b = overB L n (a, b) := by
  have hac := no_round hL h
  rw [Bool.eq_iff_iff, reachB_iff, overB_iff hL]
  constructor
  · intro hq
    rcases hq.first with hq | ⟨k, h1, h2⟩
    · exact absurd rfl ((hr _).1 hq).2
    · exact ⟨k, ((hr _).1 h1).1, h2.mono fun e he => ((hr e).1 he).1⟩
  · rintro ⟨k, h1, h2⟩
    have hkb : k ≠ b := by rintro rfl; exact hac k h2
    have hka : ∀ x, Reach L k x → Reach rest k x := by
      intro x hx
      induction hx with
      | one he => exact .one ((hr _).2 ⟨he, fun e => by cases e; exact hac _ (.one h1)⟩)
      | @more y z hy he ih => exact .more ih ((hr _).2 ⟨he, fun e => by cases e; exact hac _ (Reach.head h1 hy)⟩)
    exact Reach.head ((hr _).2 ⟨h1, fun e => hkb (by cases e; rfl)⟩) (hka b h2)
end Go.Proofs.YtafdijcolponjaaDoor

namespace Go.Proofs.YtafdijcolponjaaDoor
open Go.RowKit

theorem indexI_any (g : Nat) (lb : Array Value) (p : Nat → Bool) (eg : Enters g) (ad : Option Addr) (m c : Nat) (l : List Int) (w : World) (hE : Src w ad m c 1 (intl l))
    (hp : ∀ W i, i < m → Below w.heap.size w W → Calls Tryd.prog g (#[.int .i64 (l.getD i 0)] ++ lb) W (AskEnds w (p i))) :
    Calls Tryd.prog 110 #[.slice ad m c, .func (.func g) #[] lb] w (IdxFEnds m p w) := by
  have hm : m ≤ 9223372036854775807 := by have h1 := hE.2.2.1; have h2 := hE.2.2.2.1; unfold maxLen at h2; omega
  have HE := Lib.hid hE
  have HP := Lib.hid hp
  unfold Enters at eg
  clear hE hp
  go_enter Tryd.func110, Tryd.ntmps110
  go_wp2_with fail
  go_loopw [8] (fun i wr => IdxFRel w m p i wr) (fun i _ => m - (intOf i).toNat)
  case atStart => exact ⟨0, Nat.zero_le _, rfl, Below.refl _ _, fun j hj => absurd hj (Nat.not_lt_zero j)⟩
  case round =>
    obtain ⟨k, hk, rfl, hB, hall⟩ := hrel
    obtain ⟨wa, rfl⟩ : ∃ x, x = wr := ⟨_, rfl⟩
    have HAll := Lib.hid hall
    have HB := Lib.hid hB
    have HE2 := Lib.hid (HE.out.belowAll hB (Nat.le_refl _))
    clear hall hB
    by_cases hlt : k < m
    · obtain ⟨b1, o1, rfl, hc⟩ := HE2.out.plain (by omega)
      have e0 := hc k hlt
      have hk0 : (0 : Int) ≤ (k : Int) := by omega
      have hk1 : (k : Int) < (m : Int) := by omega
      have hq := HP.out wa k hlt HB.out
      clear hc
      generalize l.getD k 0 = x at *
      cases hpk : p k with
      | true =>
        rw [hpk] at hq
        have HQ := Lib.hid hq
        have HK := Lib.hid hpk
        clear hq hpk
        go_wp2_with (go_at_fn g; refine HQ.out.mono ?_; rintro e w' ⟨rfl, hb'⟩)
        have HB' := Lib.hid hb'
        clear hb'
        go_ret
        exact ⟨HB'.out, .inl ⟨k, hlt, HK.out, HAll.out, rfl⟩⟩
      | false =>
        rw [hpk] at hq
        have HQ := Lib.hid hq
        have HK := Lib.hid hpk
        clear hq hpk
        go_wp2_with (go_at_fn g; refine HQ.out.mono ?_; rintro e w' ⟨rfl, hb'⟩)
        have HB' := Lib.hid hb'
        clear hb'
        go_roundw
        case rel =>
          refine ⟨k + 1, hlt, by go_num, HB'.out, fun j hj => ?_⟩
          by_cases hjk : j < k
          · exact HAll.out j hjk
          · obtain rfl : j = k := by omega
            exact HK.out
        case measure => simp [intOf]; omega
    · obtain rfl : k = m := by omega
      go_wp2_with fail
      go_ret
      exact ⟨HB.out, .inr ⟨HAll.out, rfl⟩⟩

theorem containsI_any (g : Nat) (lb : Array Value) (p : Nat → Bool) (eg : Enters g) (ad : Option Addr) (m c : Nat) (l : List Int) (w : World) (hE : Src w ad m c 1 (intl l))
    (hp : ∀ W i, i < m → Below w.heap.size w W → Calls Tryd.prog g (#[.int .i64 (l.getD i 0)] ++ lb) W (AskEnds w (p i))) :
    Calls Tryd.prog 100 #[.slice ad m c, .func (.func g) #[] lb] w (AskEnds w ((List.range m).any p)) := by
  have HI := Lib.hid (indexI_any g lb p eg ad m c l w hE hp)
  clear hE hp
  go_enter Tryd.func100, Tryd.ntmps100
  go_wp2_with fail
  go_fit HI.out
  rintro e w' ⟨hB, (⟨k, hk, hpk, -, rfl⟩ | ⟨hall, rfl⟩)⟩
  · have HB := Lib.hid hB
    have HA := Lib.hid (any_idx hk hpk)
    have hk0 : (0 : Int) ≤ (k : Int) := by omega
    clear hB hpk
    go_wp2_with fail
    go_ret
    exact ⟨ret_bool HA.out.symm, HB.out⟩
  · have HB := Lib.hid hB
    have HA := Lib.hid (any_none hall)
    clear hB hall
    go_wp2_with fail
    go_ret
    exact ⟨ret_bool HA.out.symm, HB.out⟩
end Go.Proofs.YtafdijcolponjaaDoor
