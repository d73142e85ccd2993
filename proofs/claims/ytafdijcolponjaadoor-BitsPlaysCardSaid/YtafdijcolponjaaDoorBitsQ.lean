/- The contract of the document's Join. No condition but those in each statement. -/
import Derived.Test.YtafdijcolponjaaDoorBitsP
namespace Go.Proofs.YtafdijcolponjaaDoor
open Go.RowKit

def orB (x y : List Nat) (k : Nat) : List Bool := (List.range 500).map fun i => if i < k then mem x i || mem y i else mem x i
def moreB (x y : List Nat) (k : Nat) : Bool := (List.range k).any fun i => mem y i && !mem x i
theorem orB_zero (x y : List Nat) : orB x y 0 = bl x := by simp [orB, bl]
theorem orB_size (x y : List Nat) (k : Nat) : (bools (orB x y k)).size = 500 := by simp [bools, orB]
theorem orB_at (x y : List Nat) {k i : Nat} (h : i < 500) : (bools (orB x y k))[i]? = some (.bool (if i < k then mem x i || mem y i else mem x i)) := by simp [bools, orB, h]
theorem orB_step (x y : List Nat) (k : Nat) : (bools (orB x y k)).setIfInBounds k (.bool (mem x k || mem y k)) = bools (orB x y (k + 1)) := by
  refine Array.ext_getElem? fun i => ?_
  rw [Array.getElem?_setIfInBounds]
  by_cases e : k = i
  · subst e
    by_cases h : k < 500
    · rw [if_pos rfl, if_pos (by rw [orB_size]; exact h), orB_at x y h, if_pos (by omega)]
    · rw [if_pos rfl, if_neg (by rw [orB_size]; exact h), Array.getElem?_eq_none (by rw [orB_size]; omega)]
  · rw [if_neg e]
    by_cases h : i < 500
    · rw [orB_at x y h, orB_at x y h]
      by_cases h2 : i < k
      · rw [if_pos h2, if_pos (by omega)]
      · rw [if_neg h2, if_neg (by omega)]
    · rw [Array.getElem?_eq_none (by rw [orB_size]; omega), Array.getElem?_eq_none (by rw [orB_size]; omega)]
theorem moreB_succ (x y : List Nat) (k : Nat) : moreB x y (k + 1) = (moreB x y k || (mem y k && !mem x k)) := by
  unfold moreB
  rw [List.range_succ, List.any_append]; simp

def RJEnds (x y : List Nat) (w : World) (e : Ending) (w' : World) : Prop :=
  e = .returned (.tuple #[.agg (bools (orB x y 500)), .bool (moreB x y 500)]) ∧ Below w.heap.size w w'
def RJRel (w : World) (x y : List Nat) (cy c0 : Array Value) (m i : Value) (wr : World) : Prop :=
  ∃ k : Nat, k ≤ 500 ∧ m = .bool (moreB x y k) ∧ i = .int .i64 k ∧ wr.heap[w.heap.size]? = some (.cells (bools (orB x y k)) 35 (0, 0)) ∧
    wr.heap[w.heap.size + 1]? = some (.cells cy 35 (0, 0)) ∧ wr.heap[w.heap.size + 2]? = some (.cells c0 35 (0, 0)) ∧ Below w.heap.size w wr

theorem results_cell_tmp_row {P : Program} {fn : Func} {p u : Tmp} {ty : TypeId} (h : fn.results = #[.cell p ty, .tmp u]) (tmps : Array Value) (w : World) (g : Nat) (t : TypeId) (cs : Array Value) (fr : Nat × Nat) (d : TypeDesc)
    (hp : tmps.getD p undef = .pointer (some ⟨g, 0, none⟩)) (hg : w.heap[g]? = some (.cells cs t fr))
    (hu : P.underlying ty = some d) (hd : (match d with | .struct _ | .array _ _ => true | _ => false) = true) (hi : (P.info? ty).map (·.size) = some cs.size) :
    (results fn tmps).run P w = .ok (.tuple #[.agg cs, tmps.getD u undef]) w := by
  rw [results_cell_tmp h, hp]
  simp [asAddr, run_loadVar_row w g t ty cs fr d hg hu hd hi, Result.andThen]

set_option maxRecDepth 20000 in
set_option maxHeartbeats 2000000 in
theorem rjoin_any (x y : List Nat) (w : World) :
    Calls Tryd.prog 33 #[.agg (bools (bl x)), .agg (bools (bl y))] w (RJEnds x y w) := by
  have HYa := Lib.hid (fun (i : Nat) (h : i < 500) => bools_at y h)
  have HZ := Lib.hid (zero_of_info infoRef)
  have HX0 : Hid (bools (bl x) = bools (orB x y 0)) := by show _ = _; rw [orB_zero]
  have HSx := Lib.hid (bools_size x)
  have HS0 : Hid ((bools (List.replicate 500 false)).size = 500) := by show _ = _; simp [bools]
  generalize bools (List.replicate 500 false) = c0 at *
  generalize bools (bl x) = cx at *
  generalize bools (bl y) = cy at *
  have hk1 : ((w.alloc (.cells cx 35)).alloc (.cells cy 35)).heap.size = w.heap.size + 2 := by simp
  have hA : (((w.alloc (.cells cx 35)).alloc (.cells cy 35)).alloc (.cells c0 35)).heap[w.heap.size]? = some (.cells cx 35 (0, 0)) :=
    (heap_alloc_lt (by simp; omega)).trans ((heap_alloc_lt (by simp)).trans (heap_new _ _))
  have hB : (((w.alloc (.cells cx 35)).alloc (.cells cy 35)).alloc (.cells c0 35)).heap[w.heap.size + 1]? = some (.cells cy 35 (0, 0)) := by
    refine (heap_alloc_lt (by simp)).trans ?_
    have := heap_new (w.alloc (.cells cx 35)) (.cells cy 35)
    simpa using this
  have hR : (((w.alloc (.cells cx 35)).alloc (.cells cy 35)).alloc (.cells c0 35)).heap[w.heap.size + 2]? = some (.cells c0 35 (0, 0)) := by
    have := heap_new ((w.alloc (.cells cx 35)).alloc (.cells cy 35)) (.cells c0 35)
    rw [hk1] at this; exact this
  have HA := Lib.hid hA
  have HB := Lib.hid hB
  have HR := Lib.hid hR
  have HBl := Lib.hid ((((Below.refl w.heap.size w).alloc (Nat.le_refl _) (.cells cx 35)).alloc (by simp) (.cells cy 35)).alloc (by simp; omega) (.cells c0 35))
  clear hk1 hA hB hR
  obtain ⟨lx, hlx⟩ : ∃ l, l = bools (orB x y 500) := ⟨_, rfl⟩
  obtain ⟨mx, hmx⟩ : ∃ m, m = moreB x y 500 := ⟨_, rfl⟩
  have hpost : Hid (∀ e w', e = .returned (.tuple #[.agg lx, .bool mx]) → Below w.heap.size w w' → RJEnds x y w e w') := fun e w' he hB => ⟨by rw [he, hlx, hmx], hB⟩
  have HLx := Lib.hid hlx
  have HMx := Lib.hid hmx
  clear hlx hmx
  go_enter Tryd.func33, Tryd.ntmps33
  go_wp2_with (first | (refine wpList_alloc_zero rfl 35 rfl c0 HZ.out.1 ?_) | fail)
  go_loopw [6, 7] (fun m i wr => RJRel w x y cy c0 m i wr) (fun _ i _ => 500 - (intOf i).toNat)
  case atStart => exact ⟨0, Nat.zero_le _, rfl, rfl, by rw [← HX0.out]; exact HA.out, HB.out, HR.out, HBl.out⟩
  case round =>
    clear HA HB HR HBl
    obtain ⟨k, hk, rfl, rfl, hA, hB, hR, hBl⟩ := hrel
    have HA := Lib.hid hA
    have HB := Lib.hid hB
    have HR := Lib.hid hR
    have HBl := Lib.hid hBl
    by_cases hlt : k < 500
    · have ca : wr.cell? ⟨w.heap.size, k, none⟩ = some (.bool (mem x k)) := by
        have := orB_at x y (k := k) hlt
        rw [if_neg (by omega)] at this
        exact cell_at k hA this
      have fa := free_at k hA
      have cb : wr.cell? ⟨w.heap.size + 1, k, none⟩ = some (.bool (mem y k)) := cell_at k hB (HYa.out k hlt)
      have HSt := Lib.hid (orB_step x y k)
      have HMs := Lib.hid (moreB_succ x y k)
      have hk0 : (0 : Int) ≤ (k : Int) := by omega
      have hk1 : (k : Int) < 500 := by omega
      clear hA hB hR hBl
      generalize moreB x y k = mo at *
      have hrel : ∀ u, u = (mem x k || mem y k) → RJRel w x y cy c0 (.bool (mo || (mem y k && !mem x k))) (.int .i64 ((k : Int) + 1)) (wr.setCell ⟨w.heap.size, k, none⟩ (.bool u)) := by
        intro u hu
        have hh := heap_set k (.bool u) HA.out
        rw [hu, HSt.out] at hh
        rw [hu]
        refine ⟨k + 1, by omega, by rw [HMs.out], by go_num, hh, ?_, ?_, HBl.out.setCell (by show w.heap.size ≤ w.heap.size; omega) _⟩
        · rw [heap_set_ne k _ (by omega)]; exact HB.out
        · rw [heap_set_ne k _ (by omega)]; exact HR.out
      have HRel := Lib.hid hrel
      clear hrel
      generalize mem x k = bx at *
      generalize mem y k = b_y at *
      cases mo <;> cases bx <;> cases b_y
      all_goals
        go_wp2_with fail
        go_roundw
        case rel => exact HRel.out _ rfl
        case measure => simp [intOf]; omega
    · have e : k = 500 := by omega
      subst e
      have hsz := orB_size x y 500
      rw [← HLx.out] at hA hsz
      rw [← HMx.out]
      have HA2 := Lib.hid hA
      have hon : lx.all (·.oneCell') = true := by rw [HLx.out]; exact bools_one _
      have HOn := Lib.hid hon
      have HI2 : Hid ((Tryd.prog.info? 35).map (·.size) = some lx.size) := by show _ = _; rw [hsz]; exact HZ.out.2
      have HSS : Hid (c0.size = lx.size) := by show _ = _; rw [hsz, HS0.out]
      clear hA hB hR hBl hsz hon
      go_wp2_with (first | (refine wpList_load_whole rfl 35 _ rfl w.heap.size lx _ _ rfl HA2.out Tryd.underlying35 rfl HI2.out ?_) | (refine wpList_store_whole rfl 35 _ _ rfl (w.heap.size + 2) c0 lx 35 rfl rfl HR.out HI2.out HSS.out HOn.out ?_; intro w1 hw1 hC1; have HW1 := Lib.hid hw1; have HC1 := Lib.hid hC1; clear hw1 hC1) | fail)
      refine bodyPost_ret_by (results_cell_tmp_row Tryd.results33 _ _ (w.heap.size + 2) 35 lx (0, 0) _ rfl HW1.out Tryd.underlying35 rfl HI2.out) rfl (hpost.out _ _ rfl ?_)
      exact HBl.out.trans (HC1.out.below HBl.out.size (fun k hk e => by omega))
end Go.Proofs.YtafdijcolponjaaDoor
