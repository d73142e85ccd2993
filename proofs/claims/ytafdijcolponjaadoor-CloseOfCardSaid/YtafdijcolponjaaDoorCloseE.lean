/- The contract of closure's Thin. Condition: where the table lies. -/
import Derived.Test.YtafdijcolponjaaDoorCloseD
namespace Go.Proofs.YtafdijcolponjaaDoor
open Go.RowKit

theorem has_reach {n : Nat} {L : List (Nat × Nat)} (hn : n ≤ 500) {g : Nat} {bs : Nat → Nat} {W : World} (hS : SetsAt W g n n bs (reachB L)) {k y : Nat} (hk : k < n) (hy : y < n) :
    Calls Tryd.prog 24 #[.pointer (some ⟨bs k, 0, none⟩), .int .i64 y] W fun e w' => e = .returned (.bool (reachB L k y)) ∧ W = w' := by
  obtain ⟨ws, h1, h2⟩ := hS.sat k hk
  rw [← h2 y (by omega)]
  exact has_yes (bs k) y ws W h1 (by omega)
set_option maxRecDepth 20000 in
theorem thinA_any (br bx g n k y : Nat) (bs : Nat → Nat) (L : List (Nat × Nat)) (W : World) (hn : n ≤ 500) (hk : k < n) (hy : y < n) (hr : W.cell? ⟨br, 0, none⟩ = some (.slice (some ⟨g, 0, none⟩) n n)) (hS : SetsAt W g n n bs (reachB L))
    (hx : W.cell? ⟨bx, 1, none⟩ = some (.int .i64 y)) :
    Calls Tryd.prog 101 #[.int .i64 k, .pointer (some ⟨br, 0, none⟩), .pointer (some ⟨bx, 0, none⟩)] W (AskEnds W (reachB L k y)) := by
  have HH := Lib.hid (fun W' (hW : Same W W') => has_reach hn (hS.frame (hW.at _) fun a _ => hW.at _) hk hy (W := W'))
  have c0 := hS.cell (Nat.le_refl _) hk
  have HR := Lib.hid hr
  have HC := Lib.hid c0
  have HX := Lib.hid hx
  have hk0 : (0 : Int) ≤ (k : Int) := by omega
  have hk1 : (k : Int) < (n : Int) := by omega
  generalize reachB L k y = b at *
  clear hS hr c0 hx
  go_enter Tryd.func101, Tryd.ntmps101
  go_wp2_with fail
  refine region_tail 6 (by kernel_rfl) (by kernel_rfl) fun w3 hS => ?_
  have d1 := hS.cell HR.out
  have d2 := hS.cell HC.out
  have d3 := hS.cell HX.out
  have HS := Lib.hid hS
  have HH3 := Lib.hid (HH.out w3 hS)
  clear hS
  simp only [List.take_succ_cons, List.take_zero, List.drop_succ_cons, List.drop_zero]
  repeat still_step
  refine wpStill_nil ?_
  go_wp2_with fail
  go_fit HH3.out
  rintro e w4 ⟨rfl, rfl⟩
  go_wp2_with fail
  go_ret
  exact ⟨rfl, HS.out.below⟩

theorem any_getD {l : List Nat} {p : Nat → Bool} : (List.range l.length).any (fun i => p (l.getD i 0)) = l.any p := by
  rw [Bool.eq_iff_iff, List.any_eq_true, List.any_eq_true]
  constructor
  · rintro ⟨i, hi, h⟩
    have hi' := List.mem_range.1 hi
    exact ⟨l.getD i 0, by simp [List.getD, hi'], h⟩
  · rintro ⟨x, hx, h⟩
    obtain ⟨i, hi, rfl⟩ := List.getElem_of_mem hx
    exact ⟨i, List.mem_range.2 hi, by simpa [List.getD, hi] using h⟩
/-- What Thin's closures look at. -/
structure ThinAt (W : World) (bg br b g n : Nat) (F : List Nat) (bs : Nat → Nat) (L : List (Nat × Nat)) : Prop where
  cg : W.cell? ⟨bg, 0, none⟩ = some (.pointer (some ⟨b, 0, none⟩))
  cr : W.cell? ⟨br, 0, none⟩ = some (.slice (some ⟨g, 0, none⟩) n n)
  gr : GrAt W b F n L
  st : SetsAt W g n n bs (reachB L)
  tb : TabIs W
theorem ThinAt.below {W W' : World} {bg br b g n : Nat} {F : List Nat} {bs : Nat → Nat} {L : List (Nat × Nat)} (h : ThinAt W bg br b g n F bs L) (hB : Below W.heap.size W W') : ThinAt W' bg br b g n F bs L :=
  ⟨(hB.cell (p := ⟨bg, 0, none⟩) (World.block_lt_of_cell? W _ h.cg)).trans h.cg, (hB.cell (p := ⟨br, 0, none⟩) (World.block_lt_of_cell? W _ h.cr)).trans h.cr, h.gr.below hB (Nat.le_refl _), h.st.below hB (Nat.le_refl _), tab_below h.tb hB (Nat.le_refl _)⟩
set_option maxRecDepth 20000 in
theorem thinB_any (bg br b g n x y : Nat) (F : List Nat) (bs : Nat → Nat) (L : List (Nat × Nat)) (W : World) (hx : x < n) (hy : y < n) (h : ThinAt W bg br b g n F bs L) :
    Calls Tryd.prog 99 #[.agg #[.int .i64 x, .int .i64 y], .pointer (some ⟨bg, 0, none⟩), .pointer (some ⟨br, 0, none⟩)] W (AskEnds W (overB L n (x, y))) := by
  have hn := h.gr.n500
  have hb0 : Below W.heap.size W (W.alloc (.cells #[.int .i64 (x : Int), .int .i64 (y : Int)] 61)) := (Below.refl _ _).alloc (Nat.le_refl _) _
  have h1 := h.below hb0
  have cx : (W.alloc (.cells #[.int .i64 (x : Int), .int .i64 (y : Int)] 61)).cell? ⟨W.heap.size, 0, none⟩ = some (.int .i64 x) := cell_at 0 (heap_new _ _) rfl
  have cy : (W.alloc (.cells #[.int .i64 (x : Int), .int .i64 (y : Int)] 61)).cell? ⟨W.heap.size, 1, none⟩ = some (.int .i64 y) := cell_at 1 (heap_new _ _) rfl
  have cg := h1.cg
  have HN := Lib.hid (gr_next b n F L x _ h1.gr h1.tb)
  have H1 := Lib.hid h1
  have HB0 := Lib.hid hb0
  have HCy := Lib.hid cy
  have HLt := Lib.hid (fun k (hk : k ∈ nextR n L (x : Nat)) => nextR_lt hk)
  have HOv : Hid (overB L n (x, y) = (nextR n L (x : Nat)).any fun k => reachB L k y) := rfl
  generalize nextR n L (x : Nat) = l at *
  clear h h1 hb0 cy
  go_enter Tryd.func99, Tryd.ntmps99
  go_wp2_with fail
  go_fit HN.out
  rintro e w2 ⟨v2, rfl, hown, hB2⟩
  obtain ⟨ad, c, rfl, hs⟩ := src_list hown
  have h2 := H1.out.below hB2
  have cy2 := (hB2.cell (p := ⟨W.heap.size, 1, none⟩) (by simp)).trans HCy.out
  have hxl : W.heap.size < w2.heap.size := by have := hB2.size; simp at this; omega
  have HC := Lib.hid (containsI_any 101 #[.pointer (some ⟨br, 0, none⟩), .pointer (some ⟨W.heap.size, 0, none⟩)] (fun i => reachB L (l.getD i 0) y) (enters_of Tryd.func101 (by kernel_rfl) rfl) ad l.length c (natI l) w2 hs
    (fun W' i hi hW => by
      have h3 := h2.below hW
      rw [natI_at]
      refine (thinA_any br W.heap.size g n (l.getD i 0) y bs L W' hn (HLt.out _ (by simp [List.getD, hi])) hy h3.cr h3.st ((hW.cell (p := ⟨W.heap.size, 1, none⟩) hxl).trans cy2)).mono fun e w' he => ⟨he.1, hW.trans (he.2.mono hW.size)⟩))
  have HB2 := Lib.hid (HB0.out.trans (hB2.mono HB0.out.size))
  have HAny : Hid ((List.range l.length).any (fun i => reachB L (l.getD i 0) y) = overB L n (x, y)) := by
    show _ = _
    rw [HOv.out]
    exact any_getD (p := fun k => reachB L k y)
  generalize (List.range l.length).any (fun i => reachB L (l.getD i 0) y) = q at *
  clear hown hs h2 cy2 hB2
  go_wp2_with fail
  go_fit HC.out
  rintro e w3 ⟨rfl, hB3⟩
  have HB3 := Lib.hid (HB2.out.trans (hB3.mono HB2.out.size))
  clear hB3
  go_wp2_with fail
  go_ret
  exact ⟨ret_bool HAny.out, HB3.out⟩
end Go.Proofs.YtafdijcolponjaaDoor
