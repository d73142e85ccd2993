/- What BitsPlays' walk carries, in plain Lean; whole loads in a region that draws. No program is walked here; no condition but those in each statement. -/
import Derived.Test.YtafdijcolponjaaDoorBitsQ
import Derived.Test.YtafdijcolponjaaDoorAmong
import Derived.Test.YtafdijcolponjaaDoorSlices
import Derived.RegionTactic
namespace Go.Proofs.YtafdijcolponjaaDoor
open Go.RowKit

theorem mem_join {x y : List Nat} (hx : x.length = 8) (hy : y.length = 8) (j : Nat) : mem (joinW x y) j = (mem x j || mem y j) := by
  unfold mem joinW
  by_cases h : j / 64 < 8
  · rw [mixW_at x y h, if_pos h, Nat.testBit_or]
  · have e : ∀ ws : List Nat, ws.length = 8 → ws.getD (j / 64) 0 = 0 := fun ws h8 => by rw [List.getD_eq_getElem?_getD, List.getElem?_eq_none (by omega)]; rfl
    rw [e _ (mixW_len _ _ _), e _ hx, e _ hy]; simp
theorem orB_all {x y : List Nat} (hx : x.length = 8) (hy : y.length = 8) : orB x y 500 = bl (joinW x y) := by
  unfold orB bl
  refine List.map_congr_left fun i hi => ?_
  rw [if_pos (List.mem_range.1 hi), mem_join hx hy]
theorem words_ext {x y : List Nat} (hx : x.length = 8) (hy : y.length = 8) (bx : ∀ a ∈ x, a < 2 ^ 64) (b_y : ∀ a ∈ y, a < 2 ^ 64) (h : ∀ j, mem x j = mem y j) : x = y := by
  refine List.ext_getElem (by omega) fun i h1 h2 => ?_
  refine Nat.eq_of_testBit_eq fun b => ?_
  by_cases hb : b < 64
  · have := h (i * 64 + b)
    unfold mem at this
    rw [show (i * 64 + b) / 64 = i by omega, show (i * 64 + b) % 64 = b by omega] at this
    rw [List.getD_eq_getElem?_getD, List.getD_eq_getElem?_getD, List.getElem?_eq_getElem h1, List.getElem?_eq_getElem h2] at this
    exact this
  · rw [Nat.testBit_lt_two_pow (Nat.lt_of_lt_of_le (bx _ (List.getElem_mem h1)) (Nat.pow_le_pow_right (by decide) (by omega))),
      Nat.testBit_lt_two_pow (Nat.lt_of_lt_of_le (b_y _ (List.getElem_mem h2)) (Nat.pow_le_pow_right (by decide) (by omega)))]
theorem more_join {x y : List Nat} (hx : x.length = 8) (hy : y.length = 8) (bx : ∀ a ∈ x, a < 2 ^ 64) (b_y : ∀ a ∈ y, a < 2 ^ 64) (iy : inSet y) : moreB x y 500 = !decide (joinW x y = x) := by
  by_cases h : joinW x y = x
  · rw [decide_eq_true h]
    unfold moreB
    rw [Bool.not_true, List.any_eq_false]
    intro i _
    have := mem_join hx hy i
    rw [h] at this
    cases h1 : mem x i <;> cases h2 : mem y i <;> simp_all
  · rw [decide_eq_false h, Bool.not_false]
    cases hm : moreB x y 500 with
    | true => rfl
    | false =>
      exfalso
      apply h
      refine words_ext (mixW_len _ _ _) hx (mixW_lt bx b_y 8) bx fun j => ?_
      rw [mem_join hx hy]
      by_cases hj : j < 500
      · unfold moreB at hm
        rw [List.any_eq_false] at hm
        have := hm j (List.mem_range.2 hj)
        cases h1 : mem x j <;> cases h2 : mem y j <;> simp_all
      · rw [iy j (by omega), Bool.or_false]
theorem in_put {ws : List Nat} (h8 : ws.length = 8) (h : inSet ws) {n : Nat} (hn : n < 500) : inSet (putW ws n) := fun m hm => by
  rw [mem_put (by omega), h m hm, decide_eq_false (by omega)]; rfl
theorem in_drop {ws : List Nat} (h8 : ws.length = 8) (h : inSet ws) {n : Nat} (hn : n < 500) : inSet (dropW ws n) := fun m hm => by
  rw [mem_drop (by omega), h m hm, Bool.and_false]
theorem in_join {x y : List Nat} (hx : x.length = 8) (hy : y.length = 8) (h1 : inSet x) (h2 : inSet y) : inSet (joinW x y) := fun m hm => by
  rw [mem_join hx hy, h1 m hm, h2 m hm]; rfl
theorem preL_bits (ws : List Nat) : ∀ k, preL ws k = (List.range (k * 64)).filter (mem ws)
  | 0 => by simp [preL]
  | k + 1 => by
    rw [preL_succ, preL_bits ws k, Nat.succ_mul, List.range_add, List.filter_append, List.filter_map]
    congr 2
    unfold bitL
    refine List.filter_congr fun i hi => ?_
    have hi' : i < 64 := List.mem_range.1 hi
    show _ = mem ws (k * 64 + i)
    unfold mem
    rw [show (k * 64 + i) / 64 = k by omega, show (k * 64 + i) % 64 = i by omega]
theorem all_mem {ws : List Nat} (h : inSet ws) : preL ws 8 = memL ws := by
  rw [preL_bits]
  unfold memL
  rw [show 8 * 64 = 500 + 12 from rfl, List.range_add, List.filter_append]
  have : ((List.range 12).map (500 + ·)).filter (mem ws) = [] := by
    rw [List.filter_eq_nil_iff]
    intro a ha
    obtain ⟨i, _, rfl⟩ := List.mem_map.1 ha
    rw [h _ (by omega)]; simp
  rw [this, List.append_nil]

/-- The set, the document's set, and the round's call, in memory. -/
structure BX (w0 : World) (b r p : Nat) (x y : List Nat) (n : Int) (vl : Value) (dv : Value) (W : World) : Prop where
  set : SetAt W b x
  ref : RefAt W r y
  act : W.heap[p]? = some (.cells #[dv, .int .i64 n, vl] 40 (0, 0))
  br : b ≠ r
  bp : b ≠ p
  rp : r ≠ p
  lb : w0.heap.size ≤ b
  lr : w0.heap.size ≤ r
  lp : w0.heap.size ≤ p
  bel : Below w0.heap.size w0 W
variable {w0 W W' : World} {b r p : Nat} {x x' y y' : List Nat} {n : Int} {vl dv : Value}
theorem BX.below (h : BX w0 b r p x y n vl dv W) (hB : Below W.heap.size W W') : BX w0 b r p x y n vl dv W' :=
  ⟨⟨(hB.block b (lt_of_block h.set.1)).trans h.set.1, h.set.2⟩, (hB.block r (lt_of_block h.ref)).trans h.ref, (hB.block p (lt_of_block h.act)).trans h.act, h.br, h.bp, h.rp, h.lb, h.lr, h.lp, h.bel.trans (hB.mono h.bel.size)⟩
theorem BX.drew (h : BX w0 b r p x y n vl dv W) : BX w0 b r p x y n vl dv W.drew := h.below ⟨rfl, rfl, rfl, Nat.le_refl _, fun _ _ => rfl⟩
theorem BX.same (h : BX w0 b r p x y n vl dv W) (hS : Same W W') : BX w0 b r p x y n vl dv W' := h.below hS.below
theorem BX.alloc (h : BX w0 b r p x y n vl dv W) (o : Obj) : BX w0 b r p x y n vl dv (W.alloc o) := h.below ((Below.refl _ _).alloc (Nat.le_refl _) _)
theorem BX.setTo (h : BX w0 b r p x y n vl dv W) (hs : SetAt W' b x') (hC : Chg (· = b) W W') : BX w0 b r p x' y n vl dv W' :=
  ⟨hs, (hC.block r (lt_of_block h.ref) (fun e => h.br e.symm)).trans h.ref, (hC.block p (lt_of_block h.act) (fun e => h.bp e.symm)).trans h.act, h.br, h.bp, h.rp, h.lb, h.lr, h.lp, h.bel.trans (hC.below h.bel.size fun k hk e => by have := h.lb; omega)⟩
theorem BX.refTo (h : BX w0 b r p x y n vl dv W) (hs : RefAt W' r y') (hC : Chg (· = r) W W') : BX w0 b r p x y' n vl dv W' :=
  ⟨⟨(hC.block b (lt_of_block h.set.1) h.br).trans h.set.1, h.set.2⟩, hs, (hC.block p (lt_of_block h.act) (fun e => h.rp e.symm)).trans h.act, h.br, h.bp, h.rp, h.lb, h.lr, h.lp, h.bel.trans (hC.below h.bel.size fun k hk e => by have := h.lr; omega)⟩
/-- What a region that draws may read at any time. -/
def BHeld (r p : Nat) (y : List Nat) (n : Int) (vl : Value) (W : World) : Prop :=
  W.cell? ⟨p, 1, none⟩ = some (.int .i64 n) ∧ W.cell? ⟨p, 2, none⟩ = some vl ∧ RefAt W r y
theorem BX.held (h : BX w0 b r p x y n vl dv W) : W.cell? ⟨p, 1, none⟩ = some (.int .i64 n) ∧ W.cell? ⟨p, 2, none⟩ = some vl := ⟨cell_at 1 h.act rfl, cell_at 2 h.act rfl⟩

theorem step_load_whole {P : Program} {ops : Array Oper} {o : Oper} {a : Act} {w : World} {K : Act → World → Prop} {Q : Exit → Act → World → Prop} {E : Prop} (hw : Region.wanted o (yielded ops a.tmps) = true) (ty : TypeId) (x : Operand) (ho : o.op = .load ty x)
    (b : Nat) (cs : Array Value) (t : TypeId) (d : TypeDesc) (hx : a.eval x = .pointer (some ⟨b, 0, none⟩)) (hg : w.heap[b]? = some (.cells cs t (0, 0))) (hu : P.underlying ty = some d) (hd : d.isRow = true) (hi : (P.info? ty).map (·.size) = some cs.size)
    (h : K (a.put o.dst (.agg cs)) w) : if Region.wanted o (yielded ops a.tmps) = true then Oper.wp P o a w K Q else E := by
  rw [if_pos hw]
  have hr : w.rangeAt b 0 cs.toList := fun j v hj => by
    rw [Nat.zero_add]
    exact cell_at j hg (by simpa using hj)
  exact wp_load_mid ty x ho b 0 hx cs.toList d hr hu hd (by simpa using hi) h

theorem step_alloc_zero {P : Program} {ops : Array Oper} {o : Oper} {a : Act} {w : World} {K : Act → World → Prop} {Q : Exit → Act → World → Prop} {E : Prop} (hw : Region.wanted o (yielded ops a.tmps) = true) (ty : TypeId) (ho : o.op = .alloc ty)
    (cs : Array Value) (hz : ∀ w, (zeroValue ty).run P w = .ok (.agg cs) w) (h : K (a.put o.dst (.pointer (some ⟨w.heap.size, 0, none⟩))) (w.alloc (.cells cs ty))) :
    if Region.wanted o (yielded ops a.tmps) = true then Oper.wp P o a w K Q else E := by
  rw [if_pos hw]
  unfold Oper.wp execOp
  simp only [ho, Instr.alloc, Sem.run_bind, Sem.run_pure, Result.andThen_ok, hz]
  exact h
theorem step_store_whole {P : Program} {ops : Array Oper} {o : Oper} {a : Act} {w : World} {K : Act → World → Prop} {Q : Exit → Act → World → Prop} {E : Prop} (hw : Region.wanted o (yielded ops a.tmps) = true) (ty : TypeId) (x y : Operand) (ho : o.op = .store ty x y)
    (b : Nat) (old cs : Array Value) (t : TypeId) (hx : a.eval x = .pointer (some ⟨b, 0, none⟩)) (hy : a.eval y = .agg cs) (hg : w.heap[b]? = some (.cells old t (0, 0))) (hi : (P.info? ty).map (·.size) = some cs.size)
    (hold : old.size = cs.size) (h1 : cs.all (·.oneCell') = true) (h : ∀ w', w'.heap[b]? = some (.cells cs t (0, 0)) → Chg (· = b) w w' → K (a.put o.dst undef) w') :
    if Region.wanted o (yielded ops a.tmps) = true then Oper.wp P o a w K Q else E := by
  rw [if_pos hw]
  exact wp_store_row ty x y ho b cs hx hy t old hg hi hold h1 (h _ (setRow_heap w b old cs t (0, 0) hg) (setRow_chg w b cs))

/-- .. and a block that the round made. -/
structure BY (w0 : World) (b r p : Nat) (x y : List Nat) (n : Int) (vl dv : Value) (o : Option (Nat × Obj)) (W : World) : Prop where
  bx : BX w0 b r p x y n vl dv W
  xt : ∀ u, o = some u → W.heap[u.1]? = some u.2 ∧ u.1 ≠ b ∧ u.1 ≠ r ∧ u.1 ≠ p ∧ w0.heap.size ≤ u.1
theorem BX.more (h : BX w0 b r p x y n vl dv W) : BY w0 b r p x y n vl dv none W := ⟨h, fun u hu => by cases hu⟩
theorem BY.below {o : Option (Nat × Obj)} (h : BY w0 b r p x y n vl dv o W) (hB : Below W.heap.size W W') : BY w0 b r p x y n vl dv o W' :=
  ⟨h.bx.below hB, fun u hu => ⟨(hB.block u.1 (lt_of_block (h.xt u hu).1)).trans (h.xt u hu).1, (h.xt u hu).2⟩⟩
theorem BY.made {o : Option (Nat × Obj)} (h : BY w0 b r p x y n vl dv o W) (q : Array Value) (t : TypeId) : BY w0 b r p x y n vl dv (some (W.heap.size, .cells q t (0, 0))) (W.alloc (.cells q t)) :=
  ⟨h.bx.alloc _, fun u hu => by
    cases hu
    have h1 := lt_of_block h.bx.set.1
    have h2 := lt_of_block h.bx.ref
    have h3 := lt_of_block h.bx.act
    exact ⟨heap_new _ _, by simp only; omega, by simp only; omega, by simp only; omega, h.bx.bel.size⟩⟩
theorem BY.stored {t : Nat} {q : Obj} (h : BY w0 b r p x y n vl dv (some (t, q)) W) {q' : Obj} (hs : W'.heap[t]? = some q') (hC : Chg (· = t) W W') : BY w0 b r p x y n vl dv (some (t, q')) W' := by
  obtain ⟨h1, h2, h3, h4, h5⟩ := h.xt _ rfl
  simp only at h1 h2 h3 h4 h5
  refine ⟨⟨⟨(hC.block b (lt_of_block h.bx.set.1) (fun e => h2 e.symm)).trans h.bx.set.1, h.bx.set.2⟩, (hC.block r (lt_of_block h.bx.ref) (fun e => h3 e.symm)).trans h.bx.ref, (hC.block p (lt_of_block h.bx.act) (fun e => h4 e.symm)).trans h.bx.act,
    h.bx.br, h.bx.bp, h.bx.rp, h.bx.lb, h.bx.lr, h.bx.lp, h.bx.bel.trans (hC.below h.bx.bel.size fun k hk e => by omega)⟩, fun u hu => ?_⟩
  cases hu
  exact ⟨hs, h2, h3, h4, h5⟩

/-- A slice of {int, int, []int}, that came in. -/
def IsRowA (w : World) (a : Option Addr) (len cap : Nat) (zs : Nat → Nat → Int) (vs : Nat → Value) (ls : Nat → List Int) : Prop :=
  (a = none ∧ len = 0 ∧ cap = 0) ∨
  ∃ x, a = some x ∧ len ≤ cap ∧ cap ≤ maxLen ∧ ∀ i, i < len → (w.cell? (x.add (i * 3 + 0)) = some (.int .i64 (zs i 0)) ∧ (Lit.int .i64 (zs i 0)).wf = true) ∧ (w.cell? (x.add (i * 3 + 1)) = some (.int .i64 (zs i 1)) ∧ (Lit.int .i64 (zs i 1)).wf = true) ∧
    w.cell? (x.add (i * 3 + 2)) = some (vs i) ∧ ∃ aL lL cL, vs i = .slice aL lL cL ∧ IsRow .i64 w aL lL cL (ls i)
theorem IsRowA.below {a : Option Addr} {len cap : Nat} {zs : Nat → Nat → Int} {vs : Nat → Value} {ls : Nat → List Int} (h : IsRowA W a len cap zs vs ls) {i : Nat} (hi : i < len) {B : Nat} (hb : Below B W W') (hB : W.heap.size ≤ B) :
    ∃ b o aL lL cL, a = some ⟨b, o, none⟩ ∧ W'.cell? ⟨b, o + i * 3, none⟩ = some (.int .i64 (zs i 0)) ∧ (Lit.int .i64 (zs i 0)).wf = true ∧ W'.cell? ⟨b, o + i * 3 + 1, none⟩ = some (.int .i64 (zs i 1)) ∧
      W'.cell? ⟨b, o + i * 3 + 2, none⟩ = some (.slice aL lL cL) ∧ Src W aL lL cL 1 (intl ((ls i).take lL)) := by
  rcases h with ⟨-, h0, -⟩ | ⟨x, rfl, -, -, hc⟩
  · omega
  · obtain ⟨⟨h0, w0'⟩, ⟨h1, -⟩, h2, aL, lL, cL, hv, hrow⟩ := hc i hi
    obtain ⟨b, o, s⟩ := x
    have hs : s = none := by
      cases s with
      | none => rfl
      | some q =>
        have hz := (hc 0 (by omega)).1.1
        simp [World.cell?, Addr.add] at hz
        split at hz <;> simp at hz
    subst hs
    have hadd : ∀ m, (⟨b, o, none⟩ : Addr).add m = ⟨b, o + m, none⟩ := fun m => by unfold Addr.add; split <;> simp_all
    rw [hadd] at h0 h1 h2
    have hlt : b < W.heap.size := World.block_lt_of_cell? W ⟨b, o + (i * 3 + 0), none⟩ h0
    have hcell : ∀ m, W'.cell? ⟨b, o + m, none⟩ = W.cell? ⟨b, o + m, none⟩ := fun m => World.cell?_of_block (a := ⟨b, o + m, none⟩) (hb.block b (by omega))
    refine ⟨b, o, aL, lL, cL, rfl, ?_, w0', ?_, ?_, hrow.src (Nat.le_refl _)⟩
    · rw [show o + i * 3 = o + (i * 3 + 0) by omega, hcell]; exact h0
    · rw [show o + i * 3 + 1 = o + (i * 3 + 1) by omega, hcell]; exact h1
    · rw [show o + i * 3 + 2 = o + (i * 3 + 2) by omega, hcell, h2, hv]
end Go.Proofs.YtafdijcolponjaaDoor
