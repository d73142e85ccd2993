/- Put, Drop, and the document's Put, at any number. No condition but those in each statement. -/
import Derived.Test.YtafdijcolponjaaDoorBitsR
namespace Go.Proofs.YtafdijcolponjaaDoor
open Go.RowKit

def cZ (z : Int) : Int := if 0 ≤ z ∧ z < 500 then 0 else 2
def drop1 (ws : List Nat) (z : Int) : List Nat := if 0 ≤ z ∧ z < 500 then dropW ws z.toNat else ws
def SomeEnds (b : Nat) (v : Int) (ws : List Nat) (w : World) (e : Ending) (w' : World) : Prop := e = .returned (.int .i64 v) ∧ SetAt w' b ws ∧ Chg (· = b) w w'
theorem put_z (b : Nat) (z : Int) (ws : List Nat) (w : World) (h : SetAt w b ws) :
    Calls Tryd.prog 25 #[.pointer (some ⟨b, 0, none⟩), .int .i64 z] w (SomeEnds b (cZ z) (put1 ws z) w) := by
  unfold put1 cZ
  by_cases hz : 0 ≤ z ∧ z < 500
  · rw [if_pos hz, if_pos hz]
    obtain ⟨n, rfl⟩ := Int.eq_ofNat_of_zero_le hz.1
    exact (put_yes b n ws w h (by omega)).mono fun e w' h => h
  · rw [if_neg hz, if_neg hz]
    refine (put_no b z w (by omega)).mono ?_
    rintro e w' ⟨rfl, rfl⟩
    exact ⟨rfl, h, Chg.refl _ _⟩
theorem drop_z (b : Nat) (z : Int) (ws : List Nat) (w : World) (h : SetAt w b ws) :
    Calls Tryd.prog 26 #[.pointer (some ⟨b, 0, none⟩), .int .i64 z] w (SomeEnds b (cZ z) (drop1 ws z) w) := by
  unfold drop1 cZ
  by_cases hz : 0 ≤ z ∧ z < 500
  · rw [if_pos hz, if_pos hz]
    obtain ⟨n, rfl⟩ := Int.eq_ofNat_of_zero_le hz.1
    exact (drop_yes b n ws w h (by omega)).mono fun e w' h => h
  · rw [if_neg hz, if_neg hz]
    refine (drop_no b z w (by omega)).mono ?_
    rintro e w' ⟨rfl, rfl⟩
    exact ⟨rfl, h, Chg.refl _ _⟩
theorem rput_z (c : Nat) (z : Int) (ws : List Nat) (w : World) (h : RefAt w c ws) (h8 : ws.length = 8) :
    Calls Tryd.prog 31 #[.pointer (some ⟨c, 0, none⟩), .int .i64 z, .bool true] w (RPutEnds c (cZ z) (put1 ws z) w) := by
  unfold put1 cZ
  by_cases hz : 0 ≤ z ∧ z < 500
  · rw [if_pos hz, if_pos hz]
    obtain ⟨n, rfl⟩ := Int.eq_ofNat_of_zero_le hz.1
    exact (rput_yes c n true ws w h h8 (by omega)).mono fun e w' h => h
  · rw [if_neg hz, if_neg hz]
    refine (rput_no c z true w (by omega)).mono ?_
    rintro e w' ⟨rfl, rfl⟩
    exact ⟨rfl, h, Chg.refl _ _⟩
theorem rdrop_z (c : Nat) (z : Int) (ws : List Nat) (w : World) (h : RefAt w c ws) (h8 : ws.length = 8) :
    Calls Tryd.prog 31 #[.pointer (some ⟨c, 0, none⟩), .int .i64 z, .bool false] w (RPutEnds c (cZ z) (drop1 ws z) w) := by
  unfold drop1 cZ
  by_cases hz : 0 ≤ z ∧ z < 500
  · rw [if_pos hz, if_pos hz]
    obtain ⟨n, rfl⟩ := Int.eq_ofNat_of_zero_le hz.1
    exact (rput_yes c n false ws w h h8 (by omega)).mono fun e w' h => h
  · rw [if_neg hz, if_neg hz]
    refine (rput_no c z false w (by omega)).mono ?_
    rintro e w' ⟨rfl, rfl⟩
    exact ⟨rfl, h, Chg.refl _ _⟩
theorem in_put1 {ws : List Nat} (h8 : ws.length = 8) (h : inSet ws) (z : Int) : inSet (put1 ws z) := by
  unfold put1
  split
  · exact in_put h8 h (by omega)
  · exact h
theorem in_drop1 {ws : List Nat} (h8 : ws.length = 8) (h : inSet ws) (z : Int) : inSet (drop1 ws z) := by
  unfold drop1
  split
  · exact in_drop h8 h (by omega)
  · exact h
theorem moreB_join {x y : List Nat} {W W' : World} {b c : Nat} (hx : SetAt W b x) (hy : SetAt W' c y) (iy : inSet y) : moreB x y 500 = !decide (joinW x y = x) :=
  more_join hx.2.1 hy.2.1 hx.2.2 hy.2.2 iy
theorem Src.allocd {w : World} {a : Option Addr} {n cap : Nat} {l : List Int} (h : Src w a n cap 1 (intl l)) (o : Obj) : Src (w.alloc o) a n cap 1 (intl l) := by
  refine h.of_block fun ad had hne => ?_
  have hn : 0 < n := by omega
  obtain ⟨x, hx, hc⟩ := h.nth (i := 0) hn
  rw [had] at hx
  cases hx
  have := World.block_lt_of_cell? w _ hc
  have e : (ad.add 0).block = ad.block := by unfold Addr.add; split <;> rfl
  rw [e] at this
  exact heap_alloc_lt this
theorem BY.drew {w0 W : World} {b r p : Nat} {x y : List Nat} {n : Int} {vl dv : Value} {o : Option (Nat × Obj)} (h : BY w0 b r p x y n vl dv o W) : BY w0 b r p x y n vl dv o W.drew := h.below ⟨rfl, rfl, rfl, Nat.le_refl _, fun _ _ => rfl⟩
/-- A whole load of 500 cells, as the walk's simp meets it: 'attribute [local go_sem]' lays these in a text that needs them. -/
def wholeCells (p : Addr) : Sem (Array Value) := loadCellsFrom p 0 500 #[]
theorem cells_whole (p : Addr) : loadCellsFrom p 0 500 #[] = wholeCells p := rfl
def wholeOf (P : Program) (b : Nat) (w : World) (o : Option Obj) : Result (Array Value) :=
  match o with
  | some (.cells cs _ (0, 0)) => if cs.size = 500 then .ok cs w else (wholeCells ⟨b, 0, none⟩).run P w
  | _ => (wholeCells ⟨b, 0, none⟩).run P w
theorem wholeOf_some {P : Program} {b : Nat} {w : World} {cs : Array Value} {t : TypeId} (hi : cs.size = 500) : wholeOf P b w (some (.cells cs t (0, 0))) = .ok cs w := if_pos hi
theorem run_wholeCells {P : Program} {w : World} {b : Nat} : (wholeCells ⟨b, 0, none⟩).run P w = wholeOf P b w w.heap[b]? := by
  unfold wholeOf
  split
  · rename_i cs t h
    split
    · rename_i hi
      have := run_loadCells_list (P := P) w ⟨b, 0, none⟩ cs.toList (fun j v hj => by
        have e : (⟨b, 0, none⟩ : Addr).add j = ⟨b, j, none⟩ := by unfold Addr.add; split <;> simp_all
        rw [e]
        exact cell_at j h (by simpa using hj))
      simpa [loadCells, hi, wholeCells] using this
    · rfl
  · rfl
theorem upon_store_whole {P : Program} {o : Oper} {a : Act} {w : World} {K : Act → World → Prop} {Q : Exit → Act → World → Prop} (t : Nat) (old cs : Array Value) (ty : TypeId) (hg : w.heap[t]? = some (.cells old ty (0, 0)))
    (hi : (P.info? ty).map (·.size) = some cs.size) (hold : old.size = cs.size) (h1 : cs.all (·.oneCell') = true)
    (h : ∀ w', w'.heap[t]? = some (.cells cs ty (0, 0)) → Chg (· = t) w w' → K (a.put o.dst undef) w') :
    o.upon P a K Q (((storeCells ⟨t, 0, none⟩ cs.toList).run P w).andThen fun _ w' => .ok Next.skip w') := by
  have hr := run_storeVar_row (P := P) w t ty ty old cs hg hi hold h1
  have hs : (storeCells ⟨t, 0, none⟩ cs.toList).run P w = .ok () (w.setRow t cs) := by
    cases hq : P.info? ty with
    | none => simp [hq] at hi
    | some i =>
      have hs : cs.size = i.size := by simp [hq] at hi; omega
      simpa [storeVar, sizeOf, typeInfo, hq, Value.cells, hs] using hr
  rw [hs]
  exact h _ (setRow_heap w t old cs ty (0, 0) hg) (setRow_chg w t cs)
theorem row_slice {w : World} {base e size n : Nat} {v : Value} {xs : List Value} (h : w.ownsRow base e size v n xs) : ∃ ad c, v = .slice ad n c := by
  rcases owns_shape h with ⟨rfl, rfl⟩ | ⟨g, c, rfl, _⟩
  · exact ⟨none, 0, rfl⟩
  · exact ⟨_, _, rfl⟩
theorem row_src {w : World} {base n : Nat} {v : Value} {l : List Int} (h : w.ownsRow base 3 1 v n (intl l)) : ∃ ad c, v = .slice ad n c ∧ Src w ad n c 1 (intl l) := by
  rcases owns_shape h with ⟨rfl, h0⟩ | ⟨g, c, rfl, -, -⟩
  · subst h0
    have hl : l = [] := by have := h.1; simpa [intl] using this
    subst hl
    exact ⟨none, 0, rfl, rfl, fun _ => ⟨rfl, rfl⟩, Nat.le_refl _, by unfold maxLen; omega, fun x hx => (by cases hx), fun x hx => by simp [intl] at hx⟩
  · exact ⟨_, c, rfl, src_owned h⟩
theorem zc_size : Tryd.zeroCells35.size = 500 := by kernel_rfl
end Go.Proofs.YtafdijcolponjaaDoor
