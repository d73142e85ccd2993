/- What a trail in memory stands for, and the contracts of the calls that only read it. No condition but those in each statement. -/
import Derived.Test.YtifjjcenmilohaaDoorOwn
import Derived.Test.YtifjjcenmilohaaDoorInts
namespace Go.Proofs.YtifjjcenmilohaaDoor
open Go.RowKit

structure TM where
  cells : List Int
  ch : List (Nat × Int)
  marks : List Nat

def flat : List (Nat × Int) → List Value
  | [] => []
  | (c, v) :: r => .int .i64 c :: .int .i64 v :: flat r
theorem flat_length (l : List (Nat × Int)) : (flat l).length = l.length * 2 := by
  induction l with
  | nil => rfl
  | cons x r ih => simp [flat, ih]; omega
theorem flat_append (l m : List (Nat × Int)) : flat (l ++ m) = flat l ++ flat m := by
  induction l with
  | nil => rfl
  | cons x r ih => simp [flat, ih]

def ints (l : List Int) : List Value := l.map (Value.int .i64)
def nats (l : List Nat) : List Value := l.map fun (n : Nat) => Value.int .i64 (n : Int)

/-- Is there a cell? -/
def TM.has (T : TM) (c : Int) : Bool := decide (0 ≤ c ∧ c < T.cells.length)
theorem TM.has_yes {T : TM} {c : Int} (h0 : 0 ≤ c) (hl : c < T.cells.length) : T.has c = true := decide_eq_true ⟨h0, hl⟩
theorem TM.has_no {T : TM} {c : Int} (h : c < 0 ∨ T.cells.length ≤ c) : T.has c = false := decide_eq_false (by omega)

def TrailAt (w : World) (b : Nat) (F : List Nat) (T : TM) : Prop :=
  ∃ gc cc vch vm, w.heap[b]? = some (.cells #[.slice (some ⟨gc, 0, none⟩) T.cells.length cc, vch, vm, .bool true] 64 (0, 0)) ∧
    w.ownsRow 0 3 1 (.slice (some ⟨gc, 0, none⟩) T.cells.length cc) T.cells.length (ints T.cells) ∧
    w.ownsRow 0 68 2 vch T.ch.length (flat T.ch) ∧
    w.ownsRow 0 3 1 vm T.marks.length (nats T.marks) ∧
    F = b :: gc :: (ownL vch ++ ownL vm) ∧ F.Nodup

theorem TrailAt.lt {w : World} {b : Nat} {F : List Nat} {T : TM} (h : TrailAt w b F T) : ∀ k ∈ F, k < w.heap.size := by
  obtain ⟨gc, cc, vch, vm, hb, hc, hch, hm, rfl, hn⟩ := h
  intro k hk
  simp only [List.mem_cons, List.mem_append] at hk
  rcases hk with rfl | rfl | hk | hk
  · exact lt_of_block hb
  · exact owns_lt hc _ rfl
  · exact owns_lt hch _ (mem_ownL.1 hk)
  · exact owns_lt hm _ (mem_ownL.1 hk)

theorem TrailAt.frame {w w' : World} {b : Nat} {F : List Nat} {T : TM} (h : TrailAt w b F T) (hb : ∀ k ∈ F, w'.heap[k]? = w.heap[k]?) : TrailAt w' b F T := by
  obtain ⟨gc, cc, vch, vm, h1, hc, hch, hm, rfl, hn⟩ := h
  exact ⟨gc, cc, vch, vm, (hb _ (by simp)).trans h1, owns_of_heap hc fun k hk => hb k (by cases hk; simp),
    owns_of_heap hch fun k hk => hb k (by simp [mem_ownL.2 hk]), owns_of_heap hm fun k hk => hb k (by simp [mem_ownL.2 hk]), rfl, hn⟩

theorem TrailAt.chg {G : Nat → Prop} {w w' : World} {b : Nat} {F : List Nat} {T : TM} (h : TrailAt w b F T) (hc : Chg G w w') (hd : ∀ k ∈ F, ¬ G k) : TrailAt w' b F T :=
  h.frame fun k hk => hc.block k (h.lt k hk) (hd k hk)

theorem is_any (b : Nat) (F : List Nat) (T : TM) (w : World) (h : TrailAt w b F T) :
    Calls Tryd.prog 40 #[.pointer (some ⟨b, 0, none⟩)] w fun e w' => e = .returned (.bool true) ∧ w = w' := by
  obtain ⟨gc, cc, vch, vm, h1, -⟩ := h
  have c3 : w.cell? ⟨b, 3, none⟩ = some (.bool true) := cell_at 3 h1 rfl
  clear h1
  go_enter Tryd.func40, Tryd.ntmps40
  go_wp2
  go_ret
  exact ⟨rfl, rfl⟩

theorem has_any (b : Nat) (F : List Nat) (T : TM) (c : Int) (w : World) (h : TrailAt w b F T) :
    Calls Tryd.prog 44 #[.pointer (some ⟨b, 0, none⟩), .int .i64 c] w fun e w' => e = .returned (.bool (T.has c)) ∧ w = w' := by
  have his := Lib.hid (is_any b F T w h)
  obtain ⟨gc, cc, vch, vm, h1, -⟩ := h
  have c0 : w.cell? ⟨b, 0, none⟩ = some (.slice (some ⟨gc, 0, none⟩) T.cells.length cc) := cell_at 0 h1 rfl
  clear h1
  by_cases h0 : 0 ≤ c
  · by_cases hl : c < T.cells.length
    · go_enter Tryd.func44, Tryd.ntmps44
      go_wp2_with fail
      refine his.out.mono ?_
      rintro e w' ⟨rfl, rfl⟩
      go_wp2_with fail
      go_ret
      refine ⟨ret_bool ?_, rfl⟩
      rw [TM.has_yes h0 hl]
    · go_enter Tryd.func44, Tryd.ntmps44
      go_wp2_with fail
      refine his.out.mono ?_
      rintro e w' ⟨rfl, rfl⟩
      go_wp2_with fail
      go_ret
      refine ⟨ret_bool ?_, rfl⟩
      rw [TM.has_no (by omega)]; simp; omega
  · go_enter Tryd.func44, Tryd.ntmps44
    go_wp2_with fail
    refine his.out.mono ?_
    rintro e w' ⟨rfl, rfl⟩
    go_wp2_with fail
    go_ret
    refine ⟨ret_bool ?_, rfl⟩
    rw [TM.has_no (by omega)]

theorem ints_nth (l : List Int) {i : Nat} (h : i < l.length) : (ints l)[i]? = some (.int .i64 (l.getD i 0)) := by
  simp [ints, List.getD, h]

theorem get_any (b : Nat) (F : List Nat) (T : TM) (c : Int) (w : World) (h : TrailAt w b F T) :
    Calls Tryd.prog 39 #[.pointer (some ⟨b, 0, none⟩), .int .i64 c] w fun e w' =>
      e = .returned (.int .i64 (if 0 ≤ c ∧ c < T.cells.length then T.cells.getD c.toNat 0 else 0)) ∧ w = w' := by
  have hha := Lib.hid (has_any b F T c w h)
  obtain ⟨gc, cc, vch, vm, h1, hc, -⟩ := h
  have c0 : w.cell? ⟨b, 0, none⟩ = some (.slice (some ⟨gc, 0, none⟩) T.cells.length cc) := cell_at 0 h1 rfl
  by_cases hin : 0 ≤ c ∧ c < T.cells.length
  · rw [if_pos hin]
    obtain ⟨h0, hl⟩ := hin
    rw [TM.has_yes h0 hl] at hha
    obtain ⟨n, rfl⟩ := Int.eq_ofNat_of_zero_le h0
    have hln : n < T.cells.length := by omega
    have hcell : w.cell? ⟨gc, n, none⟩ = some (.int .i64 (T.cells.getD n 0)) := (hc.cellAt n (by omega)).trans (ints_nth _ hln)
    have hcap := (owns_shape hc).resolve_left (by rintro ⟨h, _⟩; cases h)
    obtain ⟨g', cap', hv, hle, hmx⟩ := hcap
    cases hv
    unfold maxLen at hmx
    clear h1 hc
    rw [Int.toNat_natCast]
    generalize T.cells.getD n 0 = x at *
    go_enter Tryd.func39, Tryd.ntmps39
    go_wp2_with fail
    refine hha.out.mono ?_
    rintro e w' ⟨rfl, rfl⟩
    go_wp2_with fail
    go_ret
    exact ⟨rfl, rfl⟩
  · rw [if_neg hin]
    rw [TM.has_no (by omega)] at hha
    clear h1 hc hin
    go_enter Tryd.func39, Tryd.ntmps39
    go_wp2_with fail
    refine hha.out.mono ?_
    rintro e w' ⟨rfl, rfl⟩
    go_wp2_with fail
    go_ret
    exact ⟨rfl, rfl⟩
end Go.Proofs.YtifjjcenmilohaaDoor
