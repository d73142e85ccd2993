/- The document's graph in memory; the contracts of its Has, Put, Undo. No condition but those in each statement; Put: at most 2 to the power 40 edges. -/
import Derived.Test.YtafdijcolponjaaDoorGraphR
namespace Go.Proofs.YtafdijcolponjaaDoor
open Go.RowKit

/-- A row of edges that is appended to: its own, or full. -/
def RowE (w : World) (v : Value) (L : List (Nat × Nat)) : Prop :=
  w.ownsRow 0 61 2 v L.length (edgeCells L) ∨
  ∃ g cs, v = .slice (some ⟨g, 0, none⟩) L.length L.length ∧ w.heap[g]? = some (.cells cs 61 (0, 0)) ∧ L.length ≤ maxLen ∧ cs.toList.take (L.length * 2) = edgeCells L

theorem RowE.lt {w : World} {v : Value} {L : List (Nat × Nat)} (h : RowE w v L) : ∀ k, v.ownBlock = some k → k < w.heap.size := by
  rcases h with h | ⟨g, cs, rfl, hg, -⟩
  · exact owns_lt h
  · intro k hk; cases hk; exact lt_of_block hg
theorem RowE.frame {w w' : World} {v : Value} {L : List (Nat × Nat)} (h : RowE w v L) (hb : ∀ k, v.ownBlock = some k → w'.heap[k]? = w.heap[k]?) : RowE w' v L := by
  rcases h with h | ⟨g, cs, rfl, hg, h⟩
  · exact .inl (owns_of_heap h hb)
  · exact .inr ⟨g, cs, rfl, (hb g rfl).trans hg, h⟩
theorem RowE.form {w : World} {v : Value} {L : List (Nat × Nat)} (h : RowE w v L) : ∃ ad c, v = .slice ad L.length c ∧ L.length ≤ c ∧ c ≤ 9223372036854775807 ∧ (ad = none → L.length = 0 ∧ c = 0) ∧
    ∀ i, i < L.length → ∃ g, ad = some ⟨g, 0, none⟩ ∧ w.cell? ⟨g, i * 2, none⟩ = some (.int .i64 ((L.getD i (0, 0)).1 : Int)) ∧ w.cell? ⟨g, i * 2 + 1, none⟩ = some (.int .i64 ((L.getD i (0, 0)).2 : Int)) := by
  rcases h with h | ⟨g, cs, rfl, hg, hm, ht⟩
  · rcases owns_shape h with ⟨rfl, h0⟩ | ⟨g, cap, rfl, hc, hm⟩
    · exact ⟨none, 0, by rw [h0], by omega, by omega, fun _ => ⟨h0, rfl⟩, fun i hi => by omega⟩
    · unfold maxLen at hm
      refine ⟨_, cap, rfl, hc, by omega, (fun e => by cases e), fun i hi => ?_⟩
      exact edges_at h hi
  · unfold maxLen at hm
    refine ⟨_, _, rfl, Nat.le_refl _, by omega, (fun e => by cases e), fun i hi => ⟨g, rfl, ?_⟩⟩
    have h1 := edgeCells_at L i hi
    rw [← ht, List.getElem?_take, List.getElem?_take, if_pos (by omega), if_pos (by omega)] at h1
    exact ⟨cell_at (i * 2) hg (by simpa using h1.1), cell_at (i * 2 + 1) hg (by simpa using h1.2)⟩

/-- The document's graph at block r; F: its blocks. -/
def RefG (w : World) (r : Nat) (F : List Nat) (n : Nat) (L : List (Nat × Nat)) : Prop :=
  ∃ v, w.heap[r]? = some (.cells #[.int .i64 n, v] 71 (0, 0)) ∧ RowE w v L ∧ F = r :: ownL v ∧ F.Nodup
theorem RefG.lt {w : World} {r n : Nat} {F : List Nat} {L : List (Nat × Nat)} (h : RefG w r F n L) : ∀ k ∈ F, k < w.heap.size := by
  obtain ⟨v, h1, h2, rfl, -⟩ := h
  intro k hk
  rcases List.mem_cons.1 hk with rfl | hk
  · exact lt_of_block h1
  · exact h2.lt k (mem_ownL.1 hk)
theorem RefG.frame {w w' : World} {r n : Nat} {F : List Nat} {L : List (Nat × Nat)} (h : RefG w r F n L) (hb : ∀ k ∈ F, w'.heap[k]? = w.heap[k]?) : RefG w' r F n L := by
  obtain ⟨v, h1, h2, rfl, h3⟩ := h
  exact ⟨v, (hb r (by simp)).trans h1, h2.frame fun k hk => hb k (by simp [mem_ownL.2 hk]), rfl, h3⟩
theorem RefG.mem {w : World} {r n : Nat} {F : List Nat} {L : List (Nat × Nat)} (h : RefG w r F n L) : r ∈ F := by
  obtain ⟨v, h1, h2, rfl, -⟩ := h; simp

theorem hasR_at {L : List (Nat × Nat)} {k : Nat} (hk : k < L.length) {a z : Int} (h1 : ((L.getD k (0, 0)).1 : Int) = a) (h2 : ((L.getD k (0, 0)).2 : Int) = z) : hasR L a z = true := by
  have e : L.getD k (0, 0) = L[k] := by rw [List.getD_eq_getElem?_getD, List.getElem?_eq_getElem hk]; rfl
  rw [e] at h1 h2
  exact hasR_iff.2 ⟨L[k], List.getElem_mem hk, h1, h2⟩
theorem hasR_none {L : List (Nat × Nat)} {a z : Int} (h : ∀ j, j < L.length → ¬ (((L.getD j (0, 0)).1 : Int) = a ∧ ((L.getD j (0, 0)).2 : Int) = z)) : hasR L a z = false := by
  rw [Bool.eq_false_iff]
  intro ht
  obtain ⟨e, he, h1, h2⟩ := hasR_iff.1 ht
  obtain ⟨k, hk, rfl⟩ := List.getElem_of_mem he
  have e : L.getD k (0, 0) = L[k] := by rw [List.getD_eq_getElem?_getD, List.getElem?_eq_getElem hk]; rfl
  exact h k hk (by rw [e]; exact ⟨h1, h2⟩)

def RHasRel (w : World) (L : List (Nat × Nat)) (a z : Int) (i : Value) (wr : World) : Prop :=
  ∃ k : Nat, k ≤ L.length ∧ i = .int .i64 k ∧ (∀ j, j < k → ¬ (((L.getD j (0, 0)).1 : Int) = a ∧ ((L.getD j (0, 0)).2 : Int) = z)) ∧ w = wr

theorem rghas_any (r n : Nat) (F : List Nat) (L : List (Nat × Nat)) (a z : Int) (w : World) (h : RefG w r F n L) :
    Calls Tryd.prog 56 #[.pointer (some ⟨r, 0, none⟩), .int .i64 a, .int .i64 z] w fun e w' => e = .returned (.bool (hasR L a z)) ∧ w = w' := by
  obtain ⟨v, h1, h2, -, -⟩ := h
  obtain ⟨ad, c, rfl, hc, hm, -, hat⟩ := h2.form
  have c1 : w.cell? ⟨r, 1, none⟩ = some (.slice ad L.length c) := cell_at 1 h1 rfl
  have HA := Lib.hid hat
  clear h1 h2 hat
  go_enter Tryd.func56, Tryd.ntmps56
  go_wp2_with fail
  go_loopw [7] (fun i wr => RHasRel w L a z i wr) (fun i _ => L.length - (intOf i).toNat)
  case atStart => exact ⟨0, Nat.zero_le _, rfl, fun j hj => absurd hj (Nat.not_lt_zero j), rfl⟩
  case round =>
    obtain ⟨k, hk, rfl, hno, rfl⟩ := hrel
    have HNo := Lib.hid hno
    clear hno
    by_cases hlt : k < L.length
    · obtain ⟨g, rfl, d1, d2⟩ := HA.out k hlt
      have HAt := Lib.hid (fun h1 h2 => hasR_at hlt (a := a) (z := z) h1 h2)
      have HNx : Hid (∀ j, j < k + 1 → j ≠ k → ¬ (((L.getD j (0, 0)).1 : Int) = a ∧ ((L.getD j (0, 0)).2 : Int) = z)) := fun j hj hne => HNo.out j (by omega)
      generalize hx : L.getD k (0, 0) = x at *
      have HX := Lib.hid hx
      clear hx
      obtain ⟨x, y⟩ := x
      have hk0 : (0 : Int) ≤ (k : Int) := by omega
      have hk1 : (k : Int) < (L.length : Int) := by omega
      by_cases e1 : (x : Int) = a
      · by_cases e2 : (y : Int) = z
        · have HR := Lib.hid (HAt.out e1 e2)
          have e1' : ((x : Int) == a) = true := by simpa using e1
          have e2' : ((y : Int) == z) = true := by simpa using e2
          clear e1 e2
          go_wp2_with fail
          go_ret
          exact ⟨ret_bool HR.out.symm, rfl⟩
        · have HE := Lib.hid e2
          have e1' : ((x : Int) == a) = true := by simpa using e1
          have e2' : ((y : Int) == z) = false := by simpa using e2
          clear e1 e2
          go_wp2_with fail
          go_roundw
          case rel =>
            refine ⟨k + 1, by omega, by go_num, fun j hj => ?_, rfl⟩
            by_cases hjk : j = k
            · subst hjk; rw [HX.out]; exact fun h => HE.out h.2
            · exact HNx.out j hj hjk
          case measure => simp [intOf]; omega
      · have HE := Lib.hid e1
        have e1' : ((x : Int) == a) = false := by simpa using e1
        clear e1
        go_wp2_with fail
        go_roundw
        case rel =>
          refine ⟨k + 1, by omega, by go_num, fun j hj => ?_, rfl⟩
          by_cases hjk : j = k
          · subst hjk; rw [HX.out]; exact fun h => HE.out h.1
          · exact HNx.out j hj hjk
        case measure => simp [intOf]; omega
    · obtain rfl : k = L.length := by omega
      go_wp2_with fail
      go_ret
      exact ⟨ret_bool (hasR_none HNo.out).symm, rfl⟩
end Go.Proofs.YtafdijcolponjaaDoor
