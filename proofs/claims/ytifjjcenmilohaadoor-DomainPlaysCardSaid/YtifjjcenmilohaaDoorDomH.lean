/- deemsterlaw32.few; the lists that were, in memory; what Undo gives back. No condition but those in each statement. -/
import Derived.Test.YtifjjcenmilohaaDoorDomG
namespace Go.Proofs.YtifjjcenmilohaaDoor
open Go.RowKit

theorem src_own {w : World} {base e g cap n : Nat} {l : List Int} (h : w.ownsRow base e 1 (.slice (some ⟨g, 0, none⟩) n cap) n (intl l)) : Src w (some ⟨g, 0, none⟩) n cap 1 (intl l) := by
  rcases owns_shape h with ⟨hv, _⟩ | ⟨g', c, hv, hc, hm⟩
  · cases hv
  · cases hv
    refine ⟨h.1, (fun e => by cases e), hc, hm, fun ad had j u hj => ?_, fun u hu => ?_⟩
    · cases had
      have hj' := (List.getElem?_eq_some_iff.1 hj).1
      have hlen := h.1
      have hadd : (⟨g, 0, none⟩ : Addr).add j = ⟨g, j, none⟩ := by unfold Addr.add; split <;> simp_all
      rw [hadd, h.cellAt j (by omega)]; exact hj
    · obtain ⟨n, _, rfl⟩ := List.mem_map.1 hu
      rfl
theorem src_list {w : World} {base n : Nat} {v : Value} {l : List Int} (h : w.ownsRow base 3 1 v n (intl l)) : ∃ ad c, v = .slice ad n c ∧ Src w ad n c 1 (intl l) := by
  rcases owns_shape h with ⟨rfl, h0⟩ | ⟨g, c, rfl, -, -⟩
  · subst h0
    have hl : l = [] := by have := h.1; simpa [intl] using this
    subst hl
    exact ⟨none, 0, rfl, rfl, fun _ => ⟨rfl, rfl⟩, Nat.le_refl _, by unfold maxLen; omega, fun x hx => (by cases hx), fun x hx => by simp [intl] at hx⟩
  · exact ⟨_, c, rfl, src_own h⟩

def fewK (n : Nat) : Nat := if 200 < n then 201 else min n 8
def fewD (l : List Int) : List Int := l.take (fewK l.length)
theorem fewK_le (n : Nat) : fewK n ≤ n ∧ fewK n ≤ 201 := by unfold fewK; split <;> omega
def FewEnds (l : List Int) (w : World) (e : Ending) (w' : World) : Prop :=
  ∃ g cap, e = .returned (.slice (some ⟨g, 0, none⟩) (fewD l).length cap) ∧ Below w.heap.size w w' ∧ Src w' (some ⟨g, 0, none⟩) (fewD l).length cap 1 (intl (fewD l))

theorem few_any (a : Option Addr) (len cap : Nat) (l : List Int) (w : World) (h : Src w a len cap 1 (intl l)) :
    Calls Tryd.prog 6 #[.slice a len cap] w (FewEnds l w) := by
  have hl : l.length = len := by have := h.1; simpa [intl] using this
  have hle := h.2.2.1
  have hx := h.2.2.2.1
  unfold maxLen at hx
  obtain ⟨hk1, hk2⟩ := fewK_le l.length
  have ht : (fewD l).length = fewK l.length := by unfold fewD; rw [List.length_take]; omega
  have hsrc : Src w a (fewD l).length cap 1 (intl (fewD l)) := by
    obtain ⟨h1, h2, h3, h4, h5, h6⟩ := h
    refine ⟨by simp [intl], fun e => ⟨by have := (h2 e).1; omega, (h2 e).2⟩, by omega, h4, fun ad had j u hj => h5 ad had j u ?_, fun u hu => ?_⟩
    · simp only [intl, fewD, List.map_take, List.getElem?_take] at hj
      split at hj
      · exact hj
      · cases hj
    · obtain ⟨n, _, rfl⟩ := List.mem_map.1 hu
      rfl
  have HI := Lib.hid (ints_any a (fewD l).length cap (intl (fewD l)) w hsrc (by omega))
  have HE : Hid (∀ e w', Made w.heap.size 3 1 (fewD l).length (intl (fewD l)) w e w' → FewEnds l w e w') := by
    rintro e w' ⟨g, c, rfl, hown, hB⟩
    exact ⟨g, c, rfl, hB, src_own hown⟩
  have hnil : a = none → l.length = 0 := fun e => by have := h.2.1 e; omega
  clear h hsrc
  have hf1 : 200 < l.length → fewK l.length = 201 := fun h => by unfold fewK; rw [if_pos h]
  have hf2 : ¬ 200 < l.length → fewK l.length = min l.length 8 := fun h => by unfold fewK; rw [if_neg h]
  generalize fewK l.length = m at *
  generalize hq : fewD l = q at ht HI HE
  clear hq
  rw [← hl] at *
  generalize l.length = n at *
  cases a with
  | none =>
    have h0 := hnil rfl
    subst h0
    have hm0 : m = 0 := by omega
    subst hm0
    rw [ht] at HI HE
    have q2 : ¬ (200 < ((0 : Nat) : Int)) := by omega
    clear ht hf1 hf2 hnil hl hk1 hk2
    go_enter Tryd.func6, Tryd.ntmps6
    go_wp2_with fail
    go_fit HI.out
    rintro e w' hM
    obtain ⟨g, c, rfl, hown, hB⟩ := hM
    go_wp2_with fail
    go_ret
    exact HE.out _ _ ⟨g, c, rfl, hown, hB⟩
  | some x =>
    by_cases h200 : 200 < n
    · have hm0 : m = 201 := hf1 h200
      subst hm0
      rw [ht] at HI HE
      have q2 : 200 < (n : Int) := by omega
      have q3 : (201 : Int) ≤ (cap : Int) := by omega
      clear ht hf1 hf2 hnil hl hk1 hk2 h200
      go_enter Tryd.func6, Tryd.ntmps6
      go_wp2_with fail
      go_fit HI.out
      rintro e w' hM
      obtain ⟨g, c, rfl, hown, hB⟩ := hM
      go_wp2_with fail
      go_ret
      exact HE.out _ _ ⟨g, c, rfl, hown, hB⟩
    · have hm0 := hf2 h200
      have q2 : ¬ (200 < (n : Int)) := by omega
      rw [ht] at HI HE
      rcases Nat.lt_or_ge 8 n with h8 | h8
      · have hm8 : m = 8 := by omega
        subst hm8
        have q3 : ¬ ((n : Int) ≤ 8) := by omega
        clear ht hf1 hf2 hnil hl hk1 hk2 h200 hm0
        go_enter Tryd.func6, Tryd.ntmps6
        go_wp2_with fail
        go_fit HI.out
        rintro e w' hM
        obtain ⟨g, c, rfl, hown, hB⟩ := hM
        go_wp2_with fail
        go_ret
        exact HE.out _ _ ⟨g, c, rfl, hown, hB⟩
      · have hm8 : m = n := by omega
        subst hm8
        have q3 : ((m : Int) ≤ 8) := by omega
        clear ht hf1 hf2 hnil hl hk1 hk2 h200 hm0
        go_enter Tryd.func6, Tryd.ntmps6
        go_wp2_with fail
        go_fit HI.out
        rintro e w' hM
        obtain ⟨g, c, rfl, hown, hB⟩ := hM
        go_wp2_with fail
        go_ret
        exact HE.out _ _ ⟨g, c, rfl, hown, hB⟩

/-- What Undo gives back, one level down. -/
def Kept0 (C : List Int) (T : TM) : Prop := T.marks = [0] ∧ back T.ch T.cells = C
theorem kept_set {C : List Int} {T : TM} (h : Kept0 C T) (sz : List Nat) (v k : Int) (x : Nat) : Kept0 C (actT sz T v k x) := by
  unfold actT
  split
  · obtain ⟨h1, h2⟩ := h
    refine ⟨h1, ?_⟩
    show back (if T.marks.length = 0 then T.ch else T.ch ++ [(v.toNat, T.cells.getD v.toNat 0)]) (T.cells.set v.toNat _) = C
    rw [if_neg (by rw [h1]; simp)]
    have e : back (T.ch ++ [(v.toNat, T.cells.getD v.toNat 0)]) (T.cells.set v.toNat (andN (full (sz.getD v.toNat 0)) x : Nat)) = back T.ch ((T.cells.set v.toNat (andN (full (sz.getD v.toNat 0)) x : Nat)).set v.toNat (T.cells.getD v.toNat 0)) := by simp [back, List.foldr_append]
    rw [e, List.set_set]
    have e2 : T.cells.set v.toNat (T.cells.getD v.toNat 0) = T.cells := by
      rcases Nat.lt_or_ge v.toNat T.cells.length with g | g
      · have : T.cells.getD v.toNat 0 = T.cells[v.toNat] := by rw [List.getD_eq_getElem?_getD, List.getElem?_eq_getElem g]; rfl
        rw [this, List.set_getElem_self]
      · exact List.set_eq_of_length_le g
    rw [e2]; exact h2
  · exact h
theorem kept_begin (C : List Int) : beginF ⟨C, [], []⟩ = (0, ⟨C, [], [0]⟩) := rfl
theorem kept_undo {C : List Int} {T : TM} (h : Kept0 C T) : undoF T = (0, ⟨C, [], []⟩) := by
  obtain ⟨h1, h2⟩ := h
  unfold undoF
  rw [if_neg (by rw [h1]; simp), h1]
  simp [h2]
end Go.Proofs.YtifjjcenmilohaaDoor
