/- Orders of a graph, in plain Lean: which node may stand next, the least order, and what is ahead of each node. No program is walked here; no condition but those in each statement. What is reached in a graph, in plain Lean: ways, rings, and that there is an order just if nothing reaches itself. No program is walked here; no condition but those in each statement. The contracts of slices.Index at numbers, and of the document's free. Conditions: those in each statement. The contract of the document's Least (topo). Conditions: a graph that may be. The contract of a graph's least order. Condition: where the table lies. The contracts of HasInt, and of the document's From and Round (part). Conditions: a graph that may be. The contract of the document's From (part). Conditions: a graph that may be, a node of it. -/
import Derived.Test.YtafdijcolponjaaDoorME
import Derived.Deep.LoopGhost
namespace Go.Proofs.YtafdijcolponjaaDoor
open Go.RowKit

theorem mem_putL {n : Nat} {L : List (Nat × Nat)} {a z : Int} (h : (inG n a && inG n z) = true) (e : Nat × Nat) : e ∈ putL n L a z ↔ e ∈ L ∨ ((e.1 : Int) = a ∧ (e.2 : Int) = z) := by
  rw [Bool.and_eq_true] at h
  unfold putL
  rw [if_pos h]
  have ha := of_decide_eq_true h.1
  have hz := of_decide_eq_true h.2
  by_cases hh : hasR L a z = true
  · rw [if_pos hh]
    refine ⟨.inl, fun h' => h'.elim id fun ⟨h1, h2⟩ => ?_⟩
    obtain ⟨e', he, h3, h4⟩ := hasR_iff.1 hh
    have : e = e' := Prod.ext (by omega) (by omega)
    rw [this]; exact he
  · rw [if_neg hh, List.mem_append, List.mem_singleton]
    constructor
    · rintro (h' | rfl)
      · exact .inl h'
      · exact .inr ⟨by show ((a.toNat : Nat) : Int) = a; omega, by show ((z.toNat : Nat) : Int) = z; omega⟩
    · rintro (h' | ⟨h1, h2⟩)
      · exact .inl h'
      · exact .inr (Prod.ext (by show e.1 = a.toNat; omega) (by show e.2 = z.toNat; omega))
theorem mem_ofZ {n : Nat} {z : Nat → Nat → Int} : ∀ {k : Nat}, mayE n z k = true → ∀ e : Nat × Nat, e ∈ ofZ n z k ↔ ∃ i, i < k ∧ (e.1 : Int) = z i 0 ∧ (e.2 : Int) = z i 1
  | 0, _, e => by simp [ofZ]
  | k + 1, h, e => by
    rw [mayE_succ, Bool.and_eq_true] at h
    simp only [ofZ]
    rw [mem_putL h.2, mem_ofZ h.1]
    constructor
    · rintro (⟨i, h1, h2⟩ | h1)
      · exact ⟨i, by omega, h2⟩
      · exact ⟨k, by omega, h1⟩
    · rintro ⟨i, h1, h2⟩
      by_cases hi : i < k
      · exact .inl ⟨i, hi, h2⟩
      · obtain rfl : i = k := by omega
        exact .inr h2
theorem mayE_at {n : Nat} {z : Nat → Nat → Int} {k i : Nat} (h : mayE n z k = true) (hi : i < k) : (0 ≤ z i 0 ∧ z i 0 < (n : Int)) ∧ (0 ≤ z i 1 ∧ z i 1 < (n : Int)) := by
  have := List.all_eq_true.1 h i (List.mem_range.2 hi)
  rw [Bool.and_eq_true] at this
  exact ⟨of_decide_eq_true this.1, of_decide_eq_true this.2⟩
theorem ofZ_inr {n : Nat} {z : Nat → Nat → Int} {k : Nat} (h : mayE n z k = true) : ∀ e ∈ ofZ n z k, e.1 < n ∧ e.2 < n := by
  intro e he
  obtain ⟨i, hi, h1, h2⟩ := (mem_ofZ h e).1 he
  have := mayE_at h hi
  omega

/-- May a node stand next, behind those that stand? -/
def freeB (L : List (Nat × Nat)) (out : List Nat) (b : Nat) : Bool := decide (b ∉ out ∧ ∀ e ∈ L, e.2 = b → e.1 ∈ out)
def nextF (n : Nat) (L : List (Nat × Nat)) (out : List Nat) : Option Nat := (List.range n).find? (freeB L out)
def leastF (n : Nat) (L : List (Nat × Nat)) : Nat → List Nat → Option (List Nat)
  | 0, out => some out
  | k + 1, out => match nextF n L out with
    | none => none
    | some a => leastF n L k (out ++ [a])
theorem freeB_iff {L : List (Nat × Nat)} {out : List Nat} {b : Nat} : freeB L out b = true ↔ b ∉ out ∧ ∀ e ∈ L, e.2 = b → e.1 ∈ out := by unfold freeB; exact decide_eq_true_iff
theorem nextF_some {n : Nat} {L : List (Nat × Nat)} {out : List Nat} {a : Nat} (h1 : a < n) (h2 : freeB L out a = true) (h3 : ∀ j, j < a → freeB L out j = false) : nextF n L out = some a := by
  unfold nextF
  rw [List.find?_range_eq_some]
  exact ⟨h2, List.mem_range.2 h1, fun j hj => by rw [h3 j hj]; rfl⟩
theorem nextF_none {n : Nat} {L : List (Nat × Nat)} {out : List Nat} (h : ∀ j, j < n → freeB L out j = false) : nextF n L out = none := by
  unfold nextF
  rw [List.find?_range_eq_none]
  exact fun j hj => by rw [h j hj]; rfl
theorem nextF_at {n : Nat} {L : List (Nat × Nat)} {out : List Nat} {a : Nat} (h : nextF n L out = some a) : a < n ∧ freeB L out a = true := by
  unfold nextF at h
  rw [List.find?_range_eq_some] at h
  exact ⟨List.mem_range.1 h.2.1, h.1⟩
theorem nextF_no {n : Nat} {L : List (Nat × Nat)} {out : List Nat} (h : nextF n L out = none) : ∀ j, j < n → freeB L out j = false := by
  unfold nextF at h
  rw [List.find?_range_eq_none] at h
  exact fun j hj => by simpa using h j hj

/-- What stands has all that is ahead of it behind it. -/
structure Stands (n : Nat) (L : List (Nat × Nat)) (out : List Nat) : Prop where
  lt : ∀ x ∈ out, x < n
  once : out.Nodup
  shut : ∀ e ∈ L, e.2 ∈ out → e.1 ∈ out
theorem Stands.nil (n : Nat) (L : List (Nat × Nat)) : Stands n L [] := ⟨by simp, by simp, by simp⟩
theorem Stands.push {n : Nat} {L : List (Nat × Nat)} {out : List Nat} (h : Stands n L out) {a : Nat} (ha : a < n) (hf : freeB L out a = true) : Stands n L (out ++ [a]) := by
  obtain ⟨h1, h2⟩ := freeB_iff.1 hf
  refine ⟨fun x hx => ?_, ?_, fun e he hm => ?_⟩
  · rcases List.mem_append.1 hx with hx | hx
    · exact h.lt x hx
    · rw [List.mem_singleton.1 hx]; exact ha
  · rw [List.nodup_append]
    exact ⟨h.once, by simp, fun x hx y hy => by rw [List.mem_singleton.1 hy]; rintro rfl; exact h1 hx⟩
  · rw [List.mem_append]
    rcases List.mem_append.1 hm with hm | hm
    · exact .inl (h.shut e he hm)
    · exact .inl (h2 e he (List.mem_singleton.1 hm))
theorem Stands.len {n : Nat} {L : List (Nat × Nat)} {out : List Nat} (h : Stands n L out) : out.length ≤ n := len_of_lt n out h.once h.lt

/-- How many nodes ahead of a node do not stand yet; -1: it stands. -/
def aheadAt (n : Nat) (L : List (Nat × Nat)) (out : List Nat) (b : Nat) : Int := if b ∈ out then -1 else (((backR n L b).filter fun a => decide (a ∉ out)).length : Nat)
def aheadL (n : Nat) (L : List (Nat × Nat)) (out : List Nat) : List Int := (List.range n).map (aheadAt n L out)
theorem aheadL_len (n : Nat) (L : List (Nat × Nat)) (out : List Nat) : (aheadL n L out).length = n := by simp [aheadL]
theorem aheadL_at {n : Nat} {L : List (Nat × Nat)} {out : List Nat} {b : Nat} (h : b < n) : (aheadL n L out).getD b 0 = aheadAt n L out b := by simp [aheadL, h]
theorem backR_len (n : Nat) (L : List (Nat × Nat)) (a : Int) : (backR n L a).length ≤ n := by
  have := List.length_filter_le (fun i => hasR L (i : Nat) a) (List.range n)
  simpa [backR] using this
theorem aheadAt_rng (n : Nat) (L : List (Nat × Nat)) (out : List Nat) (b : Nat) : -1 ≤ aheadAt n L out b ∧ aheadAt n L out b ≤ n := by
  unfold aheadAt
  have h1 := backR_len n L b
  have h2 := List.length_filter_le (fun a => decide (a ∉ out)) (backR n L b)
  split <;> omega
theorem backR_nodup (n : Nat) (L : List (Nat × Nat)) (a : Int) : (backR n L a).Nodup := List.Nodup.sublist List.filter_sublist List.nodup_range
theorem mem_backR {n : Nat} {L : List (Nat × Nat)} (hL : ∀ e ∈ L, e.1 < n ∧ e.2 < n) {a b : Nat} : a ∈ backR n L b ↔ (a, b) ∈ L := by
  unfold backR
  rw [List.mem_filter, hasR_nat, decide_eq_true_iff, List.mem_range]
  exact ⟨fun h => h.2, fun h => ⟨(hL _ h).1, h⟩⟩
theorem mem_nextR {n : Nat} {L : List (Nat × Nat)} (hL : ∀ e ∈ L, e.1 < n ∧ e.2 < n) {a b : Nat} : b ∈ nextR n L a ↔ (a, b) ∈ L := by
  unfold nextR
  rw [List.mem_filter, hasR_nat, decide_eq_true_iff, List.mem_range]
  exact ⟨fun h => h.2, fun h => ⟨(hL _ h).2, h⟩⟩
theorem ahead_zero {n : Nat} {L : List (Nat × Nat)} (hL : ∀ e ∈ L, e.1 < n ∧ e.2 < n) {out : List Nat} {b : Nat} : aheadAt n L out b = 0 ↔ freeB L out b = true := by
  rw [freeB_iff]
  unfold aheadAt
  by_cases hb : b ∈ out
  · rw [if_pos hb]
    exact ⟨fun h => (by cases h), fun h => absurd hb h.1⟩
  · rw [if_neg hb]
    have : ((backR n L b).filter fun a => decide (a ∉ out)).length = 0 ↔ ∀ e ∈ L, e.2 = b → e.1 ∈ out := by
      rw [List.length_eq_zero_iff, List.filter_eq_nil_iff]
      constructor
      · intro h e he heb
        subst heb
        have := h e.1 ((mem_backR hL).2 he)
        simpa using this
      · intro h a ha
        have := h (a, b) ((mem_backR hL).1 ha) rfl
        simpa using this
    constructor
    · intro h; exact ⟨hb, this.1 (by omega)⟩
    · intro h; have := this.2 h.2; omega

/-- What is left ahead, behind a node that came to stand, once some of those behind it have been told. -/
def midA (A : List Int) (a : Nat) (bs : List Nat) : List Int := bs.foldl (fun A b => A.set b (A.getD b 0 - 1)) (A.set a (-1))
theorem midA_snoc (A : List Int) (a : Nat) (bs : List Nat) (b : Nat) : midA A a (bs ++ [b]) = (midA A a bs).set b ((midA A a bs).getD b 0 - 1) := by
  unfold midA; rw [List.foldl_append]; rfl
theorem midA_len (A : List Int) (a : Nat) (bs : List Nat) : (midA A a bs).length = A.length := by
  suffices h : ∀ (bs : List Nat) (B : List Int), (bs.foldl (fun A b => A.set b (A.getD b 0 - 1)) B).length = B.length by
    unfold midA; rw [h]; simp
  intro bs
  induction bs with
  | nil => intro B; rfl
  | cons b bs ih => intro B; rw [List.foldl_cons, ih]; simp
theorem getD_set {A : List Int} {i j : Nat} {x : Int} (hi : i < A.length) : (A.set i x).getD j 0 = if i = j then x else A.getD j 0 := by
  rw [List.getD_eq_getElem?_getD, List.getElem?_set]
  by_cases h : i = j
  · subst h; simp [hi]
  · rw [if_neg h, if_neg h, List.getD_eq_getElem?_getD]
theorem foldA_at : ∀ (bs : List Nat) (B : List Int), bs.Nodup → (∀ b ∈ bs, b < B.length) → ∀ i, (bs.foldl (fun A b => A.set b (A.getD b 0 - 1)) B).getD i 0 = B.getD i 0 - if i ∈ bs then 1 else 0
  | [], B, _, _, i => by simp
  | b :: bs, B, hn, hb, i => by
    rw [List.nodup_cons] at hn
    rw [List.foldl_cons, foldA_at bs _ hn.2 (fun x hx => by rw [List.length_set]; exact hb x (by simp [hx])) i, getD_set (hb b (by simp))]
    by_cases h : b = i
    · subst h
      rw [if_pos rfl, if_neg hn.1, if_pos (by simp)]; omega
    · rw [if_neg h]
      have : i ∈ b :: bs ↔ i ∈ bs := by simp [Ne.symm h]
      by_cases hi : i ∈ bs
      · rw [if_pos hi, if_pos (this.2 hi)]
      · rw [if_neg hi, if_neg (fun h' => hi (this.1 h'))]
theorem midA_at {A : List Int} {a : Nat} {bs : List Nat} (ha : a < A.length) (hn : bs.Nodup) (hb : ∀ b ∈ bs, b < A.length) (i : Nat) : (midA A a bs).getD i 0 = (if a = i then -1 else A.getD i 0) - if i ∈ bs then 1 else 0 := by
  unfold midA
  rw [foldA_at bs _ hn (fun b h => by rw [List.length_set]; exact hb b h), getD_set ha]
theorem nextR_nodup (n : Nat) (L : List (Nat × Nat)) (a : Int) : (nextR n L a).Nodup := List.Nodup.sublist List.filter_sublist List.nodup_range
theorem nextR_lt {n : Nat} {L : List (Nat × Nat)} {a : Int} {b : Nat} (h : b ∈ nextR n L a) : b < n := List.mem_range.1 (List.mem_filter.1 h).1
theorem filter_one {p : Nat → Bool} {a : Nat} : ∀ {l : List Nat}, l.Nodup → a ∈ l → p a = true → (l.filter p).length = (l.filter fun x => p x && !decide (x = a)).length + 1
  | [], _, h, _ => absurd h (by simp)
  | x :: l, hn, hm, hp => by
    rw [List.nodup_cons] at hn
    by_cases hx : x = a
    · subst hx
      have e : l.filter (fun y => p y && !decide (y = x)) = l.filter p := by
        refine List.filter_congr fun y hy => ?_
        have : y ≠ x := by rintro rfl; exact hn.1 hy
        simp [this]
      simp [hp, e]
    · have ih := filter_one hn.2 ((List.mem_cons.1 hm).resolve_left (Ne.symm hx)) hp
      by_cases hpx : p x = true
      · simp [hpx, hx, ih]
      · simp [hpx, ih]
theorem ahead_push {n : Nat} {L : List (Nat × Nat)} (hL : ∀ e ∈ L, e.1 < n ∧ e.2 < n) {out : List Nat} (h : Stands n L out) {a : Nat} (ha : a < n) (hf : freeB L out a = true) :
    midA (aheadL n L out) a (nextR n L a) = aheadL n L (out ++ [a]) := by
  obtain ⟨h1, h2⟩ := freeB_iff.1 hf
  refine List.ext_getElem (by rw [midA_len, aheadL_len, aheadL_len]) fun i hi hi' => ?_
  have hin : i < n := by rw [aheadL_len] at hi'; exact hi'
  have e1 : (midA (aheadL n L out) a (nextR n L a))[i] = (midA (aheadL n L out) a (nextR n L a)).getD i 0 := by simp [List.getD, hi]
  have e2 : (aheadL n L (out ++ [a]))[i] = (aheadL n L (out ++ [a])).getD i 0 := by simp [List.getD, hi']
  rw [e1, e2, midA_at (by rw [aheadL_len]; exact ha) (nextR_nodup n L a) (fun b hb => by rw [aheadL_len]; exact nextR_lt hb), aheadL_at hin, aheadL_at hin]
  have hmem : i ∈ nextR n L (a : Int) ↔ (a, i) ∈ L := mem_nextR hL
  unfold aheadAt
  by_cases hai : a = i
  · subst hai
    have hno : ¬ a ∈ nextR n L (a : Int) := fun hm => h1 (h2 _ (hmem.1 hm) rfl)
    rw [if_pos rfl, if_neg hno, if_pos (by simp)]; rfl
  · rw [if_neg hai]
    by_cases hio : i ∈ out
    · have hno : ¬ i ∈ nextR n L (a : Int) := fun hm => h1 (h.shut _ (hmem.1 hm) hio)
      rw [if_pos hio, if_neg hno, if_pos (by simp [hio])]; rfl
    · have hno' : ¬ i ∈ out ++ [a] := by simp [hio, Ne.symm hai]
      rw [if_neg hio, if_neg hno']
      have hb : ∀ x, x ∈ backR n L (i : Int) ↔ (x, i) ∈ L := fun x => mem_backR hL
      have e3 : (backR n L (i : Int)).filter (fun x => decide (x ∉ out ++ [a])) = (backR n L (i : Int)).filter (fun x => decide (x ∉ out) && !decide (x = a)) := by
        refine List.filter_congr fun x _ => ?_
        rw [Bool.eq_iff_iff]; simp
      rw [e3]
      by_cases hm : i ∈ nextR n L (a : Int)
      · rw [if_pos hm, filter_one (p := fun x => decide (x ∉ out)) (a := a) (backR_nodup n L i) ((hb a).2 (hmem.1 hm)) (decide_eq_true h1)]
        omega
      · rw [if_neg hm]
        have e4 : (backR n L (i : Int)).filter (fun x => decide (x ∉ out) && !decide (x = a)) = (backR n L (i : Int)).filter (fun x => decide (x ∉ out)) := by
          refine List.filter_congr fun x hx => ?_
          have : x ≠ a := by rintro rfl; exact hm (hmem.2 ((hb x).1 hx))
          simp [this]
        rw [e4]; omega
theorem ahead_nil (n : Nat) (L : List (Nat × Nat)) (b : Nat) : aheadAt n L [] b = ((backR n L b).length : Nat) := by
  unfold aheadAt
  rw [if_neg (by simp)]
  congr 2
  exact List.filter_eq_self.2 fun x _ => by simp
end Go.Proofs.YtafdijcolponjaaDoor

namespace Go.Proofs.YtafdijcolponjaaDoor
open Go.RowKit

inductive Reach (L : List (Nat × Nat)) : Nat → Nat → Prop
  | one {a b : Nat} (h : (a, b) ∈ L) : Reach L a b
  | more {a b c : Nat} (h : Reach L a b) (k : (b, c) ∈ L) : Reach L a c
variable {L M : List (Nat × Nat)} {a b c n : Nat}
theorem Reach.trans (h : Reach L a b) (k : Reach L b c) : Reach L a c := by
  induction k with
  | one k => exact .more h k
  | more _ k ih => exact .more ih k
theorem Reach.head (h : (a, b) ∈ L) (k : Reach L b c) : Reach L a c := (Reach.one h).trans k
theorem Reach.first (h : Reach L a c) : (a, c) ∈ L ∨ ∃ b, (a, b) ∈ L ∧ Reach L b c := by
  induction h with
  | one k => exact .inl k
  | more h k ih =>
    rcases ih with ih | ⟨b, h1, h2⟩
    · exact .inr ⟨_, ih, .one k⟩
    · exact .inr ⟨b, h1, .more h2 k⟩
theorem Reach.mono (h : Reach L a b) (hs : ∀ e ∈ L, e ∈ M) : Reach M a b := by
  induction h with
  | one k => exact .one (hs _ k)
  | more _ k ih => exact .more ih (hs _ k)
theorem Reach.lt (hL : ∀ e ∈ L, e.1 < n ∧ e.2 < n) (h : Reach L a b) : a < n ∧ b < n := by
  induction h with
  | one k => exact hL _ k
  | more _ k ih => exact ⟨ih.1, (hL _ k).2⟩
/-- What is shut under the edges holds all that is reached. -/
theorem Reach.shut {S : Nat → Prop} (h1 : ∀ b, (a, b) ∈ L → S b) (h2 : ∀ b c, S b → (b, c) ∈ L → S c) (h : Reach L a b) : S b := by
  induction h with
  | one k => exact h1 _ k
  | more _ k ih => exact h2 _ _ ih k

open Classical in
noncomputable def reachB (L : List (Nat × Nat)) (a b : Nat) : Bool := decide (Reach L a b)
theorem reachB_iff : reachB L a b = true ↔ Reach L a b := by simp [reachB]
noncomputable def fromL (n : Nat) (L : List (Nat × Nat)) (a : Nat) : List Nat := (List.range n).filter (reachB L a)
theorem mem_fromL : b ∈ fromL n L a ↔ b < n ∧ Reach L a b := by
  unfold fromL
  rw [List.mem_filter, List.mem_range, reachB_iff]
noncomputable def roundB (n : Nat) (L : List (Nat × Nat)) : Bool := (List.range n).any fun a => reachB L a a
theorem roundB_iff : roundB n L = true ↔ ∃ a, a < n ∧ Reach L a a := by
  unfold roundB
  rw [List.any_eq_true]
  constructor
  · rintro ⟨a, h1, h2⟩; exact ⟨a, List.mem_range.1 h1, reachB_iff.1 h2⟩
  · rintro ⟨a, h1, h2⟩; exact ⟨a, List.mem_range.2 h1, reachB_iff.2 h2⟩

/-- Where nothing reaches itself, among any nodes there is one that has none of them ahead. -/
theorem some_first (hac : ∀ x, ¬ Reach L x x) : ∀ (k : Nat) (S : List Nat), S.length ≤ k → S ≠ [] → ∃ p ∈ S, ∀ a ∈ S, (a, p) ∉ L
  | 0, S, hk, hS => absurd (List.eq_nil_of_length_eq_zero (by omega)) hS
  | k + 1, S, hk, hS => by
    obtain ⟨x, S', rfl⟩ : ∃ x S', S = x :: S' := by
      cases S with
      | nil => exact absurd rfl hS
      | cons x S' => exact ⟨x, S', rfl⟩
    by_cases hP : (x :: S').filter (fun c => reachB L c x) = []
    · refine ⟨x, by simp, fun a ha he => ?_⟩
      have : a ∈ (x :: S').filter (fun c => reachB L c x) := List.mem_filter.2 ⟨ha, reachB_iff.2 (.one he)⟩
      rw [hP] at this; simp at this
    · have hx : reachB L x x = false := by rw [Bool.eq_false_iff]; exact fun h => hac x (reachB_iff.1 h)
      have hlen : ((x :: S').filter fun c => reachB L c x).length ≤ k := by
        rw [List.filter_cons, if_neg (by rw [hx]; simp)]
        have := List.length_filter_le (fun c => reachB L c x) S'
        simp only [List.length_cons] at hk
        omega
      obtain ⟨p, hp, hn⟩ := some_first hac k _ hlen hP
      obtain ⟨hp1, hp2⟩ := List.mem_filter.1 hp
      refine ⟨p, hp1, fun a ha he => hn a (List.mem_filter.2 ⟨ha, reachB_iff.2 ?_⟩) he⟩
      exact Reach.head he (reachB_iff.1 hp2)

/-- Each node has what is ahead of it ahead of it in the list. -/
def Ahead (L : List (Nat × Nat)) (out : List Nat) : Prop := ∀ i, i < out.length → ∀ e ∈ L, e.2 = out.getD i 0 → ∃ j, j < i ∧ e.1 = out.getD j 0
theorem Ahead.nil : Ahead L [] := fun i hi => absurd hi (Nat.not_lt_zero i)
theorem getD_append_lt {l m : List Nat} {i : Nat} (h : i < l.length) : (l ++ m).getD i 0 = l.getD i 0 := by
  rw [List.getD_eq_getElem?_getD, List.getElem?_append_left h, List.getD_eq_getElem?_getD]
theorem getD_append_len {l : List Nat} {a : Nat} : (l ++ [a]).getD l.length 0 = a := by simp
theorem Ahead.push {out : List Nat} (h : Ahead L out) (hf : freeB L out a = true) : Ahead L (out ++ [a]) := by
  intro i hi e he heq
  rw [List.length_append, List.length_singleton] at hi
  by_cases hl : i < out.length
  · rw [getD_append_lt hl] at heq
    obtain ⟨j, hj, hej⟩ := h i hl e he heq
    exact ⟨j, hj, by rw [getD_append_lt (by omega)]; exact hej⟩
  · obtain rfl : i = out.length := by omega
    rw [getD_append_len] at heq
    have := (freeB_iff.1 hf).2 e he heq
    obtain ⟨j, hj, hej⟩ := List.getElem_of_mem this
    refine ⟨j, hj, ?_⟩
    rw [getD_append_lt hj, ← hej]; simp [List.getD, hj]
theorem leastF_some : ∀ {k : Nat} {out res : List Nat}, leastF n L k out = some res → Stands n L out → Ahead L out → Stands n L res ∧ Ahead L res ∧ res.length = out.length + k
  | 0, out, res, h, hs, ha => by
    simp only [leastF, Option.some.injEq] at h
    subst h; exact ⟨hs, ha, rfl⟩
  | k + 1, out, res, h, hs, ha => by
    unfold leastF at h
    cases hn : nextF n L out with
    | none => rw [hn] at h; cases h
    | some a =>
      rw [hn] at h
      obtain ⟨h1, h2⟩ := nextF_at hn
      obtain ⟨r1, r2, r3⟩ := leastF_some h (hs.push h1 h2) (ha.push h2)
      exact ⟨r1, r2, by rw [r3]; simp; omega⟩
theorem leastF_none : ∀ {k : Nat} {out : List Nat}, leastF n L k out = none → Stands n L out → ∃ out', Stands n L out' ∧ out'.length < out.length + k ∧ nextF n L out' = none
  | 0, out, h, hs => by simp [leastF] at h
  | k + 1, out, h, hs => by
    unfold leastF at h
    cases hn : nextF n L out with
    | none => exact ⟨out, hs, by omega, hn⟩
    | some a =>
      rw [hn] at h
      obtain ⟨h1, h2⟩ := nextF_at hn
      obtain ⟨o, q1, q2, q3⟩ := leastF_none h (hs.push h1 h2)
      exact ⟨o, q1, by simp at q2; omega, q3⟩
theorem all_in {out : List Nat} (h1 : out.Nodup) (h2 : ∀ x ∈ out, x < n) (h3 : out.length = n) (ha : a < n) : a ∈ out := by
  refine Classical.byContradiction fun hn => ?_
  have := len_of_lt n (a :: out) (List.nodup_cons.2 ⟨hn, h1⟩) fun x hx => by
    rcases List.mem_cons.1 hx with rfl | hx
    · exact ha
    · exact h2 x hx
  simp at this; omega
theorem ahead_lt {out : List Nat} (h : Ahead L out) (hr : Reach L a b) : ∀ {i : Nat}, i < out.length → b = out.getD i 0 → ∃ j, j < i ∧ a = out.getD j 0 := by
  induction hr with
  | one k => exact fun hi hb => h _ hi _ k hb
  | more _ k ih =>
    intro i hi hb
    obtain ⟨j, hj, he⟩ := h _ hi _ k hb
    obtain ⟨j', hj', he'⟩ := ih (by omega) he
    exact ⟨j', by omega, he'⟩
theorem nodup_getD {out : List Nat} (h : out.Nodup) {i j : Nat} (hi : i < out.length) (hj : j < out.length) (e : out.getD i 0 = out.getD j 0) : i = j := by
  have e1 : out.getD i 0 = out[i] := by simp [List.getD, hi]
  have e2 : out.getD j 0 = out[j] := by simp [List.getD, hj]
  rw [e1, e2] at e
  exact (List.getElem_inj h).1 e
theorem len_le_of_sub : ∀ {l m : List Nat}, l.Nodup → (∀ x ∈ l, x ∈ m) → l.length ≤ m.length
  | [], m, _, _ => Nat.zero_le _
  | x :: l, m, hn, hs => by
    rw [List.nodup_cons] at hn
    have h1 := len_le_of_sub (l := l) (m := m.erase x) hn.2 fun y hy => by
      have hne : y ≠ x := by rintro rfl; exact hn.1 hy
      exact (List.mem_erase_of_ne hne).2 (hs y (by simp [hy]))
    have hx : x ∈ m := hs x (by simp)
    rw [List.length_erase_of_mem hx] at h1
    have := List.length_pos_of_mem hx
    simp; omega
/-- There is an order just if nothing reaches itself. -/
theorem least_round (hL : ∀ e ∈ L, e.1 < n ∧ e.2 < n) : (leastF n L n []).isSome = !roundB n L := by
  cases hl : leastF n L n [] with
  | some out =>
    obtain ⟨h1, h2, h3⟩ := leastF_some hl (Stands.nil n L) Ahead.nil
    have : roundB n L = false := by
      rw [Bool.eq_false_iff]
      intro ht
      obtain ⟨a, ha, hr⟩ := roundB_iff.1 ht
      have hm := all_in h1.once h1.lt (by simpa using h3) ha
      obtain ⟨i, hi, he⟩ := List.getElem_of_mem hm
      have he' : a = out.getD i 0 := by rw [← he]; simp [List.getD, hi]
      obtain ⟨j, hj, hej⟩ := ahead_lt h2 hr hi he'
      have := nodup_getD h1.once hi (by omega) (he'.symm.trans hej)
      omega
    rw [this]; rfl
  | none =>
    obtain ⟨out, h1, h2, h3⟩ := leastF_none hl (Stands.nil n L)
    have hno := nextF_no h3
    have : roundB n L = true := by
      refine Classical.byContradiction fun hn => ?_
      have hac : ∀ x, ¬ Reach L x x := fun x hx => hn (roundB_iff.2 ⟨x, (hx.lt hL).1, hx⟩)
      have hS : (List.range n).filter (fun x => decide (x ∉ out)) ≠ [] := by
        intro he
        rw [List.filter_eq_nil_iff] at he
        have hsub : ∀ x, x < n → x ∈ out := fun x hx => by simpa using he x (List.mem_range.2 hx)
        have : (List.range n).length ≤ out.length := by
          have := len_le_of_sub (List.nodup_range (n := n)) fun x hx => hsub x (List.mem_range.1 hx)
          exact this
        simp at this h2; omega
      obtain ⟨p, hp, hpn⟩ := some_first hac _ _ (Nat.le_refl _) hS
      obtain ⟨hp1, hp2⟩ := List.mem_filter.1 hp
      have hp1' := List.mem_range.1 hp1
      have hp2' : p ∉ out := of_decide_eq_true hp2
      have hf := hno p hp1'
      rw [Bool.eq_false_iff] at hf
      refine hf (freeB_iff.2 ⟨hp2', fun e he heb => ?_⟩)
      refine Classical.byContradiction fun hne => ?_
      refine hpn e.1 (List.mem_filter.2 ⟨List.mem_range.2 (hL e he).1, decide_eq_true hne⟩) ?_
      rw [← heb]; exact he
    rw [this]; rfl
end Go.Proofs.YtafdijcolponjaaDoor

namespace Go.Proofs.YtafdijcolponjaaDoor
open Go.RowKit

def IdxEnds (l : List Int) (v : Int) (w : World) (e : Ending) (w' : World) : Prop :=
  w = w' ∧ ((∃ k : Nat, k < l.length ∧ l.getD k 0 = v ∧ (∀ j, j < k → l.getD j 0 ≠ v) ∧ e = .returned (.int .i64 k)) ∨ ((∀ j, j < l.length → l.getD j 0 ≠ v) ∧ e = .returned (.int .i64 (-1))))
def IdxRel (w : World) (l : List Int) (v : Int) (i : Value) (wr : World) : Prop :=
  ∃ k : Nat, k ≤ l.length ∧ i = .int .i64 k ∧ w = wr ∧ ∀ j, j < k → l.getD j 0 ≠ v

theorem index_any (a : Option Addr) (len cap : Nat) (l : List Int) (v : Int) (w : World) (h : Src w a len cap 1 (intl l)) :
    Calls Tryd.prog 90 #[.slice a len cap, .int .i64 v] w (IdxEnds l v w) := by
  have hl : l.length = len := by have := h.1; simpa [intl] using this
  have hle := h.2.2.1
  have hx := h.2.2.2.1
  unfold maxLen at hx
  subst hl
  have HA := Lib.hid h
  clear h
  go_enter Tryd.func90, Tryd.ntmps90
  go_wp2_with fail
  go_loopw [8] (fun i wr => IdxRel w l v i wr) (fun i _ => l.length - (intOf i).toNat)
  case atStart => exact ⟨0, Nat.zero_le _, rfl, rfl, fun j hj => absurd hj (Nat.not_lt_zero j)⟩
  case round =>
    obtain ⟨k, hk, rfl, rfl, hall⟩ := hrel
    have HAll := Lib.hid hall
    clear hall
    by_cases hlt : k < l.length
    · obtain ⟨b, o, hab, hc⟩ := HA.out.plain (by omega)
      cases hab
      have hc1 := hc k hlt
      generalize hz : l.getD k 0 = z at hc1
      have HZ := Lib.hid hz
      have hk0 : (0 : Int) ≤ (k : Int) := by omega
      have hk1 : (k : Int) < (l.length : Int) := by omega
      clear hc hz
      by_cases h1 : z = v
      · have HE := Lib.hid (HZ.out.trans h1)
        have hb : (v == z) = true := by simp [h1]
        clear h1
        go_wp2_with fail
        go_ret
        exact ⟨rfl, .inl ⟨k, hlt, HE.out, HAll.out, rfl⟩⟩
      · have hb : (v == z) = false := by simp [Ne.symm h1]
        have HN := Lib.hid h1
        clear h1
        go_wp2_with fail
        go_roundw
        case rel =>
          refine ⟨k + 1, hlt, by go_num, rfl, fun j hj => ?_⟩
          by_cases hjk : j < k
          · exact HAll.out j hjk
          · obtain rfl : j = k := by omega
            rw [HZ.out]; exact HN.out
        case measure => simp [intOf]; omega
    · obtain rfl : k = l.length := by omega
      go_wp2_with fail
      go_ret
      exact ⟨rfl, .inr ⟨HAll.out, rfl⟩⟩



def FreeRel (w : World) (m a : Nat) (z : Nat → Nat → Int) (out : List Nat) (i : Value) (wr : World) : Prop :=
  ∃ k : Nat, k ≤ m ∧ i = .int .i64 k ∧ w = wr ∧ ∀ j, j < k → z j 1 = (a : Int) → (z j 0).toNat ∈ out
theorem freeB_no_in {L : List (Nat × Nat)} {out : List Nat} {a : Nat} (h : a ∈ out) : freeB L out a = false := by
  unfold freeB; exact decide_eq_false fun h' => h'.1 h
theorem freeB_no_z {n : Nat} {z : Nat → Nat → Int} {m a : Nat} {out : List Nat} (hM : mayE n z m = true) {k : Nat} (hk : k < m) (h1 : z k 1 = (a : Int)) (h0 : (z k 0).toNat ∉ out) : freeB (ofZ n z m) out a = false := by
  unfold freeB
  refine decide_eq_false fun h' => ?_
  have hr := mayE_at hM hk
  exact h0 (h'.2 ((z k 0).toNat, a) ((mem_ofZ hM _).2 ⟨k, hk, by show (((z k 0).toNat : Nat) : Int) = _; omega, h1.symm⟩) rfl)
theorem freeB_yes_z {n : Nat} {z : Nat → Nat → Int} {m a : Nat} {out : List Nat} (hM : mayE n z m = true) (h : ∀ j, j < m → z j 1 = (a : Int) → (z j 0).toNat ∈ out) (hn : a ∉ out) : freeB (ofZ n z m) out a = true := by
  refine freeB_iff.2 ⟨hn, fun e he heb => ?_⟩
  obtain ⟨i, hi, h0, h1⟩ := (mem_ofZ hM e).1 he
  have := h i hi (by rw [← h1, heb])
  rw [← h0] at this
  simpa using this

set_option maxRecDepth 20000 in
theorem free_any (n g a m c : Nat) (ad : Option Addr) (z : Nat → Nat → Int) (out : List Nat) (w : World) (hB : BoolRow w g n (fun j => decide (j ∈ out))) (ha : a < n) (hn : n ≤ 500) (hE : EdgesIn w ad m z) (hM : mayE n z m = true) :
    Calls Tryd.prog 91 #[.int .i64 a, .slice (some ⟨g, 0, none⟩) n n, .slice ad m c] w fun e w' => e = .returned (.bool (freeB (ofZ n z m) out a)) ∧ w = w' := by
  have HB := Lib.hid hB
  have HE := Lib.hid hE
  have HM := Lib.hid hM
  have hm := hE.1
  have c1 := hB.cell ha
  have ha0 : (0 : Int) ≤ (a : Int) := by omega
  have ha1 : (a : Int) < (n : Int) := by omega
  clear hB hE hM
  by_cases hin : a ∈ out
  · rw [decide_eq_true hin] at c1
    have HF := Lib.hid (freeB_no_in (L := ofZ n z m) hin)
    clear hin
    go_enter Tryd.func91, Tryd.ntmps91
    go_wp2_with fail
    go_ret
    exact ⟨ret_bool HF.out.symm, rfl⟩
  · rw [decide_eq_false hin] at c1
    have HN := Lib.hid hin
    clear hin
    go_enter Tryd.func91, Tryd.ntmps91
    go_wp2_with fail
    go_loopw [7] (fun i wr => FreeRel w m a z out i wr) (fun i _ => m - (intOf i).toNat)
    case atStart => exact ⟨0, Nat.zero_le _, rfl, rfl, fun j hj => absurd hj (Nat.not_lt_zero j)⟩
    case round =>
      obtain ⟨k, hk, rfl, rfl, hall⟩ := hrel
      have HAll := Lib.hid hall
      clear hall c1
      by_cases hlt : k < m
      · obtain ⟨g1, rfl, hg, hc⟩ := HE.out.2 (by omega)
        obtain ⟨e0, e1⟩ := hc k hlt
        have hr := mayE_at HM.out hlt
        obtain ⟨x, hx⟩ := Int.eq_ofNat_of_zero_le hr.1.1
        obtain ⟨y, hy⟩ := Int.eq_ofNat_of_zero_le hr.2.1
        have hxn : x < n := by omega
        rw [hx] at e0
        rw [hy] at e1
        have e2 := HB.out.cell hxn
        have HX := Lib.hid hx
        have HY := Lib.hid hy
        have hk0 : (0 : Int) ≤ (k : Int) := by omega
        have hk1 : (k : Int) < (m : Int) := by omega
        have hx0 : (0 : Int) ≤ (x : Int) := by omega
        have hx1 : (x : Int) < (n : Int) := by omega
        clear hc hr hx hy
        by_cases hya : y = a
        · subst hya
          have hb : ((y : Int) == (y : Int)) = true := by simp
          by_cases hin : x ∈ out
          · rw [decide_eq_true hin] at e2
            have HI := Lib.hid hin
            clear hin
            go_wp2_with fail
            go_roundw
            case rel =>
              refine ⟨k + 1, hlt, by go_num, rfl, fun j hj hj1 => ?_⟩
              by_cases hjk : j < k
              · exact HAll.out j hjk hj1
              · obtain rfl : j = k := by omega
                rw [HX.out]; exact HI.out
            case measure => simp [intOf]; omega
          · rw [decide_eq_false hin] at e2
            have HF := Lib.hid (freeB_no_z HM.out hlt HY.out (out := out) (by rw [HX.out]; exact hin))
            clear hin
            go_wp2_with fail
            go_ret
            exact ⟨ret_bool HF.out.symm, rfl⟩
        · have hb : ((y : Int) == (a : Int)) = false := by
            rw [beq_eq_false_iff_ne]; omega
          have HYA := Lib.hid hya
          clear hya
          go_wp2_with fail
          go_roundw
          case rel =>
            refine ⟨k + 1, hlt, by go_num, rfl, fun j hj hj1 => ?_⟩
            by_cases hjk : j < k
            · exact HAll.out j hjk hj1
            · obtain rfl : j = k := by omega
              rw [HY.out] at hj1
              exact absurd (Int.ofNat.inj hj1) HYA.out
          case measure => simp [intOf]; omega
      · obtain rfl : k = m := by omega
        have HF := Lib.hid (freeB_yes_z HM.out HAll.out HN.out)
        go_wp2_with fail
        go_ret
        exact ⟨ret_bool HF.out.symm, rfl⟩
end Go.Proofs.YtafdijcolponjaaDoor

namespace Go.Proofs.YtafdijcolponjaaDoor
open Go.RowKit

def lenV : Value → Nat
  | .slice _ n _ => n
  | _ => 0
theorem intl_natI_snoc (l : List Nat) (k : Nat) : intl (natI (l ++ [k])) = intl (natI l) ++ [Value.int .i64 (k : Int)] := by simp [intl, natI]
def LeastEnds (r : Option (List Nat)) (yes no : Value) (w : World) (e : Ending) (w' : World) : Prop :=
  Below w.heap.size w w' ∧ ((∃ out v, r = some out ∧ e = .returned (.tuple #[v, yes]) ∧ w'.ownsRow w.heap.size 3 1 v out.length (intl (natI out))) ∨ (r = none ∧ e = .returned (.tuple #[.slice none 0 0, no])))
def RLeastRel (w : World) (n : Nat) (L : List (Nat × Nat)) (v : Value) (wr : World) : Prop :=
  ∃ out : List Nat, Stands n L out ∧ leastF n L (n - out.length) out = leastF n L n [] ∧ wr.ownsRow (w.heap.size + 1) 3 1 v out.length (intl (natI out)) ∧ BoolRow wr w.heap.size n (fun j => decide (j ∈ out)) ∧ Below w.heap.size w wr
def RSeekRel (wa : World) (n : Nat) (L : List (Nat × Nat)) (out : List Nat) (i : Value) (wr : World) : Prop :=
  ∃ k : Nat, k ≤ n ∧ i = .int .i64 k ∧ wa = wr ∧ ∀ j, j < k → freeB L out j = false
theorem leastF_step {n : Nat} {L : List (Nat × Nat)} {out : List Nat} {a : Nat} (h : Stands n L out) (hl : out.length < n) (hn : nextF n L out = some a) : leastF n L (n - out.length) out = leastF n L (n - (out ++ [a]).length) (out ++ [a]) := by
  have e : n - out.length = (n - (out ++ [a]).length) + 1 := by simp; omega
  rw [e]
  conv => lhs; unfold leastF
  rw [hn]
theorem leastF_stop {n : Nat} {L : List (Nat × Nat)} {out : List Nat} (hl : out.length < n) (hn : nextF n L out = none) : leastF n L (n - out.length) out = none := by
  obtain ⟨d, hd⟩ : ∃ d, n - out.length = d + 1 := ⟨n - out.length - 1, by omega⟩
  rw [hd]
  unfold leastF
  rw [hn]

set_option maxRecDepth 20000 in
set_option maxHeartbeats 1000000 in
theorem rleast_any (n m c : Nat) (ad : Option Addr) (z : Nat → Nat → Int) (w : World) (hn : n ≤ 500) (hE : EdgesIn w ad m z) (hM : mayE n z m = true) :
    Calls Tryd.prog 64 #[.int .i64 n, .slice ad m c] w (LeastEnds (leastF n (ofZ n z m) n []) (.bool true) (.bool false) w) := by
  obtain ⟨i0, hi, hz0, hz1, hz2⟩ := info_parts infoInt
  obtain ⟨j0, hj, hy0, hy1, hy2⟩ := info_parts infoBool
  have HE := Lib.hid hE
  have HM := Lib.hid hM
  obtain ⟨L, hL⟩ : ∃ L, L = ofZ n z m := ⟨_, rfl⟩
  rw [← hL]
  have HL := Lib.hid hL
  clear hE hM hL
  go_enter Tryd.func64, Tryd.ntmps64
  go_wp2_with (at_make; refine wpList_make_full _ rfl _ _ 105 rfl 0 4 j0 (.bool false) 1 Tryd.underlying105 hj hy0 hy1 .i64 .i64 _ _ n rfl rfl rfl rfl (by rw [hy2]; omega) (by unfold maxLen; omega) (Nat.zero_le _) ?_)
  intro w1 hown hgrow
  have hB1 : Below w.heap.size w w1 := (Below.refl _ _).grown hgrow (Nat.le_refl _) (fun k hk => by cases hk)
  have hs : w.heap.size < w1.heap.size := owns_lt hown _ rfl
  have hR1 : BoolRow w1 w.heap.size n (fun j => decide (j ∈ ([] : List Nat))) := by
    have e : (madeCells #[Value.bool false] n).toList = boolL n fun _ => false := boolL_made n
    rw [e] at hown
    exact BoolRow.congr hown fun j _ => by simp
  have hO1 := World.ownsRow_made (base := w.heap.size + 1) (e := 3) (size := 1) w1 #[] 0 (by omega) (by decide) rfl
  have HB1 := Lib.hid hB1
  have HR1 := Lib.hid hR1
  have HO1 := Lib.hid hO1
  clear hown hgrow hB1 hR1 hO1
  go_wp2_with fail
  go_loopw [7] (fun v wr => RLeastRel w n L v wr) (fun v _ => n - lenV v)
  case atStart => exact ⟨[], Stands.nil n L, by simp, HO1.out, HR1.out.frame (heap_alloc_lt HR1.out.lt), HB1.out.alloc HB1.out.size _⟩
  case round =>
    clear HO1 HR1 HB1
    obtain ⟨out, hst, hlf, hown, hrow, hB⟩ := hrel
    have HS := Lib.hid hst
    have HLf := Lib.hid hlf
    have HO := Lib.hid hown
    have HR := Lib.hid hrow
    have HB := Lib.hid hB
    have hlen := hst.len
    obtain ⟨av, cv, rfl⟩ := owns_slice hown
    obtain ⟨wa, rfl⟩ : ∃ x, x = wr := ⟨_, rfl⟩
    have hB0 := hB.size
    clear hst hlf hown hrow hB
    by_cases hlt : out.length < n
    · have hl1 : (out.length : Int) < (n : Int) := by omega
      go_wp2_with fail
      go_loopw [8] (fun i wr => RSeekRel wa n L out i wr) (fun i _ => n - (intOf i).toNat)
      case atStart => exact ⟨0, Nat.zero_le _, rfl, rfl, fun j hj => absurd hj (Nat.not_lt_zero j)⟩
      case round =>
        obtain ⟨k, hk, rfl, rfl, hall⟩ := hrel
        have HAll := Lib.hid hall
        clear hall
        by_cases hkn : k < n
        · have hk1 : (k : Int) < (n : Int) := by omega
          have hF := free_any n w.heap.size k m c ad z out wa HR.out hkn hn (HE.out.below HB.out (Nat.le_refl _)) HM.out
          rw [← HL.out] at hF
          have HF := Lib.hid hF
          clear hF
          cases hfb : freeB L out k with
          | false =>
            rw [hfb] at HF
            have HK := Lib.hid hfb
            clear hfb
            go_wp2_with fail
            go_fit HF.out
            rintro e w' ⟨rfl, rfl⟩
            go_wp2_with fail
            go_roundw
            case rel =>
              refine ⟨k + 1, hkn, by go_num, rfl, fun j hj => ?_⟩
              by_cases hjk : j < k
              · exact HAll.out j hjk
              · obtain rfl : j = k := by omega
                exact HK.out
            case measure => simp [intOf]; omega
          | true =>
            rw [hfb] at HF
            have HN := Lib.hid (nextF_some hkn hfb HAll.out)
            have HSt := Lib.hid (HS.out.push hkn hfb)
            have c0 := HR.out.cell hkn
            have f0 := HR.out.free k
            have hkn' : ((k : Int) == (n : Int)) = false := by rw [beq_eq_false_iff_ne]; omega
            have hk0 : (0 : Int) ≤ (k : Int) := by omega
            have hpb : w.heap.size < wa.heap.size := HR.out.lt
            clear hfb
            go_wp2_with fail
            go_fit HF.out
            rintro e w' ⟨rfl, rfl⟩
            have HM1 : Hid (out.length + 1 ≤ maxLen ∧ (out.length + 1) * 8 ≤ 140737488355328) := by
              show _ ∧ _
              unfold maxLen; omega
            have esz : (wa.setCell ⟨w.heap.size, k, none⟩ (.bool true)).heap.size = wa.heap.size := by simp [World.setCell]
            have hnew := one_new (wa.setCell ⟨w.heap.size, k, none⟩ (.bool true)) (k : Int) 3
            rw [esz] at hnew
            have HNew := Lib.hid hnew
            have HO2 := Lib.hid (ownsRow_setCell_below (a := ⟨w.heap.size, k, none⟩) HO.out (Nat.lt_succ_self _) (.bool true))
            have hb2 : Hid (∀ o, w.heap.size + 1 ≤ ((wa.setCell ⟨w.heap.size, k, none⟩ (.bool true)).alloc o).heap.size) := fun o => by simp [World.setCell]; omega
            clear esz hnew
            go_wp2_with (first | (at_builtin; go_loud (refine wpList_append_own _ rfl _ _ 22 rfl (w.heap.size + 1) 3 i0 (.int .i64 0) 1 8 Tryd.underlying22 hi hz0 hz1 hz2 rfl (by decide) _ out.length (intl (natI out)) rfl (HO2.out.alloc _) ⟨wa.heap.size, 0, none⟩ 1 1 [_] rfl rfl HNew.out (one_cell _ _) HM1.out.1 HM1.out.2 (hb2.out _) ?_)) | fail)
            intro v' w2 hown1 hgrow hnn
            have HO3 := Lib.hid hown1
            have HG := Lib.hid hgrow
            clear hnn hown1 hgrow
            go_wp2_with fail
            go_roundw
            case rel =>
              refine ⟨out ++ [k], HSt.out, ?_, ?_, ?_, ?_⟩
              · rw [← HLf.out]; exact (leastF_step HS.out hlt HN.out).symm
              · rw [intl_natI_snoc, List.length_append]; exact HO3.out
              · refine BoolRow.congr (((HR.out.put k true).frame (heap_alloc_lt (by simp [World.setCell]; omega))).frame (HG.out.block _ (by simp [World.setCell]; omega) ?_)) fun j _ => ?_
                · intro e
                  have := (World.ownsRow.lt HO.out _ e.symm).1
                  omega
                · by_cases hj : j = k
                  · subst hj; simp
                  · simp [hj]
              · exact (((HB.out.setCell (Nat.le_refl _) _).alloc (by simp [World.setCell]; omega) _).grown HG.out (by simp [World.setCell]; omega) fun q hq => Nat.le_of_succ_le (World.ownsRow.lt HO.out q hq).1)
            case measure =>
              obtain ⟨ad', c', hv⟩ := owns_slice HO3.out
              rw [hv]
              show n - (out.length + 1) < n - out.length
              omega
        · obtain rfl : k = n := by omega
          have HN := Lib.hid (nextF_none HAll.out)
          go_wp2_with fail
          go_ret2
          refine ⟨HB.out, .inr ⟨?_, rfl⟩⟩
          rw [← HLf.out]
          exact leastF_stop hlt HN.out
    · have hl1 : ¬ (out.length : Int) < (n : Int) := by omega
      go_wp2_with fail
      go_ret2
      refine ⟨HB.out, .inl ⟨out, _, ?_, rfl, owns_base HO.out fun q hq => Nat.le_of_succ_le (World.ownsRow.lt HO.out q hq).1⟩⟩
      rw [← HLf.out]
      have e : n - out.length = 0 := by omega
      rw [e]; rfl
end Go.Proofs.YtafdijcolponjaaDoor

namespace Go.Proofs.YtafdijcolponjaaDoor
open Go.RowKit

def TLeastEnds (n : Int) (z : Nat → Nat → Int) (m : Nat) (w : World) (e : Ending) (w' : World) : Prop :=
  (ofB n z m = true ∧ LeastEnds (leastF n.toNat (ofZ n.toNat z m) n.toNat []) (.int .i64 0) (.int .i64 3) w e w') ∨ (ofB n z m = false ∧ e = .returned (.tuple #[.slice none 0 0, .int .i64 2]) ∧ Below w.heap.size w w')
theorem natI_at (l : List Nat) (j : Nat) : (natI l).getD j 0 = ((l.getD j 0 : Nat) : Int) := by
  simp only [natI, List.getD_eq_getElem?_getD, List.getElem?_map]
  cases l[j]? <;> rfl
def aheadK (n : Nat) (L : List (Nat × Nat)) (k : Nat) : List Int := (List.range n).map fun j => if j < k then aheadAt n L [] j else 0
theorem aheadK_zero (n : Nat) (L : List (Nat × Nat)) : aheadK n L 0 = List.replicate n 0 := by
  refine List.ext_getElem (by simp [aheadK]) fun i h1 h2 => ?_
  simp [aheadK]
theorem aheadK_step (n : Nat) (L : List (Nat × Nat)) (k : Nat) : (aheadK n L k).set k ((backR n L k).length : Nat) = aheadK n L (k + 1) := by
  refine List.ext_getElem (by simp [aheadK]) fun i h1 h2 => ?_
  simp only [aheadK, List.getElem_set, List.getElem_map, List.getElem_range]
  by_cases e : k = i
  · subst e
    rw [if_pos rfl, if_pos (Nat.lt_succ_self _), ahead_nil]
  · rw [if_neg e]
    by_cases h : i < k
    · rw [if_pos h, if_pos (by omega)]
    · rw [if_neg h, if_neg (by omega)]
theorem aheadK_all (n : Nat) (L : List (Nat × Nat)) : aheadK n L n = aheadL n L [] := by
  unfold aheadK aheadL
  exact List.map_congr_left fun j hj => by rw [if_pos (List.mem_range.1 hj)]
def TFillRel (wo : World) (n : Nat) (L : List (Nat × Nat)) (i : Value) (wr : World) : Prop :=
  ∃ k : Nat, k ≤ n ∧ i = .int .i64 k ∧ IntRow wr wo.heap.size n (aheadK n L k) ∧ Below wo.heap.size wo wr
def TLeastRel (wo : World) (n : Nat) (L : List (Nat × Nat)) (v i : Value) (wr : World) : Prop :=
  ∃ out : List Nat, i = .int .i64 out.length ∧ Stands n L out ∧ leastF n L (n - out.length) out = leastF n L n [] ∧ wr.ownsRow (wo.heap.size + 1) 3 1 v out.length (intl (natI out)) ∧ IntRow wr wo.heap.size n (aheadL n L out) ∧ Below wo.heap.size wo wr
def TMidRel (w8 : World) (g n : Nat) (A : List Int) (a : Nat) (l : List Nat) (i : Value) (wr : World) : Prop :=
  ∃ k : Nat, k ≤ l.length ∧ i = .int .i64 k ∧ IntRow wr g n (midA A a (l.take k)) ∧ Chg (· = g) w8 wr

set_option maxRecDepth 20000 in
set_option maxHeartbeats 2000000 in
theorem tleast_any (n : Int) (m c : Nat) (ad : Option Addr) (z : Nat → Nat → Int) (w : World) (hE : EdgesIn w ad m z) (hT : TabIs w) :
    Calls Tryd.prog 62 #[.int .i64 n, .slice ad m c] w (TLeastEnds n z m w) := by
  obtain ⟨i0, hi, hz0, hz1, hz2⟩ := info_parts infoInt
  have HO := Lib.hid (gr_of n ad m c z w hE)
  have HT := Lib.hid hT
  clear hE hT
  go_enter Tryd.func62, Tryd.ntmps62
  go_wp2_with fail
  go_fit HO.out
  rintro e wo (⟨hyes, b, F, rfl, hG, hF, hB⟩ | ⟨hno, rfl, hB⟩)
  · obtain ⟨hnn, hM⟩ : (0 ≤ n ∧ n ≤ 500) ∧ mayE n.toNat z m = true := by
      unfold ofB at hyes
      rw [Bool.and_eq_true] at hyes
      exact ⟨of_decide_eq_true hyes.1, hyes.2⟩
    have HY := Lib.hid hyes
    have hLr := ofZ_inr hM
    clear hyes hM
    obtain ⟨q, rfl⟩ := Int.eq_ofNat_of_zero_le hnn.1
    rw [Int.toNat_natCast] at hLr hG
    have hq : q ≤ 500 := by omega
    obtain ⟨L, hLq⟩ : ∃ L, ofZ q z m = L := ⟨_, rfl⟩
    rw [hLq] at hLr hG
    have HLq := Lib.hid hLq
    clear hLq
    have HL := Lib.hid hLr
    have HG := Lib.hid hG
    have HB := Lib.hid hB
    have hz := hB.size
    have HTo : Hid (∀ W, Below wo.heap.size wo W → TabIs W) := fun W hW => tab_below HT.out (HB.out.trans (hW.mono hz)) (Nat.le_refl _)
    clear hLr hG hF hB hnn HO
    go_wp2_with (at_make; refine wpList_make_full _ rfl _ _ 22 rfl 0 3 i0 (.int .i64 0) 1 Tryd.underlying22 hi hz0 hz1 .i64 .i64 _ _ q rfl rfl rfl rfl (by rw [hz2]; omega) (by unfold maxLen; omega) (Nat.zero_le _) ?_)
    intro w1 hown hgrow
    have hB1 : Below wo.heap.size wo w1 := (Below.refl _ _).grown hgrow (Nat.le_refl _) (fun k hk => by cases hk)
    have hR1 : IntRow w1 wo.heap.size q (aheadK q L 0) := by
      have e : (madeCells #[Value.int .i64 0] q).toList = intl (List.replicate q 0) := intl_made q
      rw [e] at hown
      rw [aheadK_zero]; exact hown
    have HB1 := Lib.hid hB1
    have HR1 := Lib.hid hR1
    clear hown hgrow hB1 hR1
    go_wp2_with fail
    go_loopw [26] (fun i wr => TFillRel wo q L i wr) (fun i _ => q - (intOf i).toNat)
    case atStart => exact ⟨0, Nat.zero_le _, rfl, HR1.out, HB1.out⟩
    case round =>
      clear HR1 HB1
      obtain ⟨k, hk, rfl, hrow, hB2⟩ := hrel
      obtain ⟨wa, rfl⟩ : ∃ x, x = wr := ⟨_, rfl⟩
      have HR := Lib.hid hrow
      have HB2 := Lib.hid hB2
      have hz2' := hB2.size
      have hgl := hrow.lt
      clear hrow hB2
      by_cases hlt : k < q
      · have hk1 : (k : Int) < (q : Int) := by omega
        have hk0 : (0 : Int) ≤ (k : Int) := by omega
        have hBk := gr_back b q F L k wa (HG.out.below HB2.out (Nat.le_refl _)) (HTo.out wa HB2.out)
        have hlen := backR_len q L k
        have HS := Lib.hid (aheadK_step q L k)
        generalize backR q L k = lb at *
        have HBk := Lib.hid hBk
        clear hBk
        go_wp2_with fail
        go_fit HBk.out
        rintro e w8 ⟨v8, rfl, hO8, hB8⟩
        obtain ⟨ad8, c8, rfl⟩ := owns_slice hO8
        have hR8 := HR.out.below hB8 hgl
        have c8' := hR8.cell hlt
        have f8 := hR8.free k
        have HR8 := Lib.hid hR8
        have HB8 := Lib.hid (HB2.out.trans (hB8.mono hz2'))
        clear hO8 hB8 hR8
        go_wp2_with fail
        go_roundw
        case rel => exact ⟨k + 1, hlt, by go_num, by rw [← HS.out]; exact HR8.out.put k _, HB8.out.setCell (Nat.le_refl _) _⟩
        case measure => simp [intOf]; omega
      · obtain rfl : k = q := by omega
        have hk1 : ¬ (k : Int) < (k : Int) := by omega
        go_wp2_with (at_make; refine wpList_make_own _ rfl _ _ 22 rfl (wo.heap.size + 1) 3 i0 (.int .i64 0) 1 Tryd.underlying22 hi hz0 hz1 .i64 .i64 _ k rfl rfl rfl (by rw [hz2]; omega) (by unfold maxLen; omega) (by omega) ?_)
        intro w2 hown hgrow
        have hR2 := HR.out.frame (w' := w2) (hgrow.block _ hgl (by simp))
        rw [aheadK_all] at hR2
        have HR2 := Lib.hid hR2
        have HO2 := Lib.hid hown
        have HB3 := Lib.hid (HB2.out.grown hgrow (by omega) (fun k hk => by cases hk))
        clear hown hgrow hR2
        go_wp2_with fail
        go_loopw [10, 40] (fun v i wr => TLeastRel wo k L v i wr) (fun _ i _ => k - (intOf i).toNat)
        case atStart => exact ⟨[], rfl, Stands.nil k L, by simp, HO2.out, HR2.out, HB3.out⟩
        case round =>
          clear HR2 HO2 HB3 HR HB2 hgl hz2'
          generalize wa.heap.size = wah at *
          clear wa
          obtain ⟨out, rfl, hst, hlf, hown, hrow, hB⟩ := hrel
          obtain ⟨wa, rfl⟩ : ∃ x, x = wr := ⟨_, rfl⟩
          have HS := Lib.hid hst
          have HLf := Lib.hid hlf
          have HOw := Lib.hid hown
          have HR := Lib.hid hrow
          have HB2 := Lib.hid hB
          have hlen := hst.len
          have hgl := hrow.lt
          have hz2' := hB.size
          obtain ⟨av, cv, rfl⟩ := owns_slice hown
          clear hst hlf hown hrow hB
          by_cases hlt : out.length < k
          · have hl1 : (out.length : Int) < (k : Int) := by omega
            have HI := Lib.hid (index_any _ _ _ _ 0 wa (HR.out.src (by omega)))
            go_wp2_with fail
            go_fit HI.out
            rintro e w' ⟨rfl, (⟨a, ha, hv, hall, rfl⟩ | ⟨hall, rfl⟩)⟩
            · rw [aheadL_len] at ha
              rw [aheadL_at ha] at hv
              have hf := (ahead_zero HL.out).1 hv
              have HN := Lib.hid (nextF_some ha hf fun j hj => by
                have := hall j hj
                rw [aheadL_at (by omega)] at this
                rw [Bool.eq_false_iff]
                exact fun hf => this ((ahead_zero HL.out).2 hf))
              have HSt := Lib.hid (HS.out.push ha hf)
              have HPu := Lib.hid (ahead_push HL.out HS.out ha hf)
              have c0 := HR.out.cell ha
              have f0 := HR.out.free a
              have ha0 : (0 : Int) ≤ (a : Int) := by omega
              have ha1 : (a : Int) < (k : Int) := by omega
              clear hv hall hf
              have esz : (wa.setCell ⟨wo.heap.size, a, none⟩ (.int .i64 (-1))).heap.size = wa.heap.size := by simp [World.setCell]
              have hnew := one_new (wa.setCell ⟨wo.heap.size, a, none⟩ (.int .i64 (-1))) (a : Int) 3
              rw [esz] at hnew
              have HNew := Lib.hid hnew
              have HO2 := Lib.hid (ownsRow_setCell_below (a := ⟨wo.heap.size, a, none⟩) HOw.out (Nat.lt_succ_self _) (.int .i64 (-1)))
              have hb2 : Hid (∀ o, wo.heap.size + 1 ≤ ((wa.setCell ⟨wo.heap.size, a, none⟩ (.int .i64 (-1))).alloc o).heap.size) := fun o => by simp [World.setCell]; omega
              have HM1 : Hid (out.length + 1 ≤ maxLen ∧ (out.length + 1) * 8 ≤ 140737488355328) := by
                show _ ∧ _
                unfold maxLen; omega
              clear esz hnew
              go_wp2_with (first | (at_builtin; go_loud (refine wpList_append_own _ rfl _ _ 22 rfl (wo.heap.size + 1) 3 i0 (.int .i64 0) 1 8 Tryd.underlying22 hi hz0 hz1 hz2 rfl (by decide) _ out.length (intl (natI out)) rfl (HO2.out.alloc _) ⟨wa.heap.size, 0, none⟩ 1 1 [_] rfl rfl HNew.out (one_cell _ _) HM1.out.1 HM1.out.2 (hb2.out _) ?_)) | fail)
              intro v' w2 hown1 hgrow hnn
              obtain ⟨ad', c', rfl⟩ := owns_slice hown1
              have hr2 := ((HR.out.put a (-1)).frame (heap_alloc_lt (o := .cells #[.int .i64 (a : Int)] 3) (by simp [World.setCell]; omega))).frame (w' := w2) (hgrow.block _ (by simp [World.setCell]; omega) (by
                intro e
                have := (World.ownsRow.lt HOw.out _ e.symm).1
                omega))
              have hb2' := ((HB2.out.setCell (p := ⟨wo.heap.size, a, none⟩) (Nat.le_refl _) (.int .i64 (-1))).alloc (by simp [World.setCell]; omega) _).grown hgrow (by simp [World.setCell]; omega) fun q hq => Nat.le_of_succ_le (World.ownsRow.lt HOw.out q hq).1
              have hnx := gr_next b k F L a w2 (HG.out.below hb2' (Nat.le_refl _)) (HTo.out w2 hb2')
              have HO3 := Lib.hid hown1
              have hg2 := hr2.lt
              have HR2 := Lib.hid hr2
              have HB3 := Lib.hid hb2'
              have HNd := Lib.hid (nextR_nodup k L (a : Int))
              have HNl := Lib.hid (fun x (hx : x ∈ nextR k L (a : Int)) => nextR_lt hx)
              have hnl := nextR_len k L (a : Int)
              generalize nextR k L (a : Int) = l at *
              have HNx := Lib.hid hnx
              have hz3 := hb2'.size
              clear hnn hown1 hgrow hr2 hb2' hnx c0 f0 HNew HO2 hb2
              go_wp2_with fail
              go_fit HNx.out
              rintro e w8 ⟨v8, rfl, hO8, hB8⟩
              obtain ⟨ad8, c8, rfl, hs8⟩ := src_list hO8
              have HS8 := Lib.hid hs8
              have HR8 := Lib.hid (HR2.out.below hB8 hg2)
              have HB8 := Lib.hid (HB3.out.trans (hB8.mono hz3))
              have HO8 := Lib.hid (owns_of_heap HO3.out (w' := w8) fun x hx => hB8.block x (owns_lt HO3.out x hx))
              have HO8b := Lib.hid hO8
              have hg8 := hO8
              clear hs8 hO8 hB8 hg8
              go_wp2_with fail
              go_loopw [57] (fun i wr => TMidRel w8 wo.heap.size k (aheadL k L out) a l i wr) (fun i _ => l.length - (intOf i).toNat)
              case atStart => exact ⟨0, Nat.zero_le _, rfl, HR8.out, Chg.refl _ _⟩
              case round =>
                clear HR8
                obtain ⟨j, hj, rfl, hrow, hC⟩ := hrel
                obtain ⟨wb, rfl⟩ : ∃ x, x = wr := ⟨_, rfl⟩
                have HRw := Lib.hid hrow
                have HC := Lib.hid hC
                clear hrow hC
                by_cases hjl : j < l.length
                · obtain ⟨ad9, c9, hv9, hs9⟩ := src_list (owns_of_heap HO8b.out (w' := wb) fun x hx => HC.out.block x (owns_lt HO8b.out x hx) (fun e => by have := (World.ownsRow.lt HO8b.out x hx).1; omega))
                  cases hv9
                  obtain ⟨b9, o9, rfl, hc9⟩ := hs9.plain (by omega)
                  have z9 := hc9 j hjl
                  rw [natI_at] at z9
                  have htk : l.take (j + 1) = l.take j ++ [l.getD j 0] := by
                    rw [List.take_succ_eq_append_getElem hjl]; simp [List.getD, hjl]
                  have htl : l.getD j 0 < k := HNl.out _ (by simp [List.getD, hjl])
                  have hx := midA_at (A := aheadL k L out) (a := a) (bs := l.take j) (by rw [aheadL_len]; exact ha) (HNd.out.sublist (List.take_sublist _ _)) (fun y hy => by rw [aheadL_len]; exact HNl.out y (List.mem_of_mem_take hy)) (l.getD j 0)
                  rw [aheadL_at htl] at hx
                  have hr1 := aheadAt_rng k L out (l.getD j 0)
                  have z0 := HRw.out.cell htl
                  have f0 := HRw.out.free (l.getD j 0)
                  have hxr : -2 ≤ (midA (aheadL k L out) a (l.take j)).getD (l.getD j 0) 0 ∧ (midA (aheadL k L out) a (l.take j)).getD (l.getD j 0) 0 ≤ 500 := by
                    rw [hx]
                    constructor <;> (split <;> split <;> omega)
                  have HMS := Lib.hid (midA_snoc (aheadL k L out) a (l.take j) (l.getD j 0))
                  rw [← htk] at HMS
                  generalize (midA (aheadL k L out) a (l.take j)).getD (l.getD j 0) 0 = x at *
                  generalize l.getD j 0 = t at *
                  have hj0 : (0 : Int) ≤ (j : Int) := by omega
                  have hj1 : (j : Int) < (l.length : Int) := by omega
                  have ht0 : (0 : Int) ≤ (t : Int) := by omega
                  have ht1 : (t : Int) < (k : Int) := by omega
                  obtain ⟨hx0, hx1⟩ := hxr
                  clear hc9 hs9 htk hx hr1
                  go_wp2_with fail
                  go_roundw
                  case rel => exact ⟨j + 1, hjl, by go_num, by rw [HMS.out]; exact HRw.out.put t _, HC.out.set1 _ _⟩
                  case measure => simp [intOf]; omega
                · obtain rfl : j = l.length := by omega
                  have hrr := HRw.out
                  rw [List.take_length, HPu.out] at hrr
                  have HRr := Lib.hid hrr
                  clear hrr
                  go_wp2_with fail
                  go_roundw
                  case rel =>
                    refine ⟨out ++ [a], by rw [List.length_append]; go_num, HSt.out, ?_, ?_, HRr.out, HB8.out.trans (HC.out.below (HB8.out.size) fun x hx e => by omega)⟩
                    · rw [← HLf.out]; exact (leastF_step HS.out hlt HN.out).symm
                    · rw [intl_natI_snoc, List.length_append]
                      exact owns_of_heap HO8.out fun x hx => HC.out.block x (owns_lt HO8.out x hx) (fun e => by have := (World.ownsRow.lt HO8.out x hx).1; omega)
                  case measure => simp [intOf]; omega
            · have HN : Hid (nextF k L out = none) := nextF_none fun j hj => by
                have := hall j (by rw [aheadL_len]; exact hj)
                rw [aheadL_at hj] at this
                rw [Bool.eq_false_iff]
                exact fun hf => this ((ahead_zero HL.out).2 hf)
              clear hall
              go_wp2_with fail
              go_ret2
              refine .inl ⟨HY.out, HB.out.trans (HB2.out.mono hz), .inr ⟨?_, rfl⟩⟩
              rw [Int.toNat_natCast, HLq.out, ← HLf.out]
              exact leastF_stop hlt HN.out
          · have hl1 : ¬ (out.length : Int) < (k : Int) := by omega
            go_wp2_with fail
            go_ret2
            refine .inl ⟨HY.out, HB.out.trans (HB2.out.mono hz), .inl ⟨out, _, ?_, rfl, owns_base HOw.out fun q hq => ?_⟩⟩
            · rw [Int.toNat_natCast, HLq.out, ← HLf.out]
              have e : k - out.length = 0 := by omega
              rw [e]; rfl
            · have := (World.ownsRow.lt HOw.out q hq).1
              omega
        
  · have HB := Lib.hid hB
    have HN := Lib.hid hno
    clear hB hno HO
    go_wp2_with fail
    go_ret2
    exact .inr ⟨HN.out, rfl, HB.out⟩
end Go.Proofs.YtafdijcolponjaaDoor

namespace Go.Proofs.YtafdijcolponjaaDoor
open Go.RowKit

def HasRel (w : World) (l : List Int) (v : Int) (i : Value) (wr : World) : Prop := ∃ k : Nat, k ≤ l.length ∧ i = .int .i64 k ∧ w = wr ∧ ∀ j, j < k → l.getD j 0 ≠ v
theorem hasint_any (a : Option Addr) (len cap : Nat) (l : List Int) (v : Int) (w : World) (h : Src w a len cap 1 (intl l)) :
    Calls Tryd.prog 96 #[.slice a len cap, .int .i64 v] w fun e w' => e = .returned (.bool (decide (v ∈ l))) ∧ w = w' := by
  have hl : l.length = len := by have := h.1; simpa [intl] using this
  have hle := h.2.2.1
  have hx := h.2.2.2.1
  unfold maxLen at hx
  subst hl
  have HA := Lib.hid h
  clear h
  obtain ⟨b, hb⟩ : ∃ b, b = decide (v ∈ l) := ⟨_, rfl⟩
  rw [← hb]
  have HBq := Lib.hid hb
  clear hb
  go_enter Tryd.func96, Tryd.ntmps96
  go_wp2_with fail
  go_loopw [5] (fun i wr => HasRel w l v i wr) (fun i _ => l.length - (intOf i).toNat)
  case atStart => exact ⟨0, Nat.zero_le _, rfl, rfl, fun j hj => absurd hj (Nat.not_lt_zero j)⟩
  case round =>
    obtain ⟨k, hk, rfl, rfl, hall⟩ := hrel
    have HAll := Lib.hid hall
    clear hall
    by_cases hlt : k < l.length
    · obtain ⟨b1, o, hab, hc⟩ := HA.out.plain (by omega)
      cases hab
      have hc1 := hc k hlt
      generalize hz : l.getD k 0 = z at hc1
      have HZ := Lib.hid hz
      have hk0 : (0 : Int) ≤ (k : Int) := by omega
      have hk1 : (k : Int) < (l.length : Int) := by omega
      clear hc hz
      by_cases h1 : z = v
      · have HF : Hid (b = true) := by
          show _ = _
          rw [HBq.out]
          refine decide_eq_true ?_
          rw [← h1, ← HZ.out]
          simp [List.getD, hlt]
        have hbb : (z == v) = true := by simp [h1]
        clear h1
        go_wp2_with fail
        go_ret
        exact ⟨ret_bool HF.out.symm, rfl⟩
      · have hbb : (z == v) = false := by simp [h1]
        have HN := Lib.hid h1
        clear h1
        go_wp2_with fail
        go_roundw
        case rel =>
          refine ⟨k + 1, hlt, by go_num, rfl, fun j hj => ?_⟩
          by_cases hjk : j < k
          · exact HAll.out j hjk
          · obtain rfl : j = k := by omega
            rw [HZ.out]; exact HN.out
        case measure => simp [intOf]; omega
    · obtain rfl : k = l.length := by omega
      have HF : Hid (b = false) := by
        show _ = _
        rw [HBq.out]
        refine decide_eq_false fun hm => ?_
        obtain ⟨j, hj, he⟩ := List.getElem_of_mem hm
        exact HAll.out j hj (by rw [← he]; simp [List.getD, hj])
      go_wp2_with fail
      go_ret
      exact ⟨ret_bool HF.out.symm, rfl⟩

/-- How many truths of a row are none. -/
def cf (n : Nat) (S : Nat → Bool) : Nat := ((List.range n).filter fun i => !S i).length
theorem cf_set {n y : Nat} {S : Nat → Bool} (hy : y < n) (h : S y = false) : cf n S = cf n (fun i => if i = y then true else S i) + 1 := by
  unfold cf
  rw [filter_one (p := fun i => !S i) (a := y) List.nodup_range (List.mem_range.2 hy) (by rw [h]; rfl)]
  congr 2
  refine List.filter_congr fun i _ => ?_
  by_cases e : i = y
  · subst e; simp
  · simp [e]
theorem cf_congr {n : Nat} {S T : Nat → Bool} (h : ∀ b, b < n → S b = T b) : cf n S = cf n T := by
  unfold cf
  congr 1
  exact List.filter_congr fun i hi => by rw [h i (List.mem_range.1 hi)]
structure FMid (n m a : Nat) (z : Nat → Nat → Int) (first : Bool) (S S' : Nat → Bool) (more : Bool) (j : Nat) : Prop where
  sup : ∀ b, b < n → S b = true → S' b = true
  snd : ∀ b, b < n → S' b = true → Reach (ofZ n z m) a b
  same : more = false → (∀ b, b < n → S' b = S b) ∧ ∀ i, i < j → S (z i 0).toNat = true → S (z i 1).toNat = true
  less : more = true → cf n S' < cf n S
  fst : first = true → ∀ i, i < j → z i 0 = (a : Int) → S' (z i 1).toNat = true
structure FOut (n m a : Nat) (z : Nat → Nat → Int) (first more : Bool) (S : Nat → Bool) : Prop where
  snd : ∀ b, b < n → S b = true → Reach (ofZ n z m) a b
  ini : first = true → more = true
  all : first = false → ∀ i, i < m → z i 0 = (a : Int) → S (z i 1).toNat = true
  shut : more = false → ∀ i, i < m → S (z i 0).toNat = true → S (z i 1).toNat = true
variable {n m a j x y : Nat} {z : Nat → Nat → Int} {first more : Bool} {S S' : Nat → Bool}
theorem FOut.start (h : FOut n m a z first more S) : FMid n m a z first S S false 0 :=
  ⟨fun _ _ h => h, h.snd, fun _ => ⟨fun _ _ => rfl, fun i hi => absurd hi (Nat.not_lt_zero i)⟩, fun h => (by cases h), fun _ i hi => absurd hi (Nat.not_lt_zero i)⟩
theorem FMid.skip (h : FMid n m a z first S S' more j) (h0 : z j 0 = (x : Int)) (h1 : z j 1 = (y : Int)) (hx : x < n) (hy : y < n)
    (hc : (x = a ∧ first = true) ∨ S' x = true → S' y = true) : FMid n m a z first S S' more (j + 1) := by
  refine ⟨h.sup, h.snd, fun hm => ⟨(h.same hm).1, fun i hi hs => ?_⟩, h.less, fun hf i hi ha => ?_⟩
  · by_cases hij : i < j
    · exact (h.same hm).2 i hij hs
    · obtain rfl : i = j := by omega
      rw [h0, Int.toNat_natCast] at hs
      rw [h1, Int.toNat_natCast, ← (h.same hm).1 y hy]
      exact hc (.inr (by rw [(h.same hm).1 x hx]; exact hs))
  · by_cases hij : i < j
    · exact h.fst hf i hij ha
    · obtain rfl : i = j := by omega
      rw [h1, Int.toNat_natCast]
      exact hc (.inl ⟨by omega, hf⟩)
theorem FMid.put (h : FMid n m a z first S S' more j) (hM : mayE n z m = true) (hj : j < m) (h0 : z j 0 = (x : Int)) (h1 : z j 1 = (y : Int)) (hx : x < n) (hy : y < n)
    (hc : (x = a ∧ first = true) ∨ S' x = true) (hn : S' y = false) : FMid n m a z first S (fun i => if i = y then true else S' i) true (j + 1) := by
  have he : (x, y) ∈ ofZ n z m := (mem_ofZ hM _).2 ⟨j, hj, h0.symm, h1.symm⟩
  have hle : cf n S' ≤ cf n S := by
    cases hm : more with
    | true => exact Nat.le_of_lt (h.less hm)
    | false => exact Nat.le_of_eq (cf_congr fun b hb => (h.same hm).1 b hb)
  refine ⟨fun b hb hs => ?_, fun b hb hs => ?_, (fun e => by cases e), fun _ => ?_, fun hf i hi ha => ?_⟩
  · show (if b = y then true else S' b) = true
    split
    · rfl
    · exact h.sup b hb hs
  · by_cases e : b = y
    · subst e
      rcases hc with ⟨rfl, -⟩ | hc
      · exact .one he
      · exact .more (h.snd x hx hc) he
    · have hs' : (if b = y then true else S' b) = true := hs
      rw [if_neg e] at hs'
      exact h.snd b hb hs'
  · have := cf_set (S := S') hy hn
    omega
  · show (if (z i 1).toNat = y then true else S' (z i 1).toNat) = true
    by_cases hij : i < j
    · split
      · rfl
      · exact h.fst hf i hij ha
    · obtain rfl : i = j := by omega
      rw [h1, Int.toNat_natCast, if_pos rfl]
theorem FMid.done {more0 : Bool} (h : FMid n m a z first S S' more m) (h0 : FOut n m a z first more0 S) (hM : mayE n z m = true) : FOut n m a z false more S' := by
  refine ⟨h.snd, (fun e => by cases e), fun _ i hi ha => ?_, fun hm i hi hs => ?_⟩
  · cases hf : first with
    | true => exact h.fst hf i hi ha
    | false =>
      have := mayE_at hM hi
      exact h.sup _ (by omega) (h0.all hf i hi ha)
  · have hr := mayE_at hM hi
    obtain ⟨e1, e2⟩ := h.same hm
    rw [e1 _ (by omega)] at hs ⊢
    exact e2 i hi hs
theorem FOut.ends (h : FOut n m a z false false S) (hM : mayE n z m = true) {b : Nat} (hb : b < n) : S b = reachB (ofZ n z m) a b := by
  rw [Bool.eq_iff_iff, reachB_iff]
  refine ⟨h.snd b hb, fun hr => ?_⟩
  refine Reach.shut (S := fun b => S b = true) (fun c hc => ?_) (fun c d hc hd => ?_) hr
  · obtain ⟨i, hi, h0, h1⟩ := (mem_ofZ hM _).1 hc
    have := h.all rfl i hi h0.symm
    rw [← h1] at this
    simpa using this
  · obtain ⟨i, hi, h0, h1⟩ := (mem_ofZ hM _).1 hd
    have := h.shut rfl i hi (by rw [← h0]; simpa using hc)
    rw [← h1] at this
    simpa using this
def FOutRel (w : World) (n m a : Nat) (z : Nat → Nat → Int) (gg : Nat) (mv fv : Value) (wr : World) : Prop :=
  ∃ (more first : Bool) (S : Nat → Bool), mv = .bool more ∧ fv = .bool first ∧ FOut n m a z first more S ∧ BoolRow wr w.heap.size n S ∧ Below w.heap.size w wr ∧ 2 * cf n S + (if more = true then 1 else 0) ≤ gg
def FMidRel (w : World) (n m a : Nat) (z : Nat → Nat → Int) (first : Bool) (S : Nat → Bool) (mv i : Value) (wr : World) : Prop :=
  ∃ (j : Nat) (more : Bool) (S' : Nat → Bool), j ≤ m ∧ i = .int .i64 j ∧ mv = .bool more ∧ FMid n m a z first S S' more j ∧ BoolRow wr w.heap.size n S' ∧ Below w.heap.size w wr
end Go.Proofs.YtafdijcolponjaaDoor

namespace Go.Proofs.YtafdijcolponjaaDoor
open Go.RowKit

def FListRel (w : World) (n : Nat) (p : Nat → Bool) (v i : Value) (wr : World) : Prop :=
  ∃ k : Nat, k ≤ n ∧ i = .int .i64 k ∧ wr.ownsRow (w.heap.size + 1) 3 1 v ((List.range k).filter p).length (intl (natI ((List.range k).filter p))) ∧ BoolRow wr w.heap.size n p ∧ Below w.heap.size w wr
theorem cf_none (n : Nat) : cf n (fun _ => false) = n := by
  unfold cf
  rw [List.filter_eq_self.2 (fun i _ => by simp)]; simp

set_option maxRecDepth 20000 in
set_option maxHeartbeats 4000000 in
theorem rfrom_any (n m c a : Nat) (ad : Option Addr) (z : Nat → Nat → Int) (w : World) (hn : n ≤ 500) (hE : EdgesIn w ad m z) (hM : mayE n z m = true) (ha : a < n) :
    Calls Tryd.prog 78 #[.int .i64 n, .slice ad m c, .int .i64 a] w (ListEnds (fromL n (ofZ n z m) a) w) := by
  obtain ⟨i0, hi, hz0, hz1, hz2⟩ := info_parts infoInt
  obtain ⟨j0, hj0, hy0, hy1, hy2⟩ := info_parts infoBool
  have HE := Lib.hid hE
  have HM := Lib.hid hM
  have hm := hE.1
  clear hE hM
  go_enter Tryd.func78, Tryd.ntmps78
  go_wp2_with (at_make; refine wpList_make_full _ rfl _ _ 105 rfl 0 4 j0 (.bool false) 1 Tryd.underlying105 hj0 hy0 hy1 .i64 .i64 _ _ n rfl rfl rfl rfl (by rw [hy2]; omega) (by unfold maxLen; omega) (Nat.zero_le _) ?_)
  intro w1 hown hgrow
  have hB1 : Below w.heap.size w w1 := (Below.refl _ _).grown hgrow (Nat.le_refl _) (fun k hk => by cases hk)
  have hR1 : BoolRow w1 w.heap.size n (fun _ => false) := by
    have e : (madeCells #[Value.bool false] n).toList = boolL n fun _ => false := boolL_made n
    rw [e] at hown
    exact hown
  have HB1 := Lib.hid hB1
  have HR1 := Lib.hid hR1
  clear hown hgrow hB1 hR1
  go_wp2_with fail
  go_loopg [8, 9] (2 * n + 1) (fun gg mv fv wr => FOutRel w n m a z gg mv fv wr)
  case atStart => exact ⟨true, true, fun _ => false, rfl, rfl, ⟨fun _ _ h => (by cases h), fun _ => rfl, fun h => (by cases h), fun h => (by cases h)⟩, HR1.out, HB1.out, by rw [cf_none]; simp⟩
  case round =>
    clear HR1 HB1
    obtain ⟨more, first, S, rfl, rfl, hO, hrow, hB, hgg⟩ := hrel
    obtain ⟨wa, rfl⟩ : ∃ x, x = wr := ⟨_, rfl⟩
    have HO := Lib.hid hO
    have HR := Lib.hid hrow
    have HB := Lib.hid hB
    have HGg := Lib.hid hgg
    have hgl := hrow.lt
    have hz := hB.size
    clear hO hrow hB hgg
    cases more with
    | false =>
      have hff : first = false := by
        cases first with
        | true => exact absurd (HO.out.ini rfl) (by simp)
        | false => rfl
      subst hff
      have HEnd := Lib.hid (fun b hb => HO.out.ends HM.out (b := b) hb)
      have HOwn := Lib.hid (World.ownsRow_made (base := w.heap.size + 1) (e := 3) (size := 1) wa #[] 0 (by omega) (by decide) rfl)
      go_wp2_with fail
      go_loopw [11, 12] (fun v i wr => FListRel w n S v i wr) (fun _ i _ => n - (intOf i).toNat)
      case atStart => exact ⟨0, Nat.zero_le _, rfl, HOwn.out, HR.out.frame (heap_alloc_lt hgl), HB.out.alloc hz _⟩
      case round =>
        clear HOwn HR HB
        obtain ⟨k, hk, rfl, hown, hrow, hB⟩ := hrel
        have HS := Lib.hid (filter_succ S k)
        have HL := filter_len S k
        have hk0 : (0 : Int) ≤ (k : Int) := by omega
        have HO2 := Lib.hid hown
        have HR2 := Lib.hid hrow
        have HB2 := Lib.hid hB
        have hb := hB.size
        have hg2 := hrow.lt
        by_cases hlt : k < n
        · have hk1 : (k : Int) < (n : Int) := by omega
          have c0 := hrow.cell hlt
          generalize (List.range k).filter S = l at *
          have HM1 : Hid (l.length + 1 ≤ maxLen ∧ (l.length + 1) * 8 ≤ 140737488355328) := by
            show _ ∧ _
            unfold maxLen; omega
          clear hown hrow hB
          cases hq : S k with
          | true =>
            rw [hq] at c0
            rw [hq, if_pos rfl] at HS
            clear hq
            have hb2 : Hid (∀ o, w.heap.size + 1 ≤ (wr.alloc o).heap.size) := fun o => by simp; omega
            go_wp2_with (first | (at_builtin; go_loud (refine wpList_append_own _ rfl _ _ 22 rfl (w.heap.size + 1) 3 i0 (.int .i64 0) 1 8 Tryd.underlying22 hi hz0 hz1 hz2 rfl (by decide) _ l.length (intl (natI l)) rfl (HO2.out.alloc _) ⟨wr.heap.size, 0, none⟩ 1 1 [_] rfl rfl (one_new wr _ _) (one_cell _ _) HM1.out.1 HM1.out.2 (hb2.out _) ?_)) | fail)
            intro v' w2 hown1 hgrow hnn
            have HO3 := Lib.hid hown1
            have HG := Lib.hid hgrow
            clear hnn hown1 hgrow
            go_wp2_with fail
            go_roundw
            case rel =>
              refine ⟨k + 1, hlt, by go_num, ?_, (HR2.out.frame (heap_alloc_lt hg2)).frame (HG.out.block _ (by simp; omega) ?_), (HB2.out.alloc hb _).grown HG.out (by simp; omega) (fun q hq => Nat.le_of_succ_le (World.ownsRow.lt HO2.out q hq).1)⟩
              · rw [HS.out, intl_natI_snoc, List.length_append]
                exact HO3.out
              · intro e
                have := (World.ownsRow.lt HO2.out _ e.symm).1
                omega
            case measure => simp [intOf]; omega
          | false =>
            rw [hq] at c0
            rw [hq, if_neg (by simp), List.append_nil] at HS
            clear hq
            go_wp2_with fail
            go_roundw
            case rel => exact ⟨k + 1, hlt, by go_num, by rw [HS.out]; exact HO2.out, HR2.out, HB2.out⟩
            case measure => simp [intOf]; omega
        · obtain rfl : k = n := by omega
          have HF : Hid ((List.range k).filter S = fromL k (ofZ k z m) a) := List.filter_congr fun x hx => HEnd.out x (List.mem_range.1 hx)
          clear hown hrow hB
          go_wp2_with fail
          go_ret
          refine ⟨_, rfl, ?_, HB2.out⟩
          rw [← HF.out]
          exact owns_base HO2.out fun q hq => Nat.le_of_succ_le (World.ownsRow.lt HO2.out q hq).1
    | true =>
      cases first with
      | true =>
        go_wp2_with fail
        go_loopw [8, 10] (fun mv i wr => FMidRel w n m a z true S mv i wr) (fun _ i _ => m - (intOf i).toNat)
        case atStart => exact ⟨0, false, S, Nat.zero_le _, rfl, rfl, HO.out.start, HR.out, HB.out⟩
        case round =>
          clear HR HB
          obtain ⟨j, more, S', hj, rfl, rfl, hMid, hrow, hB⟩ := hrel
          obtain ⟨wb, rfl⟩ : ∃ x, x = wr := ⟨_, rfl⟩
          have HMid := Lib.hid hMid
          have HRw := Lib.hid hrow
          have HBw := Lib.hid hB
          have hzb := hB.size
          clear hMid hB
          by_cases hjm : j < m
          · obtain ⟨g1, rfl, hg, hc⟩ := HE.out.2 (by omega)
            obtain ⟨e0, e1⟩ := hc j hjm
            have hr := mayE_at HM.out hjm
            obtain ⟨x, hx⟩ := Int.eq_ofNat_of_zero_le hr.1.1
            obtain ⟨y, hy⟩ := Int.eq_ofNat_of_zero_le hr.2.1
            rw [hx] at e0
            rw [hy] at e1
            have hxn : x < n := by omega
            have hyn : y < n := by omega
            have e0 := (HBw.out.cell (p := ⟨g1, j * 2, none⟩) hg).trans e0
            have e1 := (HBw.out.cell (p := ⟨g1, j * 2 + 1, none⟩) hg).trans e1
            have e2 := hrow.cell hxn
            have e3 := hrow.cell hyn
            have f3 := hrow.free y
            have hj0' : (0 : Int) ≤ (j : Int) := by omega
            have hj1' : (j : Int) < (m : Int) := by omega
            have hx0 : (0 : Int) ≤ (x : Int) := by omega
            have hx1 : (x : Int) < (n : Int) := by omega
            have hy0' : (0 : Int) ≤ (y : Int) := by omega
            have hy1' : (y : Int) < (n : Int) := by omega
            clear hc hr hrow
            by_cases hxa : x = a
            · have hb : ((x : Int) == (a : Int)) = true := by simp [hxa]
              cases hsx : S' x with
              | true =>
                cases hsy : S' y with
                | true =>
                  have HN := Lib.hid (HMid.out.skip hx hy hxn hyn (fun _ => hsy))
                  rw [hsx] at e2
                  rw [hsy] at e3
                  clear hsx hsy hxa hx hy
                  go_wp2_with fail
                  go_roundw
                  case rel => exact ⟨j + 1, more, S', hjm, by go_num, rfl, HN.out, HRw.out, HBw.out⟩
                  case measure => simp [intOf]; omega
                | false =>
                  have HN := Lib.hid (HMid.out.put HM.out hjm hx hy hxn hyn (.inl ⟨hxa, rfl⟩) hsy)
                  rw [hsx] at e2
                  rw [hsy] at e3
                  clear hsx hsy hxa hx hy
                  go_wp2_with fail
                  go_roundw
                  case rel => exact ⟨j + 1, true, _, hjm, by go_num, rfl, HN.out, HRw.out.put y true, HBw.out.setCell (Nat.le_refl _) _⟩
                  case measure => simp [intOf]; omega
              | false =>
                cases hsy : S' y with
                | true =>
                  have HN := Lib.hid (HMid.out.skip hx hy hxn hyn (fun _ => hsy))
                  rw [hsx] at e2
                  rw [hsy] at e3
                  clear hsx hsy hxa hx hy
                  go_wp2_with fail
                  go_roundw
                  case rel => exact ⟨j + 1, more, S', hjm, by go_num, rfl, HN.out, HRw.out, HBw.out⟩
                  case measure => simp [intOf]; omega
                | false =>
                  have HN := Lib.hid (HMid.out.put HM.out hjm hx hy hxn hyn (.inl ⟨hxa, rfl⟩) hsy)
                  rw [hsx] at e2
                  rw [hsy] at e3
                  clear hsx hsy hxa hx hy
                  go_wp2_with fail
                  go_roundw
                  case rel => exact ⟨j + 1, true, _, hjm, by go_num, rfl, HN.out, HRw.out.put y true, HBw.out.setCell (Nat.le_refl _) _⟩
                  case measure => simp [intOf]; omega
            · have hb : ((x : Int) == (a : Int)) = false := by rw [beq_eq_false_iff_ne]; omega
              cases hsx : S' x with
              | true =>
                cases hsy : S' y with
                | true =>
                  have HN := Lib.hid (HMid.out.skip hx hy hxn hyn (fun _ => hsy))
                  rw [hsx] at e2
                  rw [hsy] at e3
                  clear hsx hsy hxa hx hy
                  go_wp2_with fail
                  go_roundw
                  case rel => exact ⟨j + 1, more, S', hjm, by go_num, rfl, HN.out, HRw.out, HBw.out⟩
                  case measure => simp [intOf]; omega
                | false =>
                  have HN := Lib.hid (HMid.out.put HM.out hjm hx hy hxn hyn (.inr hsx) hsy)
                  rw [hsx] at e2
                  rw [hsy] at e3
                  clear hsx hsy hxa hx hy
                  go_wp2_with fail
                  go_roundw
                  case rel => exact ⟨j + 1, true, _, hjm, by go_num, rfl, HN.out, HRw.out.put y true, HBw.out.setCell (Nat.le_refl _) _⟩
                  case measure => simp [intOf]; omega
              | false =>
                cases hsy : S' y with
                | true =>
                  have HN := Lib.hid (HMid.out.skip hx hy hxn hyn (fun _ => hsy))
                  rw [hsx] at e2
                  rw [hsy] at e3
                  clear hsx hsy hxa hx hy
                  go_wp2_with fail
                  go_roundw
                  case rel => exact ⟨j + 1, more, S', hjm, by go_num, rfl, HN.out, HRw.out, HBw.out⟩
                  case measure => simp [intOf]; omega
                | false =>
                  have HN := Lib.hid (HMid.out.skip hx hy hxn hyn (fun h => by
                    rcases h with ⟨e1, e2⟩ | h
                    · exact absurd e1 hxa
                    · rw [hsx] at h; cases h))
                  rw [hsx] at e2
                  rw [hsy] at e3
                  clear hsx hsy hxa hx hy
                  go_wp2_with fail
                  go_roundw
                  case rel => exact ⟨j + 1, more, S', hjm, by go_num, rfl, HN.out, HRw.out, HBw.out⟩
                  case measure => simp [intOf]; omega
          · obtain rfl : j = m := by omega
            have HD := Lib.hid (HMid.out.done HO.out HM.out)
            clear hrow
            go_wp2_with fail
            go_roundg (2 * cf n S' + (if more = true then 1 else 0))
            case measure =>
              have h1 := HGg.out
              rw [if_pos trivial] at h1
              cases hmm : more with
              | true =>
                have := HMid.out.less hmm
                rw [if_pos rfl]; omega
              | false =>
                have := cf_congr (HMid.out.same hmm).1
                rw [if_neg (by simp)]; omega
            case rel => exact ⟨more, false, S', rfl, rfl, HD.out, HRw.out, HBw.out, Nat.le_refl _⟩
      | false =>
        go_wp2_with fail
        go_loopw [8, 10] (fun mv i wr => FMidRel w n m a z false S mv i wr) (fun _ i _ => m - (intOf i).toNat)
        case atStart => exact ⟨0, false, S, Nat.zero_le _, rfl, rfl, HO.out.start, HR.out, HB.out⟩
        case round =>
          clear HR HB
          obtain ⟨j, more, S', hj, rfl, rfl, hMid, hrow, hB⟩ := hrel
          obtain ⟨wb, rfl⟩ : ∃ x, x = wr := ⟨_, rfl⟩
          have HMid := Lib.hid hMid
          have HRw := Lib.hid hrow
          have HBw := Lib.hid hB
          have hzb := hB.size
          clear hMid hB
          by_cases hjm : j < m
          · obtain ⟨g1, rfl, hg, hc⟩ := HE.out.2 (by omega)
            obtain ⟨e0, e1⟩ := hc j hjm
            have hr := mayE_at HM.out hjm
            obtain ⟨x, hx⟩ := Int.eq_ofNat_of_zero_le hr.1.1
            obtain ⟨y, hy⟩ := Int.eq_ofNat_of_zero_le hr.2.1
            rw [hx] at e0
            rw [hy] at e1
            have hxn : x < n := by omega
            have hyn : y < n := by omega
            have e0 := (HBw.out.cell (p := ⟨g1, j * 2, none⟩) hg).trans e0
            have e1 := (HBw.out.cell (p := ⟨g1, j * 2 + 1, none⟩) hg).trans e1
            have e2 := hrow.cell hxn
            have e3 := hrow.cell hyn
            have f3 := hrow.free y
            have hj0' : (0 : Int) ≤ (j : Int) := by omega
            have hj1' : (j : Int) < (m : Int) := by omega
            have hx0 : (0 : Int) ≤ (x : Int) := by omega
            have hx1 : (x : Int) < (n : Int) := by omega
            have hy0' : (0 : Int) ≤ (y : Int) := by omega
            have hy1' : (y : Int) < (n : Int) := by omega
            clear hc hr hrow
            by_cases hxa : x = a
            · have hb : ((x : Int) == (a : Int)) = true := by simp [hxa]
              cases hsx : S' x with
              | true =>
                cases hsy : S' y with
                | true =>
                  have HN := Lib.hid (HMid.out.skip hx hy hxn hyn (fun _ => hsy))
                  rw [hsx] at e2
                  rw [hsy] at e3
                  clear hsx hsy hxa hx hy
                  go_wp2_with fail
                  go_roundw
                  case rel => exact ⟨j + 1, more, S', hjm, by go_num, rfl, HN.out, HRw.out, HBw.out⟩
                  case measure => simp [intOf]; omega
                | false =>
                  have HN := Lib.hid (HMid.out.put HM.out hjm hx hy hxn hyn (.inr hsx) hsy)
                  rw [hsx] at e2
                  rw [hsy] at e3
                  clear hsx hsy hxa hx hy
                  go_wp2_with fail
                  go_roundw
                  case rel => exact ⟨j + 1, true, _, hjm, by go_num, rfl, HN.out, HRw.out.put y true, HBw.out.setCell (Nat.le_refl _) _⟩
                  case measure => simp [intOf]; omega
              | false =>
                cases hsy : S' y with
                | true =>
                  have HN := Lib.hid (HMid.out.skip hx hy hxn hyn (fun _ => hsy))
                  rw [hsx] at e2
                  rw [hsy] at e3
                  clear hsx hsy hxa hx hy
                  go_wp2_with fail
                  go_roundw
                  case rel => exact ⟨j + 1, more, S', hjm, by go_num, rfl, HN.out, HRw.out, HBw.out⟩
                  case measure => simp [intOf]; omega
                | false =>
                  have HN := Lib.hid (HMid.out.skip hx hy hxn hyn (fun h => by
                    rcases h with ⟨e1, e2⟩ | h
                    · exact absurd e2 (by simp)
                    · rw [hsx] at h; cases h))
                  rw [hsx] at e2
                  rw [hsy] at e3
                  clear hsx hsy hxa hx hy
                  go_wp2_with fail
                  go_roundw
                  case rel => exact ⟨j + 1, more, S', hjm, by go_num, rfl, HN.out, HRw.out, HBw.out⟩
                  case measure => simp [intOf]; omega
            · have hb : ((x : Int) == (a : Int)) = false := by rw [beq_eq_false_iff_ne]; omega
              cases hsx : S' x with
              | true =>
                cases hsy : S' y with
                | true =>
                  have HN := Lib.hid (HMid.out.skip hx hy hxn hyn (fun _ => hsy))
                  rw [hsx] at e2
                  rw [hsy] at e3
                  clear hsx hsy hxa hx hy
                  go_wp2_with fail
                  go_roundw
                  case rel => exact ⟨j + 1, more, S', hjm, by go_num, rfl, HN.out, HRw.out, HBw.out⟩
                  case measure => simp [intOf]; omega
                | false =>
                  have HN := Lib.hid (HMid.out.put HM.out hjm hx hy hxn hyn (.inr hsx) hsy)
                  rw [hsx] at e2
                  rw [hsy] at e3
                  clear hsx hsy hxa hx hy
                  go_wp2_with fail
                  go_roundw
                  case rel => exact ⟨j + 1, true, _, hjm, by go_num, rfl, HN.out, HRw.out.put y true, HBw.out.setCell (Nat.le_refl _) _⟩
                  case measure => simp [intOf]; omega
              | false =>
                cases hsy : S' y with
                | true =>
                  have HN := Lib.hid (HMid.out.skip hx hy hxn hyn (fun _ => hsy))
                  rw [hsx] at e2
                  rw [hsy] at e3
                  clear hsx hsy hxa hx hy
                  go_wp2_with fail
                  go_roundw
                  case rel => exact ⟨j + 1, more, S', hjm, by go_num, rfl, HN.out, HRw.out, HBw.out⟩
                  case measure => simp [intOf]; omega
                | false =>
                  have HN := Lib.hid (HMid.out.skip hx hy hxn hyn (fun h => by
                    rcases h with ⟨e1, e2⟩ | h
                    · exact absurd e1 hxa
                    · rw [hsx] at h; cases h))
                  rw [hsx] at e2
                  rw [hsy] at e3
                  clear hsx hsy hxa hx hy
                  go_wp2_with fail
                  go_roundw
                  case rel => exact ⟨j + 1, more, S', hjm, by go_num, rfl, HN.out, HRw.out, HBw.out⟩
                  case measure => simp [intOf]; omega
          · obtain rfl : j = m := by omega
            have HD := Lib.hid (HMid.out.done HO.out HM.out)
            clear hrow
            go_wp2_with fail
            go_roundg (2 * cf n S' + (if more = true then 1 else 0))
            case measure =>
              have h1 := HGg.out
              rw [if_pos trivial] at h1
              cases hmm : more with
              | true =>
                have := HMid.out.less hmm
                rw [if_pos rfl]; omega
              | false =>
                have := cf_congr (HMid.out.same hmm).1
                rw [if_neg (by simp)]; omega
            case rel => exact ⟨more, false, S', rfl, rfl, HD.out, HRw.out, HBw.out, Nat.le_refl _⟩

def RoundRel (w : World) (n : Nat) (L : List (Nat × Nat)) (i : Value) (wr : World) : Prop :=
  ∃ k : Nat, k ≤ n ∧ i = .int .i64 k ∧ Below w.heap.size w wr ∧ ∀ j, j < k → reachB L j j = false
theorem rround_any (n m c : Nat) (ad : Option Addr) (z : Nat → Nat → Int) (w : World) (hn : n ≤ 500) (hE : EdgesIn w ad m z) (hM : mayE n z m = true) :
    Calls Tryd.prog 70 #[.int .i64 n, .slice ad m c] w fun e w' => e = .returned (.bool (roundB n (ofZ n z m))) ∧ Below w.heap.size w w' := by
  have HE := Lib.hid hE
  have HM := Lib.hid hM
  obtain ⟨b, hb⟩ : ∃ b, b = roundB n (ofZ n z m) := ⟨_, rfl⟩
  rw [← hb]
  have HBq := Lib.hid hb
  clear hE hM hb
  go_enter Tryd.func70, Tryd.ntmps70
  go_wp2_with fail
  go_loopw [5] (fun i wr => RoundRel w n (ofZ n z m) i wr) (fun i _ => n - (intOf i).toNat)
  case atStart => exact ⟨0, Nat.zero_le _, rfl, Below.refl _ _, fun j hj => absurd hj (Nat.not_lt_zero j)⟩
  case round =>
    obtain ⟨k, hk, rfl, hB, hall⟩ := hrel
    obtain ⟨wa, rfl⟩ : ∃ x, x = wr := ⟨_, rfl⟩
    have HAll := Lib.hid hall
    have HB := Lib.hid hB
    clear hall hB
    by_cases hlt : k < n
    · have hk1 : (k : Int) < (n : Int) := by omega
      have hF := rfrom_any n m c k ad z wa hn (HE.out.below HB.out (Nat.le_refl _)) HM.out hlt
      have hmem : (k : Int) ∈ natI (fromL n (ofZ n z m) k) ↔ reachB (ofZ n z m) k k = true := by
        rw [reachB_iff]
        constructor
        · intro h
          obtain ⟨x, hx, he⟩ := List.mem_map.1 h
          obtain rfl : x = k := Int.ofNat.inj he
          exact (mem_fromL.1 hx).2
        · intro h
          exact List.mem_map.2 ⟨k, mem_fromL.2 ⟨hlt, h⟩, rfl⟩
      generalize fromL n (ofZ n z m) k = l at *
      have HF := Lib.hid hF
      have HMem := Lib.hid hmem
      clear hF hmem
      go_wp2_with fail
      go_fit HF.out
      rintro e w8 ⟨v8, rfl, hO8, hB8⟩
      obtain ⟨ad8, c8, rfl, hs8⟩ := src_list hO8
      have hH := hasint_any ad8 _ c8 _ (k : Int) w8 hs8
      have HB8 := Lib.hid (HB.out.trans (hB8.mono HB.out.size))
      clear hO8 hB8 hs8
      cases hr : reachB (ofZ n z m) k k with
      | true =>
        rw [decide_eq_true (HMem.out.2 hr)] at hH
        have HH := Lib.hid hH
        have HR : Hid (b = true) := by
          show _ = _
          rw [HBq.out]; exact roundB_iff.2 ⟨k, hlt, reachB_iff.1 hr⟩
        clear hH hr
        go_wp2_with fail
        go_fit HH.out
        rintro e w' ⟨rfl, rfl⟩
        go_wp2_with fail
        go_ret
        exact ⟨ret_bool HR.out.symm, HB8.out⟩
      | false =>
        rw [decide_eq_false (fun h => by rw [HMem.out.1 h] at hr; cases hr)] at hH
        have HH := Lib.hid hH
        have HR := Lib.hid hr
        clear hH hr
        go_wp2_with fail
        go_fit HH.out
        rintro e w' ⟨rfl, rfl⟩
        go_wp2_with fail
        go_roundw
        case rel =>
          refine ⟨k + 1, hlt, by go_num, HB8.out, fun j hj => ?_⟩
          by_cases hjk : j < k
          · exact HAll.out j hjk
          · obtain rfl : j = k := by omega
            exact HR.out
        case measure => simp [intOf]; omega
    · obtain rfl : k = n := by omega
      have HR : Hid (b = false) := by
        show _ = _
        rw [HBq.out, Bool.eq_false_iff]
        intro ht
        obtain ⟨x, hx, hr⟩ := roundB_iff.1 ht
        have := HAll.out x hx
        rw [reachB_iff.2 hr] at this; cases this
      go_wp2_with fail
      go_ret
      exact ⟨ret_bool HR.out.symm, HB.out⟩
end Go.Proofs.YtafdijcolponjaaDoor
