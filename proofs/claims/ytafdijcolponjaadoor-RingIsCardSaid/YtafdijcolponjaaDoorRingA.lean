/- Shortest rings, in plain Lean: ways back to a node by greater nodes alone, how long the shortest are, and the least ring by either text. No program is walked here; no condition but those in each statement. -/
import Derived.Test.YtafdijcolponjaaDoorMH
namespace Go.Proofs.YtafdijcolponjaaDoor
open Go.RowKit

/-- A way of so many edges to t, whose inner nodes are greater than t. -/
inductive Lead (L : List (Nat × Nat)) (t : Nat) : Nat → Nat → Prop
  | one {a : Nat} (h : (a, t) ∈ L) : Lead L t 1 a
  | more {a b s : Nat} (h : (a, b) ∈ L) (hb : t < b) (k : Lead L t s b) : Lead L t (s + 1) a
variable {L : List (Nat × Nat)} {t n a b s : Nat}
theorem Lead.pos (h : Lead L t s a) : 1 ≤ s := by cases h <;> omega
theorem lead_zero : ¬ Lead L t 0 a := fun h => by have := h.pos; omega
theorem lead_one : Lead L t 1 a ↔ (a, t) ∈ L := by
  constructor
  · intro h
    generalize hs : 1 = s at h
    cases h with
    | one h => exact h
    | more _ _ k => have := k.pos; omega
  · exact .one
theorem lead_more (hs : 1 ≤ s) : Lead L t (s + 1) a ↔ ∃ b, (a, b) ∈ L ∧ t < b ∧ Lead L t s b := by
  constructor
  · intro h
    generalize hq : s + 1 = q at h
    cases h with
    | one h => omega
    | more h hb k =>
      obtain rfl := Nat.succ.inj hq
      exact ⟨_, h, hb, k⟩
  · rintro ⟨b, h, hb, k⟩; exact .more h hb k
theorem Lead.reach (h : Lead L t s a) : Reach L a t := by
  induction h with
  | one h => exact .one h
  | more h _ _ ih => exact Reach.head h ih
open Classical in
noncomputable def leadB (L : List (Nat × Nat)) (t s a : Nat) : Bool := decide (Lead L t s a)
theorem leadB_iff : leadB L t s a = true ↔ Lead L t s a := by simp [leadB]
/-- The shortest way of fewer than s edges. -/
noncomputable def distO (L : List (Nat × Nat)) (t s a : Nat) : Option Nat := (List.range s).find? fun j => leadB L t j a
theorem distO_some {j : Nat} : distO L t s a = some j ↔ j < s ∧ Lead L t j a ∧ ∀ i, i < j → ¬ Lead L t i a := by
  unfold distO
  rw [List.find?_range_eq_some, leadB_iff, List.mem_range]
  constructor
  · rintro ⟨h1, h2, h3⟩
    exact ⟨h2, h1, fun i hi hl => by have := h3 i hi; rw [leadB_iff.2 hl] at this; cases this⟩
  · rintro ⟨h1, h2, h3⟩
    refine ⟨h2, h1, fun i hi => ?_⟩
    cases hb : leadB L t i a with
    | true => exact absurd (leadB_iff.1 hb) (h3 i hi)
    | false => rfl
theorem distO_none : distO L t s a = none ↔ ∀ i, i < s → ¬ Lead L t i a := by
  unfold distO
  rw [List.find?_range_eq_none]
  constructor
  · intro h i hi hl
    have := h i hi
    rw [leadB_iff.2 hl] at this; cases this
  · intro h i hi
    cases hb : leadB L t i a with
    | true => exact absurd (leadB_iff.1 hb) (h i hi)
    | false => rfl
theorem distO_succ_old {j : Nat} (h : distO L t s a = some j) : distO L t (s + 1) a = some j := by
  rw [distO_some] at h ⊢
  exact ⟨by omega, h.2⟩
theorem distO_succ_new (h : distO L t s a = none) (hl : Lead L t s a) : distO L t (s + 1) a = some s := by
  rw [distO_none] at h
  rw [distO_some]
  exact ⟨Nat.lt_succ_self s, hl, h⟩
theorem distO_succ_none (h : distO L t s a = none) (hl : ¬ Lead L t s a) : distO L t (s + 1) a = none := by
  rw [distO_none] at h ⊢
  intro i hi
  by_cases hs : i < s
  · exact h i hs
  · obtain rfl : i = s := by omega
    exact hl
/-- Which nodes are told at a step. -/
def Front (L : List (Nat × Nat)) (t : Nat) : Nat → Nat → Prop
  | 0, _ => False
  | 1, a => a = t
  | s + 2, a => t < a ∧ distO L t (s + 1) a = none ∧ Lead L t (s + 1) a
theorem front_lead (hs : 1 ≤ s) (h : distO L t s a = none) : Lead L t s a ↔ ∃ b, Front L t s b ∧ (a, b) ∈ L := by
  match s, hs with
  | 1, _ =>
    rw [lead_one]
    exact ⟨fun h => ⟨t, rfl, h⟩, fun ⟨b, hb, h⟩ => by have hb' : b = t := hb; rw [hb'] at h; exact h⟩
  | s + 2, _ =>
    rw [lead_more (by omega)]
    constructor
    · rintro ⟨b, h1, h2, h3⟩
      refine ⟨b, ⟨h2, ?_, h3⟩, h1⟩
      rw [distO_none] at h ⊢
      intro i hi hl
      exact h (i + 1) (by omega) (.more h1 h2 hl)
    · rintro ⟨b, ⟨h1, h2, h3⟩, h4⟩
      exact ⟨b, h4, h1, h3⟩
theorem front_end (hs : 1 ≤ s) (hf : ∀ b, ¬ Front L t s b) : ∀ (j : Nat) (a : Nat), distO L t s a = none → Lead L t j a → False := by
  intro j
  induction j using Nat.strongRecOn with
  | ind j ih =>
    intro a ha hl
    have hmin : ∃ i, i ≤ j ∧ Lead L t i a ∧ ∀ q, q < i → ¬ Lead L t q a := by
      cases hd : distO L t (j + 1) a with
      | none => exact absurd hl (distO_none.1 hd j (Nat.lt_succ_self j))
      | some i =>
        obtain ⟨h1, h2, h3⟩ := distO_some.1 hd
        exact ⟨i, by omega, h2, h3⟩
    obtain ⟨i, hij, hli, hm⟩ := hmin
    have his : s ≤ i := by
      rcases Nat.lt_or_ge i s with h | h
      · exact absurd hli (distO_none.1 ha i h)
      · exact h
    by_cases hes : i = s
    · subst hes
      obtain ⟨b, hb, -⟩ := (front_lead hs ha).1 hli
      exact hf b hb
    · obtain ⟨i', rfl⟩ : ∃ i', i = i' + 1 := ⟨i - 1, by omega⟩
      obtain ⟨b, h1, h2, h3⟩ := (lead_more (by omega)).1 hli
      refine ih i' (by omega) b ?_ h3
      rw [distO_none]
      intro q hq hlq
      exact hm (q + 1) (by omega) (.more h1 h2 hlq)

/-- What a row of distances says. -/
structure DistIs (n : Nat) (L : List (Nat × Nat)) (t : Nat) (d : List Int) : Prop where
  len : d.length = n
  low : ∀ a, a < n → a < t → d.getD a 0 = -1
  val : ∀ a, a < n → t ≤ a → (d.getD a 0 = -1 ∧ ∀ j, ¬ Lead L t j a) ∨ ∃ j : Nat, d.getD a 0 = (j : Int) ∧ Lead L t j a ∧ ∀ i, i < j → ¬ Lead L t i a
theorem DistIs.lead {d : List Int} (h : DistIs n L t d) (ha : a < n) (hta : t ≤ a) {j : Nat} (hj : d.getD a 0 = (j : Int)) : Lead L t j a ∧ ∀ i, i < j → ¬ Lead L t i a := by
  rcases h.val a ha hta with ⟨h1, -⟩ | ⟨i, h1, h2⟩
  · omega
  · obtain rfl : i = j := by omega
    exact h2
theorem DistIs.of {d : List Int} (h : DistIs n L t d) (ha : a < n) (hta : t ≤ a) {j : Nat} (hl : Lead L t j a) (hm : ∀ i, i < j → ¬ Lead L t i a) : d.getD a 0 = (j : Int) := by
  rcases h.val a ha hta with ⟨-, h2⟩ | ⟨i, h1, h2, h3⟩
  · exact absurd hl (h2 j)
  · have : i = j := by
      rcases Nat.lt_trichotomy i j with h | h | h
      · exact absurd h2 (hm i h)
      · exact h
      · exact absurd hl (h3 j h)
    rw [h1, this]
theorem DistIs.le {d : List Int} (h : DistIs n L t d) (ha : a < n) (hta : t ≤ a) {j : Nat} (hl : Lead L t j a) : 1 ≤ d.getD a 0 ∧ d.getD a 0 ≤ (j : Int) := by
  rcases h.val a ha hta with ⟨-, h2⟩ | ⟨i, h1, h2, h3⟩
  · exact absurd hl (h2 j)
  · have := h2.pos
    have : i ≤ j := by
      rcases Nat.lt_or_ge j i with h | h
      · exact absurd hl (h3 j h)
      · exact h
    omega
/-- The next node of the least ring. -/
def stepB (L : List (Nat × Nat)) (t : Nat) (d : List Int) (left at_ b : Nat) : Bool := decide ((at_, b) ∈ L ∧ t < b ∧ d.getD b 0 = (left : Int))
def walkF (n : Nat) (L : List (Nat × Nat)) (t : Nat) (d : List Int) : Nat → Nat → List Nat
  | 0, _ => []
  | k + 1, x => match (List.range n).find? (stepB L t d (k + 1) x) with
    | none => []
    | some b => b :: walkF n L t d k b
theorem step_some (hL : ∀ e ∈ L, e.1 < n ∧ e.2 < n) {d : List Int} (h : DistIs n L t d) {k x : Nat} (hx : x < n) (htx : t ≤ x) (hd : d.getD x 0 = ((k + 2 : Nat) : Int)) : ∃ b, (List.range n).find? (stepB L t d (k + 1) x) = some b := by
  obtain ⟨h1, h2⟩ := h.lead hx htx hd
  obtain ⟨b, e1, e2, e3⟩ := (lead_more (by omega)).1 h1
  have hb := (hL _ e1).2
  have hdb : d.getD b 0 = ((k + 1 : Nat) : Int) := h.of hb (by omega) e3 fun i hi hl => h2 (i + 1) (by omega) (.more e1 e2 hl)
  cases hf : (List.range n).find? (stepB L t d (k + 1) x) with
  | some b => exact ⟨b, rfl⟩
  | none =>
    rw [List.find?_range_eq_none] at hf
    have := hf b hb
    unfold stepB at this
    rw [decide_eq_true ⟨e1, e2, hdb⟩] at this; cases this
theorem step_at {d : List Int} {k x b : Nat} (h : (List.range n).find? (stepB L t d k x) = some b) : b < n ∧ (x, b) ∈ L ∧ t < b ∧ d.getD b 0 = (k : Int) := by
  rw [List.find?_range_eq_some] at h
  have h1 := of_decide_eq_true h.1
  exact ⟨List.mem_range.1 h.2.1, h1.1, h1.2.1, h1.2.2⟩
/-- The nodes of a walk come nearer one by one. -/
theorem walkF_len (hL : ∀ e ∈ L, e.1 < n ∧ e.2 < n) {d : List Int} (h : DistIs n L t d) : ∀ (k x : Nat), x < n → t ≤ x → d.getD x 0 = ((k + 1 : Nat) : Int) → (walkF n L t d k x).length = k
  | 0, x, _, _, _ => rfl
  | k + 1, x, hx, htx, hd => by
    obtain ⟨b, hb⟩ := step_some hL h hx htx hd
    obtain ⟨h1, h2, h3, h4⟩ := step_at hb
    unfold walkF
    rw [hb]
    show (walkF n L t d k b).length + 1 = k + 1
    rw [walkF_len hL h k b h1 (by omega) h4]

/-- The document's on: the least ring of so many nodes more that begins so. -/
def onF (n : Nat) (L : List (Nat × Nat)) (t : Nat) : Nat → List Nat → List Nat
  | 0, head => if (head.getLastD 0, t) ∈ L then head else []
  | r + 1, head => ((List.range n).findSome? fun b => if t < b ∧ (head.getLastD 0, b) ∈ L ∧ b ∉ head then (match onF n L t r (head ++ [b]) with | [] => none | x :: l => some (x :: l)) else none).getD []
theorem getLastD_snoc (l : List Nat) (b : Nat) : (l ++ [b]).getLastD 0 = b := by simp
theorem findSome_first {α : Type} (f : Nat → Option α) {b : Nat} {y : α} (hb : b < n) (h1 : f b = some y) (h2 : ∀ i, i < b → f i = none) : (List.range n).findSome? f = some y := by
  obtain ⟨d, rfl⟩ : ∃ d, n = b + 1 + d := ⟨n - (b + 1), by omega⟩
  rw [List.range_add, List.findSome?_append, List.range_succ, List.findSome?_append]
  have : (List.range b).findSome? f = none := by
    rw [List.findSome?_eq_none_iff]
    exact fun i hi => h2 i (List.mem_range.1 hi)
  rw [this]
  simp [h1]
theorem onF_lead : ∀ (r : Nat) (head : List Nat), onF n L t r head ≠ [] → Lead L t (r + 1) (head.getLastD 0)
  | 0, head, h => by
    unfold onF at h
    split at h
    · rename_i he; exact .one he
    · exact absurd rfl h
  | r + 1, head, h => by
    unfold onF at h
    cases hf : (List.range n).findSome? fun b => if t < b ∧ (head.getLastD 0, b) ∈ L ∧ b ∉ head then (match onF n L t r (head ++ [b]) with | [] => none | x :: l => some (x :: l)) else none with
    | none => rw [hf] at h; exact absurd rfl h
    | some y =>
      obtain ⟨b, hb, hy⟩ := List.exists_of_findSome?_eq_some hf
      split at hy
      · rename_i hc
        have hne : onF n L t r (head ++ [b]) ≠ [] := by
          intro he; rw [he] at hy; cases hy
        have := onF_lead r _ hne
        rw [getLastD_snoc] at this
        exact .more hc.2.1 hc.1 this
      · cases hy
theorem onF_walk (hL : ∀ e ∈ L, e.1 < n ∧ e.2 < n) {d : List Int} (h : DistIs n L t d) : ∀ (r x : Nat) (head : List Nat), head.getLastD 0 = x → head ≠ [] → x < n → t ≤ x → d.getD x 0 = ((r + 1 : Nat) : Int) → (∀ y ∈ head, t < y → ((r + 1 : Nat) : Int) ≤ d.getD y 0) →
    onF n L t r head = head ++ walkF n L t d r x
  | 0, x, head, hlast, hne, hx, htx, hd, hall => by
    unfold onF
    rw [hlast, if_pos (lead_one.1 (h.lead hx htx hd).1)]
    simp [walkF]
  | r + 1, x, head, hlast, hne, hx, htx, hd, hall => by
    obtain ⟨b, hb⟩ := step_some hL h hx htx hd
    obtain ⟨b1, b2, b3, b4⟩ := step_at hb
    have hih := onF_walk hL h r b (head ++ [b]) (getLastD_snoc _ _) (by simp) b1 (by omega) b4 (fun y hy hty => by
      rcases List.mem_append.1 hy with hy | hy
      · have := hall y hy hty; omega
      · rw [List.mem_singleton.1 hy, b4]; exact Int.le_refl _)
    have hbh : b ∉ head := fun hm => by have := hall b hm b3; omega
    unfold onF
    have hfs : ((List.range n).findSome? fun b => if t < b ∧ (head.getLastD 0, b) ∈ L ∧ b ∉ head then (match onF n L t r (head ++ [b]) with | [] => none | x :: l => some (x :: l)) else none) = some (head ++ [b] ++ walkF n L t d r b) := by
      refine findSome_first _ b1 ?_ fun i hi => ?_
      · rw [hlast, if_pos ⟨b3, b2, hbh⟩, hih]
        cases hq : head ++ [b] ++ walkF n L t d r b with
        | nil => simp at hq
        | cons y l => rfl
      · split
        · rename_i hc
          rw [hlast] at hc
          cases ho : onF n L t r (head ++ [i]) with
          | nil => rfl
          | cons y l =>
            exfalso
            have hl := onF_lead r (head ++ [i]) (by rw [ho]; simp)
            rw [getLastD_snoc] at hl
            have hin := (hL _ hc.2.1).2
            have hdi : d.getD i 0 = ((r + 1 : Nat) : Int) := h.of hin (by omega) hl fun q hq hlq => (h.lead hx htx hd).2 (q + 1) (by omega) (.more hc.2.1 hc.1 hlq)
            rw [List.find?_range_eq_some] at hb
            have := hb.2.2 i hi
            unfold stepB at this
            rw [decide_eq_true ⟨hc.2.1, hc.1, hdi⟩] at this; cases this
        · rfl
    have hw : walkF n L t d (r + 1) x = b :: walkF n L t d r b := by rw [walkF, hb]
    rw [hfs, hw]
    simp
end Go.Proofs.YtafdijcolponjaaDoor
