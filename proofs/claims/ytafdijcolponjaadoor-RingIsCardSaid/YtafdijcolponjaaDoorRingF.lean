/- The least ring, in plain Lean: what the program keeps from node to node is what the document's text names; a ring is there just if the graph goes round. No program is walked here; no condition but those in each statement. -/
import Derived.Test.YtafdijcolponjaaDoorRingA
namespace Go.Proofs.YtafdijcolponjaaDoor
open Go.RowKit
variable {L : List (Nat × Nat)} {t n a b s : Nat}

/-- The document's least ring. -/
def onO (n : Nat) (L : List (Nat × Nat)) (r a : Nat) : Option (List Nat) := match onF n L a r [a] with | [] => none | x :: l => some (x :: l)
def refO (n : Nat) (L : List (Nat × Nat)) : Option (List Nat) := (List.range n).findSome? fun r => (List.range n).findSome? fun a => onO n L r a
def refL (n : Nat) (L : List (Nat × Nat)) : List Nat := (refO n L).getD []
theorem onO_none (h : onF n L a s [a] = []) : onO n L s a = none := by unfold onO; rw [h]
theorem onO_some {l : List Nat} (h : onF n L a s [a] = a :: l) : onO n L s a = some (a :: l) := by unfold onO; rw [h]
theorem onO_nil (h : onO n L s a = none) : onF n L a s [a] = [] := by
  unfold onO at h
  cases hq : onF n L a s [a] with
  | nil => rfl
  | cons x l => rw [hq] at h; cases h
theorem onO_lead (h : onO n L s a ≠ none) : Lead L a (s + 1) a := by
  have := onF_lead s [a] (fun he => h (onO_none he))
  simpa using this
/-- The least ring among those that begin at a node less than k. -/
def LeastAt (n : Nat) (L : List (Nat × Nat)) (k : Nat) (best : List Nat) : Prop :=
  (best = [] ∧ ∀ a, a < k → ∀ s, ¬ Lead L a s a) ∨
  ∃ (a j : Nat) (d : List Int), a < k ∧ a < n ∧ DistIs n L a d ∧ d.getD a 0 = ((j + 1 : Nat) : Int) ∧ best = a :: walkF n L a d j a ∧ ∀ a', a' < k → ∀ i, Lead L a' i a' → j + 1 ≤ i ∧ (i = j + 1 → a ≤ a')
theorem leastAt_zero : LeastAt n L 0 [] := .inl ⟨rfl, fun a h => absurd h (Nat.not_lt_zero a)⟩
theorem LeastAt.skip {best : List Nat} {d : List Int} {k : Nat} (h : LeastAt n L k best) (hd : DistIs n L k d) (hk : k < n) (h0 : ¬ 0 < d.getD k 0) : LeastAt n L (k + 1) best := by
  have hno : ∀ s, ¬ Lead L k s k := by
    rcases hd.val k hk (Nat.le_refl k) with ⟨-, h2⟩ | ⟨j, h1, h2, -⟩
    · exact h2
    · have := h2.pos; omega
  rcases h with ⟨h1, h2⟩ | ⟨a, j, d', h1, h2, h3, h4, h5, h6⟩
  · refine .inl ⟨h1, fun a ha => ?_⟩
    by_cases e : a = k
    · rw [e]; exact hno
    · exact h2 a (by omega)
  · refine .inr ⟨a, j, d', by omega, h2, h3, h4, h5, fun a' ha' => ?_⟩
    by_cases e : a' = k
    · rw [e]; exact fun i hi => absurd hi (hno i)
    · exact h6 a' (by omega)
theorem LeastAt.take {best : List Nat} {d : List Int} {k j : Nat} (hL : ∀ e ∈ L, e.1 < n ∧ e.2 < n) (h : LeastAt n L k best) (hd : DistIs n L k d) (hk : k < n) (h0 : d.getD k 0 = ((j + 1 : Nat) : Int)) (hb : best = [] ∨ j + 1 < best.length) : LeastAt n L (k + 1) (k :: walkF n L k d j k) := by
  refine .inr ⟨k, j, d, Nat.lt_succ_self k, hk, hd, h0, rfl, fun a' ha' i hi => ?_⟩
  by_cases e : a' = k
  · rw [e] at hi ⊢
    have := hd.le hk (Nat.le_refl k) hi
    omega
  · rcases h with ⟨h1, h2⟩ | ⟨a, j', d', h1, h2, h3, h4, h5, h6⟩
    · exact absurd hi (h2 a' (by omega) i)
    · have hl := walkF_len hL h3 j' a h2 (Nat.le_refl a) h4
      have h7 := h6 a' (by omega) i hi
      rcases hb with hb | hb
      · rw [h5] at hb; cases hb
      · rw [h5] at hb
        simp only [List.length_cons, hl] at hb
        omega
theorem LeastAt.keep {best : List Nat} {d : List Int} {k j : Nat} (hL : ∀ e ∈ L, e.1 < n ∧ e.2 < n) (h : LeastAt n L k best) (hd : DistIs n L k d) (hk : k < n) (h0 : d.getD k 0 = ((j + 1 : Nat) : Int)) (hb : best ≠ []) (hb2 : best.length ≤ j + 1) : LeastAt n L (k + 1) best := by
  rcases h with ⟨h1, h2⟩ | ⟨a, j', d', h1, h2, h3, h4, h5, h6⟩
  · exact absurd h1 hb
  · refine .inr ⟨a, j', d', by omega, h2, h3, h4, h5, fun a' ha' i hi => ?_⟩
    by_cases e : a' = k
    · rw [e] at hi ⊢
      have := hd.le hk (Nat.le_refl k) hi
      have hl := walkF_len hL h3 j' a h2 (Nat.le_refl a) h4
      rw [h5] at hb2
      simp only [List.length_cons, hl] at hb2
      omega
    · exact h6 a' (by omega) i hi
/-- The nodes of a walk. -/
theorem walkF_low (hL : ∀ e ∈ L, e.1 < n ∧ e.2 < n) {d : List Int} (h : DistIs n L t d) : ∀ (k x : Nat), x < n → t ≤ x → d.getD x 0 = ((k + 1 : Nat) : Int) → ∀ y ∈ walkF n L t d k x, y < n ∧ t < y ∧ d.getD y 0 ≤ (k : Int)
  | 0, x, _, _, _ => fun y hy => by cases hy
  | k + 1, x, hx, htx, hd => by
    obtain ⟨b, hb⟩ := step_some hL h hx htx hd
    obtain ⟨h1, h2, h3, h4⟩ := step_at hb
    have hw : walkF n L t d (k + 1) x = b :: walkF n L t d k b := by rw [walkF, hb]
    rw [hw]
    intro y hy
    rcases List.mem_cons.1 hy with rfl | hy
    · exact ⟨h1, h3, by omega⟩
    · have := walkF_low hL h k b h1 (by omega) h4 y hy
      omega
theorem walkF_nodup (hL : ∀ e ∈ L, e.1 < n ∧ e.2 < n) {d : List Int} (h : DistIs n L t d) : ∀ (k x : Nat), x < n → t ≤ x → d.getD x 0 = ((k + 1 : Nat) : Int) → (x :: walkF n L t d k x).Nodup
  | 0, x, _, _, _ => by simp [walkF]
  | k + 1, x, hx, htx, hd => by
    obtain ⟨b, hb⟩ := step_some hL h hx htx hd
    obtain ⟨h1, h2, h3, h4⟩ := step_at hb
    have hlow := walkF_low hL h (k + 1) x hx htx hd
    have hw : walkF n L t d (k + 1) x = b :: walkF n L t d k b := by rw [walkF, hb]
    rw [hw] at hlow ⊢
    refine List.nodup_cons.2 ⟨fun hm => ?_, walkF_nodup hL h k b h1 (by omega) h4⟩
    have := hlow x hm
    omega
theorem walkF_all (hL : ∀ e ∈ L, e.1 < n ∧ e.2 < n) {d : List Int} (h : DistIs n L t d) {k : Nat} (ht : t < n) (hd : d.getD t 0 = ((k + 1 : Nat) : Int)) : k + 1 ≤ n := by
  have h1 := walkF_nodup hL h k t ht (Nat.le_refl t) hd
  have h2 := len_of_lt n _ h1 fun y hy => by
    rcases List.mem_cons.1 hy with rfl | hy
    · exact ht
    · exact (walkF_low hL h k t ht (Nat.le_refl t) hd y hy).1
  have h3 := walkF_len hL h k t ht (Nat.le_refl t) hd
  simp only [List.length_cons, h3] at h2
  exact h2
/-- A walk's edges. -/
theorem walkF_edge (hL : ∀ e ∈ L, e.1 < n ∧ e.2 < n) {d : List Int} (h : DistIs n L t d) : ∀ (k x : Nat), x < n → t ≤ x → d.getD x 0 = ((k + 1 : Nat) : Int) → (∀ i, i < k → ((x :: walkF n L t d k x).getD i 0, (x :: walkF n L t d k x).getD (i + 1) 0) ∈ L) ∧ ((x :: walkF n L t d k x).getD k 0, t) ∈ L
  | 0, x, hx, htx, hd => ⟨fun i hi => absurd hi (Nat.not_lt_zero i), lead_one.1 (h.lead hx htx hd).1⟩
  | k + 1, x, hx, htx, hd => by
    obtain ⟨b, hb⟩ := step_some hL h hx htx hd
    obtain ⟨h1, h2, h3, h4⟩ := step_at hb
    have hw : walkF n L t d (k + 1) x = b :: walkF n L t d k b := by rw [walkF, hb]
    obtain ⟨i1, i2⟩ := walkF_edge hL h k b h1 (by omega) h4
    rw [hw]
    refine ⟨fun i hi => ?_, i2⟩
    cases i with
    | zero => exact h2
    | succ i => exact i1 i (by omega)
/-- What the program keeps is the document's. -/
theorem leastAt_ref (hL : ∀ e ∈ L, e.1 < n ∧ e.2 < n) {best : List Nat} (h : LeastAt n L n best) : refL n L = best := by
  unfold refL refO
  rcases h with ⟨h1, h2⟩ | ⟨a, j, d, -, h2, h3, h4, h5, h6⟩
  · have : ((List.range n).findSome? fun r => (List.range n).findSome? fun a => onO n L r a) = none := by
      rw [List.findSome?_eq_none_iff]
      intro r _
      rw [List.findSome?_eq_none_iff]
      intro a ha
      refine Classical.byContradiction fun hn => h2 a (List.mem_range.1 ha) _ (onO_lead hn)
    rw [this, h1]; rfl
  · have hj := walkF_all hL h3 h2 h4
    have hw := onF_walk hL h3 j a [a] rfl (by simp) h2 (Nat.le_refl a) h4 fun y hy hty => by rw [List.mem_singleton.1 hy] at hty; omega
    have hin : ((List.range n).findSome? fun a => onO n L j a) = some best := by
      refine findSome_first _ h2 (by rw [h5]; exact onO_some hw) fun i hi => ?_
      refine Classical.byContradiction fun hn => ?_
      have := (h6 i (by omega) _ (onO_lead hn)).2 rfl
      omega
    rw [findSome_first (fun r => (List.range n).findSome? fun a => onO n L r a) (b := j) (by omega) hin fun r hr => by
      rw [List.findSome?_eq_none_iff]
      intro a' ha'
      refine Classical.byContradiction fun hn => ?_
      have := (h6 a' (List.mem_range.1 ha') _ (onO_lead hn)).1
      omega]
    rfl

/-- The edges among the nodes from k on. -/
def cutL (L : List (Nat × Nat)) (k : Nat) : List (Nat × Nat) := L.filter fun e => decide (k ≤ e.1) && decide (k ≤ e.2)
theorem mem_cutL {k : Nat} {e : Nat × Nat} : e ∈ cutL L k ↔ e ∈ L ∧ k ≤ e.1 ∧ k ≤ e.2 := by
  unfold cutL
  rw [List.mem_filter, Bool.and_eq_true, decide_eq_true_iff, decide_eq_true_iff]
theorem lead_of_cut {k a c : Nat} (h : Reach (cutL L k) a c) : (c = k → ∃ s, Lead L k s a) ∧ (k < c → ∀ s, Lead L k s c → ∃ s', Lead L k s' a) := by
  induction h with
  | one h =>
    have h1 := mem_cutL.1 h
    exact ⟨fun e => ⟨1, .one (e ▸ h1.1)⟩, fun hc s hs => ⟨s + 1, .more h1.1 hc hs⟩⟩
  | more h hk ih =>
    have h1 := mem_cutL.1 hk
    rename_i b c
    have hb : k ≤ b := h1.2.1
    refine ⟨fun e => ?_, fun hc s hs => ?_⟩
    · by_cases e2 : b = k
      · exact ih.1 e2
      · exact ih.2 (by omega) 1 (.one (e ▸ h1.1))
    · by_cases e2 : b = k
      · exact ih.1 e2
      · exact ih.2 (by omega) (s + 1) (.more h1.1 hc hs)
theorem cut_more {k a b : Nat} (hn : ¬ Reach (cutL L k) k k) (h : Reach (cutL L k) a b) : Reach (cutL L k) b a → Reach (cutL L (k + 1)) a b := by
  induction h with
  | one h =>
    intro hb
    have h1 := mem_cutL.1 h
    rename_i b
    have e1 : a ≠ k := fun e => by have hq := Reach.head h hb; rw [e] at hq; exact hn hq
    have e2 : b ≠ k := fun e => by have hq := Reach.more hb h; rw [e] at hq; exact hn hq
    exact .one (mem_cutL.2 ⟨h1.1, by have := h1.2.1; show k + 1 ≤ a; have : k ≤ a := this; omega, by have : k ≤ b := h1.2.2; show k + 1 ≤ b; omega⟩)
  | more h hk ih =>
    intro hb
    have h1 := mem_cutL.1 hk
    rename_i b c
    have hba : Reach (cutL L k) b a := Reach.head hk hb
    have e1 : b ≠ k := fun e => by have hq := hba.trans h; rw [e] at hq; exact hn hq
    have e2 : c ≠ k := fun e => by have hq := Reach.more (hb.trans h) hk; rw [e] at hq; exact hn hq
    exact .more (ih hba) (mem_cutL.2 ⟨h1.1, by have : k ≤ b := h1.2.1; show k + 1 ≤ b; omega, by have : k ≤ c := h1.2.2; show k + 1 ≤ c; omega⟩)
theorem lead_some (hL : ∀ e ∈ L, e.1 < n ∧ e.2 < n) : ∀ (m k x : Nat), n ≤ k + m → Reach (cutL L k) x x → ∃ t s, Lead L t s t
  | 0, k, x, hk, h => by
    exfalso
    have hh : ∀ e ∈ cutL L k, False := fun e he => by
      have h1 := mem_cutL.1 he
      have := hL e h1.1
      omega
    cases h with
    | one h => exact hh _ h
    | more _ h => exact hh _ h
  | m + 1, k, x, hk, h => by
    by_cases hr : Reach (cutL L k) k k
    · obtain ⟨s, hs⟩ := (lead_of_cut hr).1 rfl
      exact ⟨k, s, hs⟩
    · exact lead_some hL m (k + 1) x (by omega) (cut_more hr h h)
theorem round_lead (hL : ∀ e ∈ L, e.1 < n ∧ e.2 < n) : roundB n L = true ↔ ∃ a s, Lead L a s a := by
  rw [roundB_iff]
  constructor
  · rintro ⟨a, -, h⟩
    exact lead_some hL n 0 a (by omega) (h.mono fun e he => mem_cutL.2 ⟨he, Nat.zero_le _, Nat.zero_le _⟩)
  · rintro ⟨a, s, h⟩
    exact ⟨a, (h.reach.lt hL).1, h.reach⟩
theorem least_round_iff (hL : ∀ e ∈ L, e.1 < n ∧ e.2 < n) {best : List Nat} (h : LeastAt n L n best) : roundB n L = decide (best ≠ []) := by
  rw [Bool.eq_iff_iff, round_lead hL, decide_eq_true_iff]
  rcases h with ⟨h1, h2⟩ | ⟨a, j, d, -, h2, h3, h4, h5, -⟩
  · constructor
    · rintro ⟨a, s, h⟩
      exact absurd h (h2 a (h.reach.lt hL).1 s)
    · intro h; exact absurd h1 h
  · exact ⟨fun _ => by rw [h5]; simp, fun _ => ⟨a, j + 1, (h3.lead h2 (Nat.le_refl a) h4).1⟩⟩
end Go.Proofs.YtafdijcolponjaaDoor
