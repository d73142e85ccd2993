/- The document on graphs, in plain Lean: what Has, Next, Back, Edges tell of the edges. No program is walked here; no condition but those in each statement. -/
import Derived.Test.YtafdijcolponjaaDoorGraphF
namespace Go.Proofs.YtafdijcolponjaaDoor
open Go.RowKit

theorem preL_filter (ws : List Nat) : ∀ k, preL ws k = (List.range (k * 64)).filter (mem ws)
  | 0 => by simp [preL]
  | k + 1 => by
    rw [preL_succ, preL_filter ws k, Nat.succ_mul, List.range_add, List.filter_append, List.filter_map]
    congr 2
    unfold bitL
    refine List.filter_congr fun i hi => ?_
    have hi' : i < 64 := List.mem_range.1 hi
    show _ = mem ws (k * 64 + i)
    unfold mem
    rw [show (k * 64 + i) / 64 = k by omega, show (k * 64 + i) % 64 = i by omega]

theorem filter_range_le (p : Nat → Bool) (n m : Nat) (h : n ≤ m) (hp : ∀ i, n ≤ i → p i = false) : (List.range m).filter p = (List.range n).filter p := by
  obtain ⟨d, rfl⟩ := Nat.le.dest h
  rw [List.range_add, List.filter_append]
  have : ((List.range d).map (n + ·)).filter p = [] := by
    rw [List.filter_eq_nil_iff]
    intro a ha
    obtain ⟨i, _, rfl⟩ := List.mem_map.1 ha
    rw [hp _ (by omega)]; simp
  rw [this, List.append_nil]

/-- The document's Has, Next, Back. -/
def hasR (L : List (Nat × Nat)) (a z : Int) : Bool := L.any fun e => decide ((e.1 : Int) = a) && decide ((e.2 : Int) = z)
theorem hasR_iff {L : List (Nat × Nat)} {a z : Int} : hasR L a z = true ↔ ∃ e ∈ L, (e.1 : Int) = a ∧ (e.2 : Int) = z := by
  simp [hasR]
theorem hasR_nat (L : List (Nat × Nat)) (i j : Nat) : hasR L i j = decide ((i, j) ∈ L) := by
  rw [Bool.eq_iff_iff, hasR_iff, decide_eq_true_iff]
  constructor
  · rintro ⟨⟨x, y⟩, he, h1, h2⟩
    have h1' : x = i := Int.ofNat.inj h1
    have h2' : y = j := Int.ofNat.inj h2
    subst h1' h2'; exact he
  · intro h; exact ⟨_, h, rfl, rfl⟩
theorem hasR_out {L : List (Nat × Nat)} {n : Nat} (h : ∀ e ∈ L, e.1 < n ∧ e.2 < n) {a z : Int} (ho : ¬ ((0 ≤ a ∧ a < (n : Int)) ∧ (0 ≤ z ∧ z < (n : Int)))) : hasR L a z = false := by
  rw [Bool.eq_false_iff]
  intro ht
  obtain ⟨e, he, h1, h2⟩ := hasR_iff.1 ht
  have := h e he
  omega
theorem GM.has_eq {G : GM} (h : G.ok) (a z : Int) : G.hasB a z = hasR G.L a z := by
  have h5 := h.n500
  unfold GM.hasB inG memZ
  by_cases ha : 0 ≤ a ∧ a < (G.n : Int)
  · obtain ⟨i, rfl⟩ := Int.eq_ofNat_of_zero_le ha.1
    rw [decide_eq_true ha, Bool.true_and, Int.toNat_natCast]
    by_cases hz : 0 ≤ z
    · obtain ⟨j, rfl⟩ := Int.eq_ofNat_of_zero_le hz
      rw [h.mto i (by omega), hasR_nat, Int.toNat_natCast]
      by_cases hj : (i, j) ∈ G.L
      · have := h.inr _ hj
        have h2 : j < G.n := this.2
        rw [decide_eq_true (by omega)]; simp
      · simp [hj]
    · rw [decide_eq_false (fun h => hz h.1), hasR_out h.inr (by omega)]; rfl
  · rw [decide_eq_false ha, hasR_out h.inr (by omega)]; rfl

def nextR (n : Nat) (L : List (Nat × Nat)) (a : Int) : List Nat := (List.range n).filter fun j => hasR L a j
def backR (n : Nat) (L : List (Nat × Nat)) (z : Int) : List Nat := (List.range n).filter fun i => hasR L i z
theorem GM.next_eq {G : GM} (h : G.ok) (a : Int) : G.nextL a = nextR G.n G.L a := by
  have h5 := h.n500
  unfold GM.nextL inG nextR
  by_cases ha : 0 ≤ a ∧ a < (G.n : Int)
  · obtain ⟨i, rfl⟩ := Int.eq_ofNat_of_zero_le ha.1
    rw [if_pos (decide_eq_true ha), Int.toNat_natCast, preL_filter, filter_range_le _ G.n (8 * 64) (by omega)]
    · refine List.filter_congr fun j _ => ?_
      rw [h.mto i (by omega), hasR_nat]
    · intro j hj
      rw [h.mto i (by omega)]
      exact decide_eq_false fun hm => by have : j < G.n := (h.inr _ hm).2; omega
  · rw [if_neg (by simpa using ha), eq_comm, List.filter_eq_nil_iff]
    intro j _
    rw [hasR_out h.inr (by omega)]; simp
theorem GM.back_eq {G : GM} (h : G.ok) (z : Int) : G.backL z = backR G.n G.L z := by
  have h5 := h.n500
  unfold GM.backL inG backR
  by_cases ha : 0 ≤ z ∧ z < (G.n : Int)
  · obtain ⟨j, rfl⟩ := Int.eq_ofNat_of_zero_le ha.1
    rw [if_pos (decide_eq_true ha), Int.toNat_natCast, preL_filter, filter_range_le _ G.n (8 * 64) (by omega)]
    · refine List.filter_congr fun i _ => ?_
      rw [h.mfr j (by omega), hasR_nat]
    · intro i hi
      rw [h.mfr j (by omega)]
      exact decide_eq_false fun hm => by have : i < G.n := (h.inr _ hm).1; omega
  · rw [if_neg (by simpa using ha), eq_comm, List.filter_eq_nil_iff]
    intro i _
    rw [hasR_out h.inr (by omega)]; simp

/-- All edges, up to the k-th node. -/
def edgesR (n : Nat) (L : List (Nat × Nat)) (k : Nat) : List (Nat × Nat) := (List.range k).flatMap fun (a : Nat) => (nextR n L (a : Int)).map fun j => (a, j)
def GM.edgesL (G : GM) (k : Nat) : List (Nat × Nat) := (List.range k).flatMap fun a => (preL (G.tow a) 8).map fun j => (a, j)
theorem GM.edgesL_succ (G : GM) (k : Nat) : G.edgesL (k + 1) = G.edgesL k ++ (preL (G.tow k) 8).map fun j => (k, j) := by
  unfold GM.edgesL
  rw [List.range_succ, List.flatMap_append]; simp
theorem edgesR_succ (n : Nat) (L : List (Nat × Nat)) (k : Nat) : edgesR n L (k + 1) = edgesR n L k ++ (nextR n L k).map fun j => (k, j) := by
  unfold edgesR
  rw [List.range_succ, List.flatMap_append]; simp
theorem GM.edges_eq {G : GM} (h : G.ok) : ∀ k, k ≤ G.n → G.edgesL k = edgesR G.n G.L k
  | 0, _ => rfl
  | k + 1, hk => by
    rw [GM.edgesL_succ, edgesR_succ, GM.edges_eq h k (by omega), ← GM.next_eq h]
    unfold GM.nextL inG
    rw [if_pos (decide_eq_true (by omega)), Int.toNat_natCast]
theorem nextR_len (n : Nat) (L : List (Nat × Nat)) (a : Int) : (nextR n L a).length ≤ n := by
  have := List.length_filter_le (fun j => hasR L a (j : Nat)) (List.range n)
  simpa [nextR] using this
theorem edgesR_len (n : Nat) (L : List (Nat × Nat)) : ∀ k, (edgesR n L k).length ≤ k * n
  | 0 => by simp [edgesR]
  | k + 1 => by
    rw [edgesR_succ, List.length_append, List.length_map, Nat.succ_mul]
    have := edgesR_len n L k
    have := nextR_len n L k
    omega

theorem len_of_lt : ∀ (N : Nat) (l : List Nat), l.Nodup → (∀ x ∈ l, x < N) → l.length ≤ N
  | 0, l, _, h => by
    cases l with
    | nil => simp
    | cons x l => exact absurd (h x (by simp)) (by omega)
  | N + 1, l, hn, h => by
    have h1 := len_of_lt N (l.erase N) (hn.erase N) fun x hx => by
      have := (hn.mem_erase_iff).1 hx
      have := h x this.2
      omega
    have h2 : l.length ≤ (l.erase N).length + 1 := by
      rw [List.length_erase]; split <;> omega
    omega
theorem edges_few {L : List (Nat × Nat)} {n : Nat} (hn : L.Nodup) (h : ∀ e ∈ L, e.1 < n ∧ e.2 < n) : L.length ≤ n * n := by
  have h1 := len_of_lt (n * n) (L.map fun e => e.1 * n + e.2) ?_ ?_
  · simpa using h1
  · rw [List.nodup_iff_pairwise_ne, List.pairwise_map]
    refine List.Pairwise.imp_of_mem ?_ hn
    intro a b ha hb hne he
    have h1 := h a ha
    have h2 := h b hb
    apply hne
    have hp : 0 < n := by omega
    have e1 : a.1 = b.1 := by
      have := congrArg (· / n) he
      simp only [Nat.add_comm (_ * n), Nat.add_mul_div_right _ _ hp, Nat.div_eq_of_lt h1.2, Nat.div_eq_of_lt h2.2] at this
      omega
    rw [e1] at he
    exact Prod.ext e1 (by omega)
  · intro x hx
    obtain ⟨e, he, rfl⟩ := List.mem_map.1 hx
    have := h e he
    calc e.1 * n + e.2 < e.1 * n + n := by omega
      _ = (e.1 + 1) * n := by rw [Nat.succ_mul]
      _ ≤ n * n := Nat.mul_le_mul_right _ (by omega)

/-- What Put answers, and what it leaves. -/
def putV (n : Nat) (L : List (Nat × Nat)) (a z : Int) : Bool × Int :=
  if inG n a = true ∧ inG n z = true then (if hasR L a z = true then (false, 0) else (true, 0)) else (false, 2)
def putL (n : Nat) (L : List (Nat × Nat)) (a z : Int) : List (Nat × Nat) :=
  if inG n a = true ∧ inG n z = true then (if hasR L a z = true then L else L ++ [(a.toNat, z.toNat)]) else L
def mayE (n : Nat) (z : Nat → Nat → Int) (k : Nat) : Bool := (List.range k).all fun i => inG n (z i 0) && inG n (z i 1)
def ofZ (n : Nat) (z : Nat → Nat → Int) : Nat → List (Nat × Nat)
  | 0 => []
  | k + 1 => putL n (ofZ n z k) (z k 0) (z k 1)
theorem mayE_succ (n : Nat) (z : Nat → Nat → Int) (k : Nat) : mayE n z (k + 1) = (mayE n z k && (inG n (z k 0) && inG n (z k 1))) := by
  simp [mayE, List.range_succ, List.all_append]
theorem mayE_no {n : Nat} {z : Nat → Nat → Int} {i : Nat} (h : (inG n (z i 0) && inG n (z i 1)) = false) {k : Nat} (hk : i < k) : mayE n z k = false := by
  rw [Bool.eq_false_iff]
  intro ht
  have := List.all_eq_true.1 ht i (List.mem_range.2 hk)
  rw [h] at this; cases this
theorem putL_len (n : Nat) (L : List (Nat × Nat)) (a z : Int) : (putL n L a z).length ≤ L.length + 1 := by
  unfold putL; split
  · split <;> simp
  · simp
theorem ofZ_len (n : Nat) (z : Nat → Nat → Int) : ∀ k, (ofZ n z k).length ≤ k
  | 0 => by simp [ofZ]
  | k + 1 => by
    have := putL_len n (ofZ n z k) (z k 0) (z k 1)
    have := ofZ_len n z k
    simp only [ofZ]; omega

end Go.Proofs.YtafdijcolponjaaDoor
