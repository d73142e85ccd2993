/- A graph without its last edge, in plain Lean. No condition but those in each statement. -/
import Derived.Test.YtafdijcolponjaaDoorGraphD
namespace Go.Proofs.YtafdijcolponjaaDoor
open Go.RowKit

def GM.pop (G : GM) (i j : Nat) : GM :=
  { G with L := G.L.dropLast, tow := fun k => if k = i then dropW (G.tow i) j else G.tow k, frw := fun k => if k = j then dropW (G.frw j) i else G.frw k }

theorem mem_dropLast {L : List (Nat × Nat)} {x : Nat × Nat} (hN : (L ++ [x]).Nodup) (e : Nat × Nat) : e ∈ L ↔ (e ∈ L ++ [x] ∧ e ≠ x) := by
  rw [List.nodup_append] at hN
  simp only [List.mem_append, List.mem_singleton]
  constructor
  · intro h
    exact ⟨.inl h, hN.2.2 e h x (by simp)⟩
  · rintro ⟨h | h, hne⟩
    · exact h
    · exact absurd h hne

theorem GM.pop_ok {G : GM} (h : G.ok) (h8 : ∀ i, i < G.n → (G.tow i).length = 8 ∧ (G.frw i).length = 8) {i j : Nat} {L : List (Nat × Nat)} (hL : G.L = L ++ [(i, j)]) : (G.pop i j).ok := by
  have hn5 := h.n500
  have hij : i < G.n ∧ j < G.n := h.inr (i, j) (by rw [hL]; simp)
  have hN := h.once
  rw [hL] at hN
  have hm := mem_dropLast hN
  have hd : (G.pop i j).L = L := by show G.L.dropLast = L; rw [hL]; simp
  refine ⟨h.n500, ?_, ?_, ?_, ?_⟩
  · intro e he
    rw [hd] at he
    exact h.inr e (by rw [hL]; exact List.mem_append_left _ he)
  · rw [hd]; exact (List.nodup_append.1 hN).1
  · intro k hk m
    rw [hd]
    show mem (if k = i then dropW (G.tow i) j else G.tow k) m = decide ((k, m) ∈ L)
    have e0 : ((k, m) ∈ L) ↔ ((k, m) ∈ G.L ∧ ¬ (k = i ∧ m = j)) := by rw [hm, hL]; simp
    have e1 : decide ((k, m) ∈ L) = decide ((k, m) ∈ G.L ∧ ¬ (k = i ∧ m = j)) := decide_eq_decide.2 e0
    rw [e1]
    clear e1 e0
    by_cases e : k = i
    · subst e
      rw [if_pos rfl, mem_drop (by have := (h8 k hk).1; omega), h.mto k hk]
      by_cases e2 : m = j <;> simp [e2]
    · rw [if_neg e, h.mto k hk]
      simp [e]
  · intro k hk m
    rw [hd]
    show mem (if k = j then dropW (G.frw j) i else G.frw k) m = decide ((m, k) ∈ L)
    have e0 : ((m, k) ∈ L) ↔ ((m, k) ∈ G.L ∧ ¬ (m = i ∧ k = j)) := by rw [hm, hL]; simp
    have e1 : decide ((m, k) ∈ L) = decide ((m, k) ∈ G.L ∧ ¬ (m = i ∧ k = j)) := decide_eq_decide.2 e0
    rw [e1]
    clear e1 e0
    by_cases e : k = j
    · subst e
      rw [if_pos rfl, mem_drop (by have := (h8 k hk).2; omega), h.mfr k hk]
      rcases Decidable.em (m = i) with e2 | e2
      · simp [e2]
      · simp [e2]
    · rw [if_neg e, h.mfr k hk]
      simp [e]
end Go.Proofs.YtafdijcolponjaaDoor
