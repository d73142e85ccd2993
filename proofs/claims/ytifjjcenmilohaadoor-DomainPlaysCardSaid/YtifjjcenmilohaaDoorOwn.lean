/- Owned rows under changes elsewhere; footprints. No program is walked here; no condition but those in each statement. -/
import Derived.Test.YtifjjcenmilohaaDoorBase
import Derived.OwnWalk
import Derived.WalkSmall
namespace Go.Proofs.YtifjjcenmilohaaDoor
open Go.RowKit

theorem owns_of_heap {w w' : World} {base e size n : Nat} {v : Value} {xs : List Value} (h : w.ownsRow base e size v n xs)
    (hb : ∀ k, v.ownBlock = some k → w'.heap[k]? = w.heap[k]?) : w'.ownsRow base e size v n xs := by
  obtain ⟨h1, h2⟩ := h
  refine ⟨h1, ?_⟩
  rcases h2 with h2 | ⟨g, cap, cur, rfl, hg, hh, r⟩
  · exact .inl h2
  · exact .inr ⟨g, cap, cur, rfl, hg, (hb g rfl).trans hh, r⟩

theorem owns_base {w : World} {base base' e size n : Nat} {v : Value} {xs : List Value} (h : w.ownsRow base e size v n xs)
    (hb : ∀ k, v.ownBlock = some k → base' ≤ k) : w.ownsRow base' e size v n xs := by
  obtain ⟨h1, h2⟩ := h
  refine ⟨h1, ?_⟩
  rcases h2 with h2 | ⟨g, cap, cur, rfl, hg, hh, r⟩
  · exact .inl h2
  · exact .inr ⟨g, cap, cur, rfl, hb g rfl, hh, r⟩

theorem owns_zero {w : World} {base e size n : Nat} {v : Value} {xs : List Value} (h : w.ownsRow base e size v n xs) : w.ownsRow 0 e size v n xs :=
  owns_base h fun _ _ => Nat.zero_le _

theorem owns_lt {w : World} {base e size n : Nat} {v : Value} {xs : List Value} (h : w.ownsRow base e size v n xs) : ∀ k, v.ownBlock = some k → k < w.heap.size :=
  fun k hk => (World.ownsRow.lt h k hk).2

/-- What a row of no cells is, too. -/
theorem owns_shape {w : World} {base e size n : Nat} {v : Value} {xs : List Value} (h : w.ownsRow base e size v n xs) :
    (v = .slice none 0 0 ∧ n = 0) ∨ ∃ g cap, v = .slice (some ⟨g, 0, none⟩) n cap ∧ n ≤ cap ∧ cap ≤ maxLen := by
  rcases h.2 with h | ⟨g, cap, _, h, _, _, h1, h2, _⟩
  · exact .inl h
  · exact .inr ⟨g, cap, h, h1, h2⟩

/-- A row's first cells. -/
theorem owns_take {w : World} {base e size g cap n m : Nat} {xs : List Value} (hm : m ≤ n)
    (h : w.ownsRow base e size (.slice (some ⟨g, 0, none⟩) n cap) n xs) : w.ownsRow base e size (.slice (some ⟨g, 0, none⟩) m cap) m (xs.take (m * size)) := by
  obtain ⟨h1, h2⟩ := h
  rcases h2 with ⟨h0, _⟩ | ⟨g', cap', cur, hv, hg, hh, hn, hcap, hsz, htake⟩
  · cases h0
  · cases hv
    refine ⟨?_, .inr ⟨g, cap, cur, rfl, hg, hh, by omega, hcap, hsz, ?_⟩⟩
    · rw [List.length_take, h1]; exact Nat.min_eq_left (Nat.mul_le_mul_right _ hm)
    · rw [← htake, List.take_take, Nat.min_eq_left (Nat.mul_le_mul_right _ hm)]

/-- The blocks of a slice value. -/
def ownL (v : Value) : List Nat := v.ownBlock.toList
theorem mem_ownL {v : Value} {k : Nat} : k ∈ ownL v ↔ v.ownBlock = some k := by
  unfold ownL; cases v.ownBlock <;> simp [eq_comm]
theorem ownL_some (a : Addr) (n c : Nat) : ownL (.slice (some a) n c) = [a.block] := rfl
theorem ownL_none (n c : Nat) : ownL (.slice none n c) = [] := rfl

theorem owns_chg {F : Nat → Prop} {w w' : World} {base e size n : Nat} {v : Value} {xs : List Value} (h : w.ownsRow base e size v n xs) (hc : Chg F w w')
    (hF : ∀ k, k ∈ ownL v → ¬ F k) : w'.ownsRow base e size v n xs :=
  owns_of_heap h fun k hk => hc.block k (owns_lt h k hk) (hF k (mem_ownL.2 hk))

theorem chg_grown {w w' : World} {row : Option Nat} {F : Nat → Prop} (h : w.grownBy w' row) (hF : ∀ k, row = some k → F k) : Chg F w w' :=
  ⟨h.os, h.tape, h.output, h.size, fun k hk hf => h.block k hk (fun e => hf (hF k e.symm))⟩
theorem Chg.sizes {F : Nat → Prop} {w w' : World} (h : Chg F w w') : w.heap.size ≤ w'.heap.size := h.size
theorem chg_below {B : Nat} {w w' : World} {F : Nat → Prop} (h : Below B w w') (hF : ∀ k, B ≤ k → k < w.heap.size → F k) : Chg F w w' :=
  ⟨h.os, h.tape, h.output, h.size, fun k hk hf => h.block k (by rcases Nat.lt_or_ge k B with g | g; exact g; exact absurd (hF k g hk) hf)⟩
theorem below_chg {F : Nat → Prop} {w w' : World} {B : Nat} (h : Chg F w w') (hB : B ≤ w.heap.size) (hf : ∀ k, F k → B ≤ k) : Below B w w' :=
  h.below hB fun k hk hF => by have := hf k hF; omega
end Go.Proofs.YtifjjcenmilohaaDoor
