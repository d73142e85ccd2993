/- The contracts of a trail's New and All, and of all its calls on a trail that is none. Conditions: those in each statement. -/
import Derived.Test.YtifjjcenmilohaaDoorTrailF
import Derived.WalkSpells
import Derived.Laws.AppendOwnNone
namespace Go.Proofs.YtifjjcenmilohaaDoor
open Go.RowKit

theorem new_bad (n : Int) (w : World) (h : n < 0 ∨ 1000 < n) :
    Calls Tryd.prog 27 #[.int .i64 n] w fun e w' => e = .returned (.tuple #[.pointer none, .int .i64 2]) ∧ w = w' := by
  by_cases h0 : n < 0
  · go_enter Tryd.func27, Tryd.ntmps27
    go_wp2
    go_ret2
    exact ⟨rfl, rfl⟩
  · have h1 : 1000 < n := by omega
    clear h
    go_enter Tryd.func27, Tryd.ntmps27
    go_wp2
    go_ret2
    exact ⟨rfl, rfl⟩

def NewEnds (n : Nat) (w : World) (e : Ending) (w' : World) : Prop :=
  ∃ b, e = .returned (.tuple #[.pointer (some ⟨b, 0, none⟩), .int .i64 0]) ∧ w.heap.size ≤ b ∧ (∃ F, TrailAt w' b F ⟨List.replicate n 0, [], []⟩ ∧ ∀ k ∈ F, w.heap.size ≤ k) ∧ Below w.heap.size w w'

theorem new_ok (n : Nat) (w : World) (h : n ≤ 1000) :
    Calls Tryd.prog 27 #[.int .i64 n] w (NewEnds n w) := by
  obtain ⟨i0, hi, hz0, hz1, hz2⟩ := info_parts infoInt
  have h0 : ¬ (n : Int) < 0 := by omega
  have h1 : ¬ 1000 < (n : Int) := by omega
  go_enter Tryd.func27, Tryd.ntmps27
  go_wp2_with (at_make; refine wpList_make_full _ rfl _ _ 22 rfl 0 3 i0 (.int .i64 0) 1 Tryd.underlying22 hi hz0 hz1 .i64 .i64 _ _ n rfl rfl rfl rfl (by rw [hz2]; omega) (by unfold maxLen; omega) (Nat.zero_le _) ?_)
  intro w1 hown hgrow
  have hs : w.heap.size < w1.heap.size := owns_lt hown _ rfl
  have HO := Lib.hid hown
  have HG := Lib.hid hgrow
  clear hown hgrow
  go_wp2
  go_ret2
  have hne : ¬ w1.heap.size = w.heap.size := by omega
  have hrow : (madeCells #[Value.int .i64 0] n).toList = ints (List.replicate n 0) := by
    rw [toList_madeCells_one]; simp [ints]
  refine ⟨w1.heap.size, rfl, by omega, ⟨[w1.heap.size, w.heap.size], ⟨w.heap.size, n, .slice none 0 0, .slice none 0 0, ?_, ?_, ?_, ?_, rfl, ?_⟩, ?_⟩, ?_⟩
  · simp only [List.length_replicate]; exact heap_new _ _
  · simp only [List.length_replicate]
    rw [← hrow]
    exact owns_of_heap HO.out fun k hk => by cases hk; exact heap_alloc_lt hs
  · exact World.ownsRow_nil _ _ _ _
  · exact World.ownsRow_nil _ _ _ _
  · simp [hne]
  · intro k hk
    simp only [List.mem_cons, List.not_mem_nil, or_false] at hk
    omega
  · exact ((Below.refl _ _).grown HG.out (Nat.le_refl _) (fun k hk => by cases hk)).alloc (by omega) _

theorem src_of_owns {w : World} {base e g cap n : Nat} {l : List Int} (h : w.ownsRow base e 1 (.slice (some ⟨g, 0, none⟩) n cap) n (ints l)) : Src w (some ⟨g, 0, none⟩) n cap 1 (ints l) := by
  have hcap := (owns_shape h).resolve_left (by rintro ⟨h, _⟩; cases h)
  obtain ⟨g', cap', hv, hle, hmx⟩ := hcap
  cases hv
  refine ⟨h.1, (fun e => by cases e), hle, hmx, ?_, ?_⟩
  · intro ad had j u hj
    cases had
    exact h.cells rfl j u hj
  · intro u hu
    obtain ⟨z, _, rfl⟩ := List.mem_map.1 hu
    rfl

end Go.Proofs.YtifjjcenmilohaaDoor
