/- What the slots hold of the readers among a region's operations, where other operations make memory. No program is walked here; no condition but those in each statement. -/
import Derived.Test.YtafdijcolponjaaDoorInv
namespace Go.Proofs.YtafdijcolponjaaDoor
open Go.RowKit

/-- The readers that have come up hold what they read; sl: an operation's slot. -/
def ToldS (rd : Nat → Bool) (sl : Nat → Nat) (V : Nat → Value) (listed : Array Bool) (x : Nat → Value) : Prop :=
  ∀ i, rd i = true → listed.getD i false = true → x (sl i) = V i
theorem ToldS.none {rd : Nat → Bool} {sl : Nat → Nat} {V : Nat → Value} {n : Nat} {x : Nat → Value} : ToldS rd sl V (Array.replicate n false) x := by
  intro i _ hi
  by_cases h : i < n
  · simp [h] at hi
  · simp [h] at hi
theorem ToldS.read {rd : Nat → Bool} {sl : Nat → Nat} {V : Nat → Value} {listed : Array Bool} {x : Nat → Value} (h : ToldS rd sl V listed x) (i : Nat) (inj : ∀ j, rd j = true → sl j = sl i → j = i) :
    ToldS rd sl V (listed.setIfInBounds i true) (fun j => if j = sl i then V i else x j) := by
  intro j hr hj
  show (if sl j = sl i then V i else x (sl j)) = V j
  by_cases e : sl j = sl i
  · rw [if_pos e, inj j hr e]
  · rw [if_neg e]
    have e2 : i ≠ j := fun h => e (by rw [h])
    rw [getD_set_ne false e2] at hj
    exact h j hr hj
theorem ToldS.skip {rd : Nat → Bool} {sl : Nat → Nat} {V : Nat → Value} {listed : Array Bool} {x : Nat → Value} (h : ToldS rd sl V listed x) (i : Nat) (hi : rd i = false) :
    ToldS rd sl V (listed.setIfInBounds i true) x := by
  intro j hr hj
  have e2 : i ≠ j := fun h => by subst h; rw [hi] at hr; cases hr
  rw [getD_set_ne false e2] at hj
  exact h j hr hj
theorem ToldS.write {rd : Nat → Bool} {sl : Nat → Nat} {V : Nat → Value} {listed : Array Bool} {x : Nat → Value} (h : ToldS rd sl V listed x) (i s : Nat) (v : Value) (hi : rd i = false) (hs : ∀ j, rd j = true → sl j ≠ s) :
    ToldS rd sl V (listed.setIfInBounds i true) (fun j => if j = s then v else x j) := by
  intro j hr hj
  show (if sl j = s then v else x (sl j)) = V j
  rw [if_neg (hs j hr)]
  exact h.skip i hi j hr hj
end Go.Proofs.YtafdijcolponjaaDoor
