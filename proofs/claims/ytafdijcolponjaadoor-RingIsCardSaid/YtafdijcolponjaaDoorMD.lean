/- The contract of graph.New. No condition but those in each statement. -/
import Derived.Test.YtafdijcolponjaaDoorMC
import Derived.Deep.AppendLies
import Derived.Deep.DeepFit
namespace Go.Proofs.YtafdijcolponjaaDoor
open Go.RowKit

def W8 : List Nat := [0, 0, 0, 0, 0, 0, 0, 0]
def newG (n : Nat) : GM := ⟨n, [], fun _ => W8, fun _ => W8⟩
theorem mem_W8 (j : Nat) : mem W8 j = false := by
  have h : W8.getD (j / 64) 0 = 0 := by
    rcases Nat.lt_or_ge (j / 64) 8 with g | g
    · generalize j / 64 = k at g
      rcases (by omega : k = 0 ∨ k = 1 ∨ k = 2 ∨ k = 3 ∨ k = 4 ∨ k = 5 ∨ k = 6 ∨ k = 7) with rfl | rfl | rfl | rfl | rfl | rfl | rfl | rfl <;> rfl
    · rw [List.getD_eq_getElem?_getD, List.getElem?_eq_none (by simpa [W8] using g)]; rfl
  unfold mem; rw [h]; simp
theorem newG_ok (n : Nat) (h : n ≤ 500) : (newG n).ok := by
  refine ⟨h, ?_, ?_, ?_, ?_⟩
  · intro e he; cases he
  · exact List.nodup_nil
  · intro i _ j; show mem W8 j = _; rw [mem_W8]; simp [newG]
  · intro i _ j; show mem W8 j = _; rw [mem_W8]; simp [newG]

/-- Stages of the round: how many of its operations that make or write memory have come up. -/
def nstage : Bool → Bool → Bool → Bool → Bool → Bool → Bool → Bool → Nat
  | _, _, _, _, _, _, _, true => 8
  | _, _, _, _, _, _, true, _ => 7
  | _, _, _, _, _, true, _, _ => 6
  | _, _, _, _, true, _, _, _ => 5
  | _, _, _, true, _, _, _, _ => 4
  | _, _, true, _, _, _, _, _ => 3
  | _, true, _, _, _, _, _, _ => 2
  | true, _, _, _, _, _, _, _ => 1
  | _, _, _, _, _, _, _, _ => 0
def nst (l : Array Bool) : Nat := nstage (l.getD 6 false) (l.getD 7 false) (l.getD 8 false) (l.getD 13 false) (l.getD 14 false) (l.getD 15 false) (l.getD 18 false) (l.getD 21 false)
def nrd (i : Nat) : Bool := [0, 1, 2, 3, 4, 5, 9, 10, 11, 12, 16, 17, 19, 20].contains i
def nsl (i : Nat) : Nat := if i ≤ 17 then i else i - 1
theorem nrd_lt {i : Nat} (h : nrd i = true) : i < 22 := by
  have := List.contains_iff_mem.1 h
  simp only [List.mem_cons, List.not_mem_nil, or_false] at this
  omega
theorem nsl_inj : ∀ i, i < 22 → nrd i = true → ∀ j, j < 22 → nrd j = true → nsl j = nsl i → j = i := by decide
theorem nsl_wr : ∀ s, s < 16 → nrd s = false → ∀ j, j < 22 → nrd j = true → nsl j ≠ s := by decide
def nV (b : Nat) (vt vf : Value) (i : Nat) : Value :=
  ([.pointer (some ⟨b, 0, none⟩), .pointer (some ⟨b, 0, none⟩), .pointer (some ⟨b, 0, none⟩), .pointer (some ⟨b, 0, none⟩), .pointer (some ⟨b, 0, none⟩), vt, .bool false, .bool false, .bool false, .pointer (some ⟨b, 0, none⟩), .pointer (some ⟨b, 0, none⟩), .pointer (some ⟨b, 1, none⟩), vf, .bool false, .bool false, .bool false, .pointer (some ⟨b, 0, none⟩), .pointer (some ⟨b, 0, none⟩), .bool false, .pointer (some ⟨b, 0, none⟩), .pointer (some ⟨b, 1, none⟩), .bool false] : List Value).getD i undef

/-- A set that is new, and one behind it. -/
structure NAt (wr w : World) (F : List Nat) (p : Nat) : Prop where
  lo : wr.heap.size ≤ p
  at_ : SetAt w p W8
/-- The world at each stage. x: what the operations gave. -/
def NW (wr : World) (b k : Nat) (vt vf vl : Value) (F ts fs : List Nat) (x6 x7 x8 x13 x14 x15 : Value) : Nat → World → Prop
  | 0, w => Same wr w
  | 1, w => ∃ p, x6 = .pointer (some ⟨p, 0, none⟩) ∧ wr.heap.size ≤ p ∧ SetAt w p W8 ∧ Chg (fun _ => False) wr w
  | 2, w => ∃ p c, x6 = .pointer (some ⟨p, 0, none⟩) ∧ x7 = .slice (some ⟨c, 0, none⟩) 1 1 ∧ wr.heap.size ≤ p ∧ SetAt w p W8 ∧ Chg (fun _ => False) wr w ∧
      c ≠ p ∧ wr.heap.size ≤ c ∧ w.heap[c]? = some (.cells #[.pointer (some ⟨p, 0, none⟩)] 24 (0, 0))
  | 3, w => ∃ p g c, x8 = .slice (some ⟨g, 0, none⟩) (k + 1) c ∧ wr.heap.size ≤ p ∧ SetAt w p W8 ∧ Chg (fun q => vt.ownBlock = some q) wr w ∧
      w.ownsRow 0 24 1 (.slice (some ⟨g, 0, none⟩) (k + 1) c) (k + 1) (ptrs (ts ++ [p])) ∧ (vt.ownBlock = some g ∨ wr.heap.size ≤ g) ∧ g ≠ p
  | 4, w => ∃ p g c q, x8 = .slice (some ⟨g, 0, none⟩) (k + 1) c ∧ wr.heap.size ≤ p ∧ SetAt w p W8 ∧ Chg (fun q => vt.ownBlock = some q) wr w ∧
      w.ownsRow 0 24 1 (.slice (some ⟨g, 0, none⟩) (k + 1) c) (k + 1) (ptrs (ts ++ [p])) ∧ (vt.ownBlock = some g ∨ wr.heap.size ≤ g) ∧ g ≠ p ∧
      x13 = .pointer (some ⟨q, 0, none⟩) ∧ wr.heap.size ≤ q ∧ SetAt w q W8 ∧ q ≠ p ∧ q ≠ g
  | 5, w => ∃ p g c q d, x8 = .slice (some ⟨g, 0, none⟩) (k + 1) c ∧ wr.heap.size ≤ p ∧ SetAt w p W8 ∧ Chg (fun q => vt.ownBlock = some q) wr w ∧
      w.ownsRow 0 24 1 (.slice (some ⟨g, 0, none⟩) (k + 1) c) (k + 1) (ptrs (ts ++ [p])) ∧ (vt.ownBlock = some g ∨ wr.heap.size ≤ g) ∧ g ≠ p ∧
      x13 = .pointer (some ⟨q, 0, none⟩) ∧ wr.heap.size ≤ q ∧ SetAt w q W8 ∧ q ≠ p ∧ q ≠ g ∧
      x14 = .slice (some ⟨d, 0, none⟩) 1 1 ∧ d ≠ p ∧ d ≠ q ∧ d ≠ g ∧ wr.heap.size ≤ d ∧ w.heap[d]? = some (.cells #[.pointer (some ⟨q, 0, none⟩)] 24 (0, 0))
  | 6, w => ∃ p g c q h e, x8 = .slice (some ⟨g, 0, none⟩) (k + 1) c ∧ x15 = .slice (some ⟨h, 0, none⟩) (k + 1) e ∧ wr.heap.size ≤ p ∧ SetAt w p W8 ∧ Chg (fun q => vt.ownBlock = some q ∨ vf.ownBlock = some q) wr w ∧
      w.ownsRow 0 24 1 (.slice (some ⟨g, 0, none⟩) (k + 1) c) (k + 1) (ptrs (ts ++ [p])) ∧ (vt.ownBlock = some g ∨ wr.heap.size ≤ g) ∧ g ≠ p ∧
      wr.heap.size ≤ q ∧ SetAt w q W8 ∧ q ≠ p ∧ q ≠ g ∧
      w.ownsRow 0 24 1 (.slice (some ⟨h, 0, none⟩) (k + 1) e) (k + 1) (ptrs (fs ++ [q])) ∧ (vf.ownBlock = some h ∨ wr.heap.size ≤ h) ∧ h ≠ p ∧ h ≠ q ∧ h ≠ g
  | 7, w => ∃ p g c q h e, x15 = .slice (some ⟨h, 0, none⟩) (k + 1) e ∧ wr.heap.size ≤ p ∧ SetAt w p W8 ∧ Chg (fun q => vt.ownBlock = some q ∨ vf.ownBlock = some q ∨ q = b) wr w ∧
      w.ownsRow 0 24 1 (.slice (some ⟨g, 0, none⟩) (k + 1) c) (k + 1) (ptrs (ts ++ [p])) ∧ (vt.ownBlock = some g ∨ wr.heap.size ≤ g) ∧ g ≠ p ∧
      wr.heap.size ≤ q ∧ SetAt w q W8 ∧ q ≠ p ∧ q ≠ g ∧
      w.ownsRow 0 24 1 (.slice (some ⟨h, 0, none⟩) (k + 1) e) (k + 1) (ptrs (fs ++ [q])) ∧ (vf.ownBlock = some h ∨ wr.heap.size ≤ h) ∧ h ≠ p ∧ h ≠ q ∧ h ≠ g ∧
      w.heap[b]? = some (.cells #[.slice (some ⟨g, 0, none⟩) (k + 1) c, vf, vl, .bool true] 77 (0, 0))
  | _, w => ∃ F', GraphAt w b F' (newG (k + 1)) ∧ Chg (fun q => vt.ownBlock = some q ∨ vf.ownBlock = some q ∨ q = b) wr w ∧ ∀ q ∈ F', q ∈ F ∨ wr.heap.size ≤ q

def NInv (wr : World) (b k : Nat) (vt vf vl : Value) (F ts fs : List Nat) (base : Act) (listed : Array Bool) (a : Act) (w : World) : Prop :=
  ∃ x : Nat → Value, a = ⟨fill base.tmps 16 x 20, base.defers⟩ ∧ ToldS nrd nsl (nV b vt vf) listed x ∧ NW wr b k vt vf vl F ts fs (x 6) (x 7) (x 8) (x 13) (x 14) (x 15) (nst listed) w

theorem nst_read {l : Array Bool} {i : Nat} (h : i ≠ 6 ∧ i ≠ 7 ∧ i ≠ 8 ∧ i ≠ 13 ∧ i ≠ 14 ∧ i ≠ 15 ∧ i ≠ 18 ∧ i ≠ 21) : nst (l.setIfInBounds i true) = nst l := by
  unfold nst
  rw [getD_set_ne false h.1, getD_set_ne false h.2.1, getD_set_ne false h.2.2.1, getD_set_ne false h.2.2.2.1, getD_set_ne false h.2.2.2.2.1, getD_set_ne false h.2.2.2.2.2.1, getD_set_ne false h.2.2.2.2.2.2.1, getD_set_ne false h.2.2.2.2.2.2.2]

/-- Ahead of the stores the graph's block is as it was. -/
theorem NW.block {wr w : World} {b k : Nat} {vt vf vl : Value} {F ts fs : List Nat} {x6 x7 x8 x13 x14 x15 : Value} {s : Nat} (hs : s ≤ 6) (hb : b < wr.heap.size) (hbt : vt.ownBlock ≠ some b) (hbf : vf.ownBlock ≠ some b)
    (h : NW wr b k vt vf vl F ts fs x6 x7 x8 x13 x14 x15 s w) : w.heap[b]? = wr.heap[b]? := by
  match s, hs, h with
  | 0, _, h => exact h.at b
  | 1, _, h => obtain ⟨p, -, -, -, h⟩ := h; exact h.block b hb (fun h => h)
  | 2, _, h => obtain ⟨p, c, -, -, -, -, h, -⟩ := h; exact h.block b hb (fun h => h)
  | 3, _, h => obtain ⟨p, g, c, -, -, -, h, -⟩ := h; exact h.block b hb (fun h => hbt h)
  | 4, _, h => obtain ⟨p, g, c, q, -, -, -, h, -⟩ := h; exact h.block b hb (fun h => hbt h)
  | 5, _, h => obtain ⟨p, g, c, q, d, -, -, -, h, -⟩ := h; exact h.block b hb (fun h => hbt h)
  | 6, _, h => obtain ⟨p, g, c, q, h', e, -, -, -, -, h, -⟩ := h; exact h.block b hb (fun h => h.elim hbt hbf)

def nch (b6 b7 b8 b13 b14 b15 b18 b21 : Bool) : Bool := (!b21 || b18) && (!b18 || b15) && (!b15 || b14) && (!b14 || b13) && (!b13 || b8) && (!b8 || b7) && (!b7 || b6)
def NChain (l : Array Bool) : Prop := nch (l.getD 6 false) (l.getD 7 false) (l.getD 8 false) (l.getD 13 false) (l.getD 14 false) (l.getD 15 false) (l.getD 18 false) (l.getD 21 false) = true
theorem nch_of {l : Array Bool} (h1 : l.getD 21 false = true → l.getD 18 false = true) (h2 : l.getD 18 false = true → l.getD 15 false = true) (h3 : l.getD 15 false = true → l.getD 14 false = true) (h4 : l.getD 14 false = true → l.getD 13 false = true)
    (h5 : l.getD 13 false = true → l.getD 8 false = true) (h6 : l.getD 8 false = true → l.getD 7 false = true) (h7 : l.getD 7 false = true → l.getD 6 false = true) : NChain l := by
  have key : ∀ a b : Bool, (a = true → b = true) → (!a || b) = true := by decide
  unfold NChain nch
  rw [key _ _ h1, key _ _ h2, key _ _ h3, key _ _ h4, key _ _ h5, key _ _ h6, key _ _ h7]; rfl
theorem nst_le {l : Array Bool} (h18 : ¬ l.getD 18 false = true) (h21 : ¬ l.getD 21 false = true) : nst l ≤ 6 := by
  unfold nst
  generalize l.getD 18 false = b18 at *
  generalize l.getD 21 false = b21 at *
  generalize l.getD 6 false = b6; generalize l.getD 7 false = b7; generalize l.getD 8 false = b8; generalize l.getD 13 false = b13; generalize l.getD 14 false = b14; generalize l.getD 15 false = b15
  revert b6 b7 b8 b13 b14 b15 b18 b21
  decide +kernel
theorem nst_all {l : Array Bool} (h21 : l.getD 21 false = true) : nst l = 8 := by
  unfold nst
  rw [h21]
  generalize l.getD 6 false = b6; generalize l.getD 7 false = b7; generalize l.getD 8 false = b8; generalize l.getD 13 false = b13; generalize l.getD 14 false = b14; generalize l.getD 15 false = b15; generalize l.getD 18 false = b18
  revert b6 b7 b8 b13 b14 b15 b18
  decide +kernel
theorem nst6 {l : Array Bool} (c : NChain l) (hl : l.getD 6 true = false) : nst l = 0 ∧ nst (l.setIfInBounds 6 true) = 1 := by
  have h := fresh_no hl
  unfold nst NChain at *
  rw [fresh_set hl, getD_set_ne false (show (6 : Nat) ≠ 7 by decide), getD_set_ne false (show (6 : Nat) ≠ 8 by decide), getD_set_ne false (show (6 : Nat) ≠ 13 by decide), getD_set_ne false (show (6 : Nat) ≠ 14 by decide), getD_set_ne false (show (6 : Nat) ≠ 15 by decide), getD_set_ne false (show (6 : Nat) ≠ 18 by decide), getD_set_ne false (show (6 : Nat) ≠ 21 by decide)]
  clear hl
  generalize l.getD 6 false = b6 at *
  generalize l.getD 7 false = b7 at *
  generalize l.getD 8 false = b8 at *
  generalize l.getD 13 false = b13 at *
  generalize l.getD 14 false = b14 at *
  generalize l.getD 15 false = b15 at *
  generalize l.getD 18 false = b18 at *
  generalize l.getD 21 false = b21 at *
  have h : b6 = false := by cases b6 with | false => rfl | true => exact absurd rfl h
  have key : ∀ b6 b7 b8 b13 b14 b15 b18 b21 : Bool, nch b6 b7 b8 b13 b14 b15 b18 b21 = true → b6 = false → nstage b6 b7 b8 b13 b14 b15 b18 b21 = 0 ∧ nstage true b7 b8 b13 b14 b15 b18 b21 = 1 := by decide +kernel
  exact key b6 b7 b8 b13 b14 b15 b18 b21 c h
theorem nst7 {l : Array Bool} (c : NChain l) (hp : l.getD 6 false = true) (hl : l.getD 7 true = false) : nst l = 1 ∧ nst (l.setIfInBounds 7 true) = 2 := by
  have h := fresh_no hl
  unfold nst NChain at *
  rw [fresh_set hl, getD_set_ne false (show (7 : Nat) ≠ 6 by decide), getD_set_ne false (show (7 : Nat) ≠ 8 by decide), getD_set_ne false (show (7 : Nat) ≠ 13 by decide), getD_set_ne false (show (7 : Nat) ≠ 14 by decide), getD_set_ne false (show (7 : Nat) ≠ 15 by decide), getD_set_ne false (show (7 : Nat) ≠ 18 by decide), getD_set_ne false (show (7 : Nat) ≠ 21 by decide)]
  clear hl
  generalize l.getD 6 false = b6 at *
  generalize l.getD 7 false = b7 at *
  generalize l.getD 8 false = b8 at *
  generalize l.getD 13 false = b13 at *
  generalize l.getD 14 false = b14 at *
  generalize l.getD 15 false = b15 at *
  generalize l.getD 18 false = b18 at *
  generalize l.getD 21 false = b21 at *
  have h : b7 = false := by cases b7 with | false => rfl | true => exact absurd rfl h
  have key : ∀ b6 b7 b8 b13 b14 b15 b18 b21 : Bool, nch b6 b7 b8 b13 b14 b15 b18 b21 = true → b6 = true → b7 = false → nstage b6 b7 b8 b13 b14 b15 b18 b21 = 1 ∧ nstage b6 true b8 b13 b14 b15 b18 b21 = 2 := by decide +kernel
  exact key b6 b7 b8 b13 b14 b15 b18 b21 c hp h
theorem nst8 {l : Array Bool} (c : NChain l) (hp : l.getD 7 false = true) (hl : l.getD 8 true = false) : nst l = 2 ∧ nst (l.setIfInBounds 8 true) = 3 := by
  have h := fresh_no hl
  unfold nst NChain at *
  rw [fresh_set hl, getD_set_ne false (show (8 : Nat) ≠ 6 by decide), getD_set_ne false (show (8 : Nat) ≠ 7 by decide), getD_set_ne false (show (8 : Nat) ≠ 13 by decide), getD_set_ne false (show (8 : Nat) ≠ 14 by decide), getD_set_ne false (show (8 : Nat) ≠ 15 by decide), getD_set_ne false (show (8 : Nat) ≠ 18 by decide), getD_set_ne false (show (8 : Nat) ≠ 21 by decide)]
  clear hl
  generalize l.getD 6 false = b6 at *
  generalize l.getD 7 false = b7 at *
  generalize l.getD 8 false = b8 at *
  generalize l.getD 13 false = b13 at *
  generalize l.getD 14 false = b14 at *
  generalize l.getD 15 false = b15 at *
  generalize l.getD 18 false = b18 at *
  generalize l.getD 21 false = b21 at *
  have h : b8 = false := by cases b8 with | false => rfl | true => exact absurd rfl h
  have key : ∀ b6 b7 b8 b13 b14 b15 b18 b21 : Bool, nch b6 b7 b8 b13 b14 b15 b18 b21 = true → b7 = true → b8 = false → nstage b6 b7 b8 b13 b14 b15 b18 b21 = 2 ∧ nstage b6 b7 true b13 b14 b15 b18 b21 = 3 := by decide +kernel
  exact key b6 b7 b8 b13 b14 b15 b18 b21 c hp h
theorem nst13 {l : Array Bool} (c : NChain l) (hp : l.getD 8 false = true) (hl : l.getD 13 true = false) : nst l = 3 ∧ nst (l.setIfInBounds 13 true) = 4 := by
  have h := fresh_no hl
  unfold nst NChain at *
  rw [fresh_set hl, getD_set_ne false (show (13 : Nat) ≠ 6 by decide), getD_set_ne false (show (13 : Nat) ≠ 7 by decide), getD_set_ne false (show (13 : Nat) ≠ 8 by decide), getD_set_ne false (show (13 : Nat) ≠ 14 by decide), getD_set_ne false (show (13 : Nat) ≠ 15 by decide), getD_set_ne false (show (13 : Nat) ≠ 18 by decide), getD_set_ne false (show (13 : Nat) ≠ 21 by decide)]
  clear hl
  generalize l.getD 6 false = b6 at *
  generalize l.getD 7 false = b7 at *
  generalize l.getD 8 false = b8 at *
  generalize l.getD 13 false = b13 at *
  generalize l.getD 14 false = b14 at *
  generalize l.getD 15 false = b15 at *
  generalize l.getD 18 false = b18 at *
  generalize l.getD 21 false = b21 at *
  have h : b13 = false := by cases b13 with | false => rfl | true => exact absurd rfl h
  have key : ∀ b6 b7 b8 b13 b14 b15 b18 b21 : Bool, nch b6 b7 b8 b13 b14 b15 b18 b21 = true → b8 = true → b13 = false → nstage b6 b7 b8 b13 b14 b15 b18 b21 = 3 ∧ nstage b6 b7 b8 true b14 b15 b18 b21 = 4 := by decide +kernel
  exact key b6 b7 b8 b13 b14 b15 b18 b21 c hp h
theorem nst14 {l : Array Bool} (c : NChain l) (hp : l.getD 13 false = true) (hl : l.getD 14 true = false) : nst l = 4 ∧ nst (l.setIfInBounds 14 true) = 5 := by
  have h := fresh_no hl
  unfold nst NChain at *
  rw [fresh_set hl, getD_set_ne false (show (14 : Nat) ≠ 6 by decide), getD_set_ne false (show (14 : Nat) ≠ 7 by decide), getD_set_ne false (show (14 : Nat) ≠ 8 by decide), getD_set_ne false (show (14 : Nat) ≠ 13 by decide), getD_set_ne false (show (14 : Nat) ≠ 15 by decide), getD_set_ne false (show (14 : Nat) ≠ 18 by decide), getD_set_ne false (show (14 : Nat) ≠ 21 by decide)]
  clear hl
  generalize l.getD 6 false = b6 at *
  generalize l.getD 7 false = b7 at *
  generalize l.getD 8 false = b8 at *
  generalize l.getD 13 false = b13 at *
  generalize l.getD 14 false = b14 at *
  generalize l.getD 15 false = b15 at *
  generalize l.getD 18 false = b18 at *
  generalize l.getD 21 false = b21 at *
  have h : b14 = false := by cases b14 with | false => rfl | true => exact absurd rfl h
  have key : ∀ b6 b7 b8 b13 b14 b15 b18 b21 : Bool, nch b6 b7 b8 b13 b14 b15 b18 b21 = true → b13 = true → b14 = false → nstage b6 b7 b8 b13 b14 b15 b18 b21 = 4 ∧ nstage b6 b7 b8 b13 true b15 b18 b21 = 5 := by decide +kernel
  exact key b6 b7 b8 b13 b14 b15 b18 b21 c hp h
theorem nst15 {l : Array Bool} (c : NChain l) (hp : l.getD 14 false = true) (hl : l.getD 15 true = false) : nst l = 5 ∧ nst (l.setIfInBounds 15 true) = 6 := by
  have h := fresh_no hl
  unfold nst NChain at *
  rw [fresh_set hl, getD_set_ne false (show (15 : Nat) ≠ 6 by decide), getD_set_ne false (show (15 : Nat) ≠ 7 by decide), getD_set_ne false (show (15 : Nat) ≠ 8 by decide), getD_set_ne false (show (15 : Nat) ≠ 13 by decide), getD_set_ne false (show (15 : Nat) ≠ 14 by decide), getD_set_ne false (show (15 : Nat) ≠ 18 by decide), getD_set_ne false (show (15 : Nat) ≠ 21 by decide)]
  clear hl
  generalize l.getD 6 false = b6 at *
  generalize l.getD 7 false = b7 at *
  generalize l.getD 8 false = b8 at *
  generalize l.getD 13 false = b13 at *
  generalize l.getD 14 false = b14 at *
  generalize l.getD 15 false = b15 at *
  generalize l.getD 18 false = b18 at *
  generalize l.getD 21 false = b21 at *
  have h : b15 = false := by cases b15 with | false => rfl | true => exact absurd rfl h
  have key : ∀ b6 b7 b8 b13 b14 b15 b18 b21 : Bool, nch b6 b7 b8 b13 b14 b15 b18 b21 = true → b14 = true → b15 = false → nstage b6 b7 b8 b13 b14 b15 b18 b21 = 5 ∧ nstage b6 b7 b8 b13 b14 true b18 b21 = 6 := by decide +kernel
  exact key b6 b7 b8 b13 b14 b15 b18 b21 c hp h
theorem nst18 {l : Array Bool} (c : NChain l) (hp : l.getD 15 false = true) (hl : l.getD 18 true = false) : nst l = 6 ∧ nst (l.setIfInBounds 18 true) = 7 := by
  have h := fresh_no hl
  unfold nst NChain at *
  rw [fresh_set hl, getD_set_ne false (show (18 : Nat) ≠ 6 by decide), getD_set_ne false (show (18 : Nat) ≠ 7 by decide), getD_set_ne false (show (18 : Nat) ≠ 8 by decide), getD_set_ne false (show (18 : Nat) ≠ 13 by decide), getD_set_ne false (show (18 : Nat) ≠ 14 by decide), getD_set_ne false (show (18 : Nat) ≠ 15 by decide), getD_set_ne false (show (18 : Nat) ≠ 21 by decide)]
  clear hl
  generalize l.getD 6 false = b6 at *
  generalize l.getD 7 false = b7 at *
  generalize l.getD 8 false = b8 at *
  generalize l.getD 13 false = b13 at *
  generalize l.getD 14 false = b14 at *
  generalize l.getD 15 false = b15 at *
  generalize l.getD 18 false = b18 at *
  generalize l.getD 21 false = b21 at *
  have h : b18 = false := by cases b18 with | false => rfl | true => exact absurd rfl h
  have key : ∀ b6 b7 b8 b13 b14 b15 b18 b21 : Bool, nch b6 b7 b8 b13 b14 b15 b18 b21 = true → b15 = true → b18 = false → nstage b6 b7 b8 b13 b14 b15 b18 b21 = 6 ∧ nstage b6 b7 b8 b13 b14 b15 true b21 = 7 := by decide +kernel
  exact key b6 b7 b8 b13 b14 b15 b18 b21 c hp h
theorem nst21 {l : Array Bool} (c : NChain l) (hp : l.getD 18 false = true) (hl : l.getD 21 true = false) : nst l = 7 ∧ nst (l.setIfInBounds 21 true) = 8 := by
  have h := fresh_no hl
  unfold nst NChain at *
  rw [fresh_set hl, getD_set_ne false (show (21 : Nat) ≠ 6 by decide), getD_set_ne false (show (21 : Nat) ≠ 7 by decide), getD_set_ne false (show (21 : Nat) ≠ 8 by decide), getD_set_ne false (show (21 : Nat) ≠ 13 by decide), getD_set_ne false (show (21 : Nat) ≠ 14 by decide), getD_set_ne false (show (21 : Nat) ≠ 15 by decide), getD_set_ne false (show (21 : Nat) ≠ 18 by decide)]
  clear hl
  generalize l.getD 6 false = b6 at *
  generalize l.getD 7 false = b7 at *
  generalize l.getD 8 false = b8 at *
  generalize l.getD 13 false = b13 at *
  generalize l.getD 14 false = b14 at *
  generalize l.getD 15 false = b15 at *
  generalize l.getD 18 false = b18 at *
  generalize l.getD 21 false = b21 at *
  have h : b21 = false := by cases b21 with | false => rfl | true => exact absurd rfl h
  have key : ∀ b6 b7 b8 b13 b14 b15 b18 b21 : Bool, nch b6 b7 b8 b13 b14 b15 b18 b21 = true → b18 = true → b21 = false → nstage b6 b7 b8 b13 b14 b15 b18 b21 = 7 ∧ nstage b6 b7 b8 b13 b14 b15 b18 true = 8 := by decide +kernel
  exact key b6 b7 b8 b13 b14 b15 b18 b21 c hp h
theorem nodup_turn {A X B : List Nat} {g : Nat} (hN : (A ++ X ++ B).Nodup) (hg : g ∈ X ∨ (g ∉ A ∧ g ∉ B)) : (A ++ [g] ++ B).Nodup := by
  simp only [List.nodup_append, List.mem_append, List.mem_singleton] at hN ⊢
  obtain ⟨⟨hA, -, hAX⟩, hB, hAB⟩ := hN
  refine ⟨⟨hA, by simp, ?_⟩, hB, ?_⟩
  · rintro a ha c rfl e
    subst e
    rcases hg with hg | hg
    · exact hAX a ha a hg rfl
    · exact hg.1 ha
  · rintro a (ha | rfl) c hc e
    · exact hAB a (.inl ha) c hc e
    · subst e
      rcases hg with hg | hg
      · exact hAB a (.inr hg) a hc rfl
      · exact hg.2 hc
theorem nodup_put {A B : List Nat} {p : Nat} (hN : (A ++ B).Nodup) (hA : p ∉ A) (hB : p ∉ B) : (A ++ [p] ++ B).Nodup :=
  nodup_turn (X := []) (by simpa using hN) (.inr ⟨hA, hB⟩)
theorem nodup_round {b g h p q H : Nat} {X Y Z T U : List Nat} (hN : (b :: (X ++ Y ++ Z ++ T ++ U)).Nodup) (hlt : ∀ k ∈ b :: (X ++ Y ++ Z ++ T ++ U), k < H)
    (hg : g ∈ X ∨ H ≤ g) (hh : h ∈ Y ∨ H ≤ h) (hp : H ≤ p) (hq : H ≤ q) (hgp : g ≠ p) (hqp : q ≠ p) (hqg : q ≠ g) (hhp : h ≠ p) (hhq : h ≠ q) (hhg : h ≠ g) :
    (b :: ([g] ++ [h] ++ Z ++ (T ++ [p]) ++ (U ++ [q]))).Nodup := by
  have l1 : ∀ k ∈ [b] ++ (Y ++ Z ++ T ++ U), k < H := fun k hk => hlt k (by simp at hk ⊢; rcases hk with h | h | h | h | h <;> simp [h])
  have l2 : ∀ k ∈ [b] ++ (Z ++ T ++ U), k < H := fun k hk => hlt k (by simp at hk ⊢; rcases hk with h | h | h | h <;> simp [h])
  have l3 : ∀ k ∈ [b] ++ Z ++ T, k < H := fun k hk => hlt k (by simp at hk ⊢; rcases hk with h | h | h <;> simp [h])
  have l4 : ∀ k ∈ U, k < H := fun k hk => hlt k (by simp [hk])
  have n1 : ([b] ++ [g] ++ (Y ++ Z ++ T ++ U)).Nodup := nodup_turn (X := X) (by simpa [List.append_assoc] using hN) (by
    rcases hg with hg | hg
    · exact .inl hg
    · exact .inr ⟨fun h => by have := l1 g (List.mem_append_left _ h); omega, fun h => by have := l1 g (List.mem_append_right _ h); omega⟩)
  have n2 : ([b, g] ++ [h] ++ (Z ++ T ++ U)).Nodup := nodup_turn (X := Y) (by simpa [List.append_assoc] using n1) (by
    rcases hh with hh | hh
    · exact .inl hh
    · refine .inr ⟨fun h' => ?_, fun h' => by have := l2 h (List.mem_append_right _ h'); omega⟩
      simp only [List.mem_cons, List.not_mem_nil, or_false] at h'
      rcases h' with h' | h'
      · have := l2 h (by simp [h']); omega
      · exact hhg h')
  have n3 : (([b, g, h] ++ Z ++ T) ++ [p] ++ U).Nodup := nodup_put (by simpa [List.append_assoc] using n2) (fun h' => by
      simp only [List.mem_append, List.mem_cons, List.not_mem_nil, or_false] at h'
      rcases h' with ((h' | h' | h') | h') | h'
      · have := l3 p (by simp [h']); omega
      · exact hgp h'.symm
      · exact hhp h'.symm
      · have := l3 p (by simp [h']); omega
      · have := l3 p (by simp [h']); omega) (fun h' => by have := l4 p h'; omega)
  have n4 : (([b, g, h] ++ Z ++ T ++ [p] ++ U) ++ [q] ++ []).Nodup := nodup_put (by simpa [List.append_assoc] using n3) (fun h' => by
      simp only [List.mem_append, List.mem_cons, List.not_mem_nil, or_false] at h'
      rcases h' with (((((h' | h' | h') | h') | h') | h')) | h'
      · have := l3 q (by simp [h']); omega
      · exact hqg h'
      · exact hhq h'.symm
      · have := l3 q (by simp [h']); omega
      · have := l3 q (by simp [h']); omega
      · exact hqp h'
      · have := l4 q h'; omega) (by simp)
  simpa [List.append_assoc] using n4
theorem src_none (w : World) : Src w none 0 0 1 (intl []) := by
  refine ⟨rfl, fun _ => ⟨rfl, rfl⟩, by omega, by unfold maxLen; omega, ?_, ?_⟩
  · intro x h; cases h
  · intro v h; simp [intl] at h
theorem ptr_one (p : Nat) : ∀ u ∈ [Value.pointer (some ⟨p, 0, none⟩)], u.oneCell' = true := by
  intro u hu
  simp at hu
  subst hu; rfl

theorem infoPtr : (Tryd.prog.info? 24).map (fun i => (i.zero, i.size, i.bytes)) = some (some (.pointer none), 1, 8) := by kernel_rfl

def GNewRel (w : World) (n : Nat) (i : Value) (wr : World) : Prop :=
  ∃ (k : Nat) (F : List Nat), k ≤ n ∧ i = .int .i64 k ∧ GraphAt wr w.heap.size F (newG k) ∧ (∀ q ∈ F, w.heap.size ≤ q) ∧ Below w.heap.size w wr
/-- A new graph, all of whose blocks are new. -/
def GNewEnds (G : GM) (w : World) (e : Ending) (w' : World) : Prop :=
  e = .returned (.tuple #[.pointer (some ⟨w.heap.size, 0, none⟩), .int .i64 0]) ∧ ∃ F, GraphAt w' w.heap.size F G ∧ (∀ q ∈ F, w.heap.size ≤ q) ∧ Below w.heap.size w w'

theorem gnew_no (n : Int) (w : World) (hn : n < 0 ∨ 500 < n) :
    Calls Tryd.prog 40 #[.int .i64 n] w fun e w' => e = .returned (.tuple #[.pointer none, .int .i64 2]) ∧ w = w' := by
  by_cases h0 : n < 0
  · clear hn
    go_enter Tryd.func40, Tryd.ntmps40
    go_wp2_with fail
    go_ret2
    exact ⟨rfl, rfl⟩
  · have h1 : 500 < n := by omega
    clear hn
    go_enter Tryd.func40, Tryd.ntmps40
    go_wp2_with fail
    go_ret2
    exact ⟨rfl, rfl⟩

set_option maxRecDepth 20000 in
set_option maxHeartbeats 4000000 in
theorem gnew_yes (n : Nat) (w : World) (hn : n ≤ 500) :
    Calls Tryd.prog 40 #[.int .i64 n] w (GNewEnds (newG n) w) := by
  have hn1 : (n : Int) ≤ 500 := by omega
  have hn0 : (0 : Int) ≤ (n : Int) := by omega
  go_enter Tryd.func40, Tryd.ntmps40
  go_wp2_with fail
  go_loopw [14] (fun i wr => GNewRel w n i wr) (fun i _ => n - (intOf i).toNat)
  case atStart =>
    refine ⟨0, [w.heap.size], Nat.zero_le _, rfl, ⟨_, _, _, [], [], heap_new _ _, ⟨rfl, .inl ⟨rfl, rfl⟩⟩, ⟨rfl, .inl ⟨rfl, rfl⟩⟩, ⟨rfl, .inl ⟨rfl, rfl⟩⟩, rfl, rfl, ?_, ?_, newG_ok 0 (by omega), rfl, by simp⟩, by simp, (Below.refl _ _).alloc (Nat.le_refl _) _⟩
    · intro i hi; exact absurd hi (Nat.not_lt_zero i)
    · intro i hi; exact absurd hi (Nat.not_lt_zero i)
  case round =>
    obtain ⟨k, F, hk, rfl, hG, hlo, hB⟩ := hrel
    by_cases hlt : k < n
    · obtain ⟨b, hb⟩ : ∃ b, b = w.heap.size := ⟨_, rfl⟩
      rw [← hb] at hG hlo ⊢
      have HBe := Lib.hid hb
      clear hb
      have hFlt := graph_lt hG
      obtain ⟨vt, vf, vl, ts, fs, h1, ht, hf, hl, hts, hfs, hT, hR, hok, hF, hN⟩ := hG
      have hbw := lt_of_block h1
      have hN2 := hN
      rw [hF] at hN2
      simp only [List.nodup_cons, List.nodup_append, List.mem_append, not_or] at hN2
      obtain ⟨⟨⟨⟨⟨hbt, hbf⟩, hbl⟩, hbts⟩, hbfs⟩, ⟨⟨⟨⟨-, -, htf⟩, -, htl⟩, hnt, hts'⟩, hnf, hfs'⟩⟩ := hN2
      have hbt' : vt.ownBlock ≠ some b := fun h => hbt (mem_ownL.2 h)
      have hbf' : vf.ownBlock ≠ some b := fun h => hbf (mem_ownL.2 h)
      have hvtf : ∀ q, vt.ownBlock = some q → vf.ownBlock ≠ some q := fun q h h' => htf q (mem_ownL.2 h) q (mem_ownL.2 h') rfl
      have hvl : ∀ q, vl.ownBlock = some q → vt.ownBlock ≠ some q ∧ vf.ownBlock ≠ some q := fun q h => ⟨fun h' => htl q (.inl (mem_ownL.2 h')) q (mem_ownL.2 h) rfl, fun h' => htl q (.inr (mem_ownL.2 h')) q (mem_ownL.2 h) rfl⟩
      have hvt : ∀ q, vt.ownBlock = some q → q < wr.heap.size := owns_lt ht
      have hvf : ∀ q, vf.ownBlock = some q → q < wr.heap.size := owns_lt hf
      have H1 := Lib.hid h1
      have HOL := Lib.hid hl
      have HFlt := Lib.hid hFlt
      have HBL := Lib.hid hbl
      have HOT := Lib.hid ht
      have HOF := Lib.hid hf
      have HF := Lib.hid hF
      have HN := Lib.hid hN
      have HSt := Lib.hid hT
      have HSf := Lib.hid hR
      have HB := Lib.hid hB
      have HLo := Lib.hid hlo
      clear h1 ht hf hl hT hR hF hN hok hB hlo hFlt htf htl hts' hfs' hbt hbf hbl hbts hbfs
      go_wp2_with fail
      refine wp_region_inv_from (NInv wr b k vt vf vl F ts fs) rfl ?_ ?_ (by decide +kernel) ?_
      · exact ⟨_, by rw [fill_self _ _ _ (show 16 + 20 ≤ 38 by decide)], ToldS.none, (Same.refl wr).drew⟩
      · intro listed a' w' i o hI hcl ho hl hd
        obtain ⟨x, rfl, hx, hw⟩ := hI
        have h2118 : listed.getD 21 false = true → listed.getD 18 false = true := fun h => hcl 21 _ rfl h _ (Array.getElem_mem (i := 2) (by decide)) rfl
        have hch : NChain listed := nch_of (fun h => hcl 21 _ rfl h _ (Array.getElem_mem (i := 2) (by decide)) rfl) (fun h => hcl 18 _ rfl h _ (Array.getElem_mem (i := 2) (by decide)) rfl) (fun h => hcl 15 _ rfl h _ (Array.getElem_mem (i := 1) (by decide)) rfl) (fun h => hcl 14 _ rfl h _ (Array.getElem_mem (i := 0) (by decide)) rfl) (fun h => hcl 13 _ rfl h _ (Array.getElem_mem (i := 0) (by decide)) rfl) (fun h => hcl 8 _ rfl h _ (Array.getElem_mem (i := 1) (by decide)) rfl) (fun h => hcl 7 _ rfl h _ (Array.getElem_mem (i := 0) (by decide)) rfl)
        have hlt : i < 22 := (Array.getElem?_eq_some_iff.1 ho).1
        rcases (by omega : i = 0 ∨ i = 1 ∨ i = 2 ∨ i = 3 ∨ i = 4 ∨ i = 5 ∨ i = 6 ∨ i = 7 ∨ i = 8 ∨ i = 9 ∨ i = 10 ∨ i = 11 ∨ i = 12 ∨ i = 13 ∨ i = 14 ∨ i = 15 ∨ i = 16 ∨ i = 17 ∨ i = 18 ∨ i = 19 ∨ i = 20 ∨ i = 21) with rfl | rfl | rfl | rfl | rfl | rfl | rfl | rfl | rfl | rfl | rfl | rfl | rfl | rfl | rfl | rfl | rfl | rfl | rfl | rfl | rfl | rfl
        · simp only [List.getElem?_toArray, List.getElem?_cons_zero, Option.some.injEq] at ho
          subst ho
          have HX2 := Lib.hid hx
          have HW2 := Lib.hid hw
          clear hx hw hd hcl hl hch h2118
          simp only [fill, Nat.reduceAdd]
          go_wp2_with fail
          refine ⟨_, ?_, HX2.out.read 0 (fun j hj h => nsl_inj 0 (by decide) rfl j (nrd_lt hj) hj h), ?_⟩
          · simp only [fill, Nat.reduceAdd]
            simp [nV, nsl]
          · rw [nst_read (by decide)]; exact HW2.out
        · simp only [List.getElem?_toArray, List.getElem?_cons_succ, List.getElem?_cons_zero, Option.some.injEq] at ho
          subst ho
          have HX2 := Lib.hid hx
          have HW2 := Lib.hid hw
          clear hx hw hd hcl hl hch h2118
          simp only [fill, Nat.reduceAdd]
          go_wp2_with fail
          refine ⟨_, ?_, HX2.out.read 1 (fun j hj h => nsl_inj 1 (by decide) rfl j (nrd_lt hj) hj h), ?_⟩
          · simp only [fill, Nat.reduceAdd]
            simp [nV, nsl]
          · rw [nst_read (by decide)]; exact HW2.out
        · simp only [List.getElem?_toArray, List.getElem?_cons_succ, List.getElem?_cons_zero, Option.some.injEq] at ho
          subst ho
          have HX2 := Lib.hid hx
          have HW2 := Lib.hid hw
          clear hx hw hd hcl hl hch h2118
          simp only [fill, Nat.reduceAdd]
          go_wp2_with fail
          refine ⟨_, ?_, HX2.out.read 2 (fun j hj h => nsl_inj 2 (by decide) rfl j (nrd_lt hj) hj h), ?_⟩
          · simp only [fill, Nat.reduceAdd]
            simp [nV, nsl]
          · rw [nst_read (by decide)]; exact HW2.out
        · simp only [List.getElem?_toArray, List.getElem?_cons_succ, List.getElem?_cons_zero, Option.some.injEq] at ho
          subst ho
          have d2 : listed.getD 2 false = true := hd _ (Array.getElem_mem (i := 0) (by decide)) rfl
          have e2 : x 2 = Value.pointer (some ⟨b, 0, none⟩) := hx 2 rfl d2
          have HX2 := Lib.hid hx
          have HW2 := Lib.hid hw
          clear hx hw hd hcl hl hch h2118
          simp only [fill, Nat.reduceAdd]
          go_wp2_with fail
          refine ⟨_, ?_, HX2.out.read 3 (fun j hj h => nsl_inj 3 (by decide) rfl j (nrd_lt hj) hj h), ?_⟩
          · simp only [fill, Nat.reduceAdd]
            simp [nV, nsl, e2]
          · rw [nst_read (by decide)]; exact HW2.out
        · simp only [List.getElem?_toArray, List.getElem?_cons_succ, List.getElem?_cons_zero, Option.some.injEq] at ho
          subst ho
          have d3 : listed.getD 3 false = true := hd _ (Array.getElem_mem (i := 0) (by decide)) rfl
          have e3 : x 3 = Value.pointer (some ⟨b, 0, none⟩) := hx 3 rfl d3
          have HX2 := Lib.hid hx
          have HW2 := Lib.hid hw
          clear hx hw hd hcl hl hch h2118
          simp only [fill, Nat.reduceAdd]
          go_wp2_with fail
          refine ⟨_, ?_, HX2.out.read 4 (fun j hj h => nsl_inj 4 (by decide) rfl j (nrd_lt hj) hj h), ?_⟩
          · simp only [fill, Nat.reduceAdd]
            simp [nV, nsl, e3]
          · rw [nst_read (by decide)]; exact HW2.out
        · simp only [List.getElem?_toArray, List.getElem?_cons_succ, List.getElem?_cons_zero, Option.some.injEq] at ho
          subst ho
          have d4 : listed.getD 4 false = true := hd _ (Array.getElem_mem (i := 0) (by decide)) rfl
          have e4 : x 4 = Value.pointer (some ⟨b, 0, none⟩) := hx 4 rfl d4
          have h18 : ¬ listed.getD 18 false = true := fun h => fresh_no hl (hcl 18 _ rfl h _ (Array.getElem_mem (i := 8) (by decide)) rfl)
          have cb : w'.cell? ⟨b, 0, none⟩ = some vt := cell_at 0 ((NW.block (nst_le h18 (fun h => h18 (h2118 h))) hbw hbt' hbf' hw).trans H1.out) rfl
          clear h18
          have HX2 := Lib.hid hx
          have HW2 := Lib.hid hw
          clear hx hw hd hcl hl hch h2118
          simp only [fill, Nat.reduceAdd]
          go_wp2_with fail
          refine ⟨_, ?_, HX2.out.read 5 (fun j hj h => nsl_inj 5 (by decide) rfl j (nrd_lt hj) hj h), ?_⟩
          · simp only [fill, Nat.reduceAdd]
            simp [nV, nsl, e4]
          · rw [nst_read (by decide)]; exact HW2.out
        · simp only [List.getElem?_toArray, List.getElem?_cons_succ, List.getElem?_cons_zero, Option.some.injEq] at ho
          subst ho
          obtain ⟨hs, hs'⟩ := nst6 hch hl
          rw [hs] at hw
          have HSame := Lib.hid (show Same wr w' from hw)
          have HK := Lib.hid (new_any none 0 0 [] w' (src_none w'))
          have HX2 := Lib.hid hx
          have HS := Lib.hid hs'
          clear hx hw hd hcl hl hch h2118 hs hs'
          simp only [fill, Nat.reduceAdd]
          go_wp2_with fail
          go_fit HK.out
          rintro e w'' ⟨rfl, hS6, hB6⟩
          go_wp2_with fail
          refine ⟨_, ?_, HX2.out.write 6 6 (.pointer (some ⟨w'.heap.size, 0, none⟩)) rfl (fun j hj => nsl_wr 6 (by decide) rfl j (nrd_lt hj) hj), ?_⟩
          · simp only [fill, Nat.reduceAdd]
            simp
          · rw [HS.out]
            have hz : w'.heap.size = wr.heap.size := by rw [HSame.out.heap]
            exact ⟨w'.heap.size, rfl, by omega, hS6, HSame.out.chg.trans (chg_below hB6 fun q h1 h2 => by omega)⟩
        · simp only [List.getElem?_toArray, List.getElem?_cons_succ, List.getElem?_cons_zero, Option.some.injEq] at ho
          subst ho
          have d6 : listed.getD 6 false = true := hd _ (Array.getElem_mem (i := 0) (by decide)) rfl
          obtain ⟨hs, hs'⟩ := nst7 hch d6 hl
          rw [hs] at hw
          obtain ⟨p, e6, hp, hS1, hC1⟩ := hw
          have HX2 := Lib.hid hx
          have HS := Lib.hid hs'
          have HS1 := Lib.hid hS1
          have HC1 := Lib.hid hC1
          clear hx hd hcl hl hch h2118 hs hs' hS1 hC1
          simp only [fill, Nat.reduceAdd]
          go_wp2_with fail
          refine ⟨_, ?_, HX2.out.write 7 7 (.slice (some ⟨w'.heap.size, 0, none⟩) 1 1) rfl (fun j hj => nsl_wr 7 (by decide) rfl j (nrd_lt hj) hj), ?_⟩
          · simp only [fill, Nat.reduceAdd]
            simp [e6]
          · rw [HS.out]
            have hz := HC1.out.size
            have hpw := lt_of_block HS1.out.1
            exact ⟨p, w'.heap.size, e6, rfl, hp, ⟨(heap_alloc_lt hpw).trans HS1.out.1, HS1.out.2⟩, HC1.out.alloc _, by omega, by omega, heap_new _ _⟩
        · simp only [List.getElem?_toArray, List.getElem?_cons_succ, List.getElem?_cons_zero, Option.some.injEq] at ho
          subst ho
          have d5 : listed.getD 5 false = true := hd _ (Array.getElem_mem (i := 0) (by decide)) rfl
          have e5 : x 5 = vt := hx 5 rfl d5
          have d5 : listed.getD 5 false = true := hd _ (Array.getElem_mem (i := 0) (by decide)) rfl
          have e5 : x 5 = vt := hx 5 rfl d5
          have d7 : listed.getD 7 false = true := hd _ (Array.getElem_mem (i := 1) (by decide)) rfl
          obtain ⟨hs, hs'⟩ := nst8 hch d7 hl
          rw [hs] at hw
          obtain ⟨p, c, e6, e7, hp, hS1, hC1, hcp, hcH, hcell⟩ := hw
          have hown1 := owns_chg HOT.out hC1 (fun _ _ h => h)
          have HX2 := Lib.hid hx
          have HS := Lib.hid hs'
          have HS1 := Lib.hid hS1
          have HC1 := Lib.hid hC1
          have HO1 := Lib.hid hown1
          have HCell := Lib.hid hcell
          obtain ⟨i0, hie, hz0, hz2, hz3⟩ := info_parts infoPtr
          have HM : Hid (k + 1 ≤ maxLen ∧ (k + 1) * 8 ≤ 140737488355328) := by
            show _ ∧ _
            unfold maxLen; omega
          clear hx hd hcl hl hch h2118 hs hs' hS1 hC1 hown1 hcell
          simp only [fill, Nat.reduceAdd]
          go_wp2_with (first | (at_builtin; go_loud (refine wpList_append_lies _ rfl _ _ 75 rfl 0 24 i0 (.pointer none) 1 8 Tryd.underlying75 hie hz0 hz2 hz3 rfl (by decide) vt k (ptrs ts) (by simp [e5]; rfl) HO1.out ⟨c, 0, none⟩ 1 1 [.pointer (some ⟨p, 0, none⟩)] (by simp [e7]; rfl) rfl (World.news_of_block HCell.out) (ptr_one p) (by decide) HM.out.1 HM.out.2 (Nat.zero_le _) w'.heap.size rfl ?_)) | fail)
          intro g c' w'' hown hgrow hat hg
          have HO2 := Lib.hid hown
          have HGr := Lib.hid hgrow
          have HAt := Lib.hid hat
          clear hown hgrow hat
          go_wp2_with fail
          refine ⟨_, ?_, HX2.out.write 8 8 (.slice (some ⟨g, 0, none⟩) (k + 1) c') rfl (fun j hj => nsl_wr 8 (by decide) rfl j (nrd_lt hj) hj), ?_⟩
          · simp only [fill, Nat.reduceAdd]
            simp [e5, e6, e7]
          · rw [HS.out]
            have hz := HC1.out.size
            have hpw := lt_of_block HS1.out.1
            refine ⟨p, g, c', rfl, hp, ⟨(HGr.out.block p hpw (fun e => by have := hvt p e.symm; omega)).trans HS1.out.1, HS1.out.2⟩, (HC1.out.mono fun _ _ h => h.elim).trans (chg_grown HGr.out fun q h => h), ?_, ?_, ?_⟩
            · have e : ptrs (ts ++ [p]) = ptrs ts ++ [.pointer (some ⟨p, 0, none⟩)] := by simp [ptrs]
              rw [e]; exact HO2.out
            · rcases HAt.out with h | h
              · exact .inl h
              · right; omega
            · rintro rfl
              rcases HAt.out with h | h
              · have := hvt _ h; omega
              · omega
        · simp only [List.getElem?_toArray, List.getElem?_cons_succ, List.getElem?_cons_zero, Option.some.injEq] at ho
          subst ho
          have HX2 := Lib.hid hx
          have HW2 := Lib.hid hw
          clear hx hw hd hcl hl hch h2118
          simp only [fill, Nat.reduceAdd]
          go_wp2_with fail
          refine ⟨_, ?_, HX2.out.read 9 (fun j hj h => nsl_inj 9 (by decide) rfl j (nrd_lt hj) hj h), ?_⟩
          · simp only [fill, Nat.reduceAdd]
            simp [nV, nsl]
          · rw [nst_read (by decide)]; exact HW2.out
        · simp only [List.getElem?_toArray, List.getElem?_cons_succ, List.getElem?_cons_zero, Option.some.injEq] at ho
          subst ho
          have d9 : listed.getD 9 false = true := hd _ (Array.getElem_mem (i := 0) (by decide)) rfl
          have e9 : x 9 = Value.pointer (some ⟨b, 0, none⟩) := hx 9 rfl d9
          have HX2 := Lib.hid hx
          have HW2 := Lib.hid hw
          clear hx hw hd hcl hl hch h2118
          simp only [fill, Nat.reduceAdd]
          go_wp2_with fail
          refine ⟨_, ?_, HX2.out.read 10 (fun j hj h => nsl_inj 10 (by decide) rfl j (nrd_lt hj) hj h), ?_⟩
          · simp only [fill, Nat.reduceAdd]
            simp [nV, nsl, e9]
          · rw [nst_read (by decide)]; exact HW2.out
        · simp only [List.getElem?_toArray, List.getElem?_cons_succ, List.getElem?_cons_zero, Option.some.injEq] at ho
          subst ho
          have d10 : listed.getD 10 false = true := hd _ (Array.getElem_mem (i := 0) (by decide)) rfl
          have e10 : x 10 = Value.pointer (some ⟨b, 0, none⟩) := hx 10 rfl d10
          have HX2 := Lib.hid hx
          have HW2 := Lib.hid hw
          clear hx hw hd hcl hl hch h2118
          simp only [fill, Nat.reduceAdd]
          go_wp2_with fail
          refine ⟨_, ?_, HX2.out.read 11 (fun j hj h => nsl_inj 11 (by decide) rfl j (nrd_lt hj) hj h), ?_⟩
          · simp only [fill, Nat.reduceAdd]
            simp [nV, nsl, e10]
          · rw [nst_read (by decide)]; exact HW2.out
        · simp only [List.getElem?_toArray, List.getElem?_cons_succ, List.getElem?_cons_zero, Option.some.injEq] at ho
          subst ho
          have d11 : listed.getD 11 false = true := hd _ (Array.getElem_mem (i := 0) (by decide)) rfl
          have e11 : x 11 = Value.pointer (some ⟨b, 1, none⟩) := hx 11 rfl d11
          have h18 : ¬ listed.getD 18 false = true := fun h => fresh_no hl (hcl 18 _ rfl h _ (Array.getElem_mem (i := 15) (by decide)) rfl)
          have cb : w'.cell? ⟨b, 1, none⟩ = some vf := cell_at 1 ((NW.block (nst_le h18 (fun h => h18 (h2118 h))) hbw hbt' hbf' hw).trans H1.out) rfl
          clear h18
          have HX2 := Lib.hid hx
          have HW2 := Lib.hid hw
          clear hx hw hd hcl hl hch h2118
          simp only [fill, Nat.reduceAdd]
          go_wp2_with fail
          refine ⟨_, ?_, HX2.out.read 12 (fun j hj h => nsl_inj 12 (by decide) rfl j (nrd_lt hj) hj h), ?_⟩
          · simp only [fill, Nat.reduceAdd]
            simp [nV, nsl, e11]
          · rw [nst_read (by decide)]; exact HW2.out
        · simp only [List.getElem?_toArray, List.getElem?_cons_succ, List.getElem?_cons_zero, Option.some.injEq] at ho
          subst ho
          have d8 : listed.getD 8 false = true := hd _ (Array.getElem_mem (i := 0) (by decide)) rfl
          obtain ⟨hs, hs'⟩ := nst13 hch d8 hl
          rw [hs] at hw
          obtain ⟨p, g, c, e8, hp, hS1, hC1, hown, hat, hgp⟩ := hw
          have HK := Lib.hid (new_any none 0 0 [] w' (src_none w'))
          have HX2 := Lib.hid hx
          have HS := Lib.hid hs'
          have HS1 := Lib.hid hS1
          have HC1 := Lib.hid hC1
          have HO1 := Lib.hid hown
          have HAt := Lib.hid hat
          have HE8 := Lib.hid e8
          clear hx hd hcl hl hch h2118 hs hs' hS1 hC1 hown hat e8
          simp only [fill, Nat.reduceAdd]
          go_wp2_with fail
          go_fit HK.out
          rintro e w'' ⟨rfl, hS6, hB6⟩
          go_wp2_with fail
          refine ⟨_, ?_, HX2.out.write 13 13 (.pointer (some ⟨w'.heap.size, 0, none⟩)) rfl (fun j hj => nsl_wr 13 (by decide) rfl j (nrd_lt hj) hj), ?_⟩
          · simp only [fill, Nat.reduceAdd]
            simp
          · rw [HS.out]
            have hz := HC1.out.size
            have hpw := lt_of_block HS1.out.1
            have hgw : g < w'.heap.size := owns_lt HO1.out g rfl
            refine ⟨p, g, c, w'.heap.size, HE8.out, hp, ⟨(hB6.block p hpw).trans HS1.out.1, HS1.out.2⟩, HC1.out.trans (chg_below hB6 fun q h1 h2 => by omega), ?_, HAt.out, hgp, rfl, by omega, hS6, by omega, by omega⟩
            exact owns_of_heap HO1.out fun q hq => by cases hq; exact hB6.block g hgw
        · simp only [List.getElem?_toArray, List.getElem?_cons_succ, List.getElem?_cons_zero, Option.some.injEq] at ho
          subst ho
          have d13 : listed.getD 13 false = true := hd _ (Array.getElem_mem (i := 0) (by decide)) rfl
          obtain ⟨hs, hs'⟩ := nst14 hch d13 hl
          rw [hs] at hw
          obtain ⟨p, g, c, q, e8, hp, hS1, hC1, hown, hat, hgp, e13, hq, hSq, hqp, hqg⟩ := hw
          have HX2 := Lib.hid hx
          have HS := Lib.hid hs'
          have HS1 := Lib.hid hS1
          have HSq := Lib.hid hSq
          have HC1 := Lib.hid hC1
          have HO1 := Lib.hid hown
          have HAt := Lib.hid hat
          have HE8 := Lib.hid e8
          clear hx hd hcl hl hch h2118 hs hs' hS1 hSq hC1 hown hat e8
          simp only [fill, Nat.reduceAdd]
          go_wp2_with fail
          refine ⟨_, ?_, HX2.out.write 14 14 (.slice (some ⟨w'.heap.size, 0, none⟩) 1 1) rfl (fun j hj => nsl_wr 14 (by decide) rfl j (nrd_lt hj) hj), ?_⟩
          · simp only [fill, Nat.reduceAdd]
            simp [e13]
          · rw [HS.out]
            have hz := HC1.out.size
            have hpw := lt_of_block HS1.out.1
            have hqw := lt_of_block HSq.out.1
            have hgw : g < w'.heap.size := owns_lt HO1.out g rfl
            exact ⟨p, g, c, q, w'.heap.size, HE8.out, hp, ⟨(heap_alloc_lt hpw).trans HS1.out.1, HS1.out.2⟩, HC1.out.alloc _, HO1.out.alloc _, HAt.out, hgp, e13, hq, ⟨(heap_alloc_lt hqw).trans HSq.out.1, HSq.out.2⟩, hqp, hqg, rfl, by omega, by omega, by omega, by omega, heap_new _ _⟩
        · simp only [List.getElem?_toArray, List.getElem?_cons_succ, List.getElem?_cons_zero, Option.some.injEq] at ho
          subst ho
          have d12 : listed.getD 12 false = true := hd _ (Array.getElem_mem (i := 0) (by decide)) rfl
          have e12 : x 12 = vf := hx 12 rfl d12
          have d12 : listed.getD 12 false = true := hd _ (Array.getElem_mem (i := 0) (by decide)) rfl
          have e12 : x 12 = vf := hx 12 rfl d12
          have d14 : listed.getD 14 false = true := hd _ (Array.getElem_mem (i := 1) (by decide)) rfl
          obtain ⟨hs, hs'⟩ := nst15 hch d14 hl
          rw [hs] at hw
          obtain ⟨p, g, c, q, d, e8, hp, hS1, hC1, hown, hat, hgp, e13, hq, hSq, hqp, hqg, e14, hdp, hdq, hdg, hdH, hcell⟩ := hw
          have hown1 := owns_chg HOF.out hC1 (fun q' h h' => hvtf q' h' (mem_ownL.1 h))
          have HX2 := Lib.hid hx
          have HS := Lib.hid hs'
          have HS1 := Lib.hid hS1
          have HSq := Lib.hid hSq
          have HC1 := Lib.hid hC1
          have HO1 := Lib.hid hown
          have HOf := Lib.hid hown1
          have HAt := Lib.hid hat
          have HE8 := Lib.hid e8
          have HCell := Lib.hid hcell
          obtain ⟨i0, hie, hz0, hz2, hz3⟩ := info_parts infoPtr
          have HM : Hid (k + 1 ≤ maxLen ∧ (k + 1) * 8 ≤ 140737488355328) := by
            show _ ∧ _
            unfold maxLen; omega
          clear hx hd hcl hl hch h2118 hs hs' hS1 hSq hC1 hown hown1 hcell hat e8
          simp only [fill, Nat.reduceAdd]
          go_wp2_with (first | (at_builtin; go_loud (refine wpList_append_lies _ rfl _ _ 75 rfl 0 24 i0 (.pointer none) 1 8 Tryd.underlying75 hie hz0 hz2 hz3 rfl (by decide) vf k (ptrs fs) (by simp [e12]; rfl) HOf.out ⟨d, 0, none⟩ 1 1 [.pointer (some ⟨q, 0, none⟩)] (by simp [e14]; rfl) rfl (World.news_of_block HCell.out) (ptr_one q) (by decide) HM.out.1 HM.out.2 (Nat.zero_le _) w'.heap.size rfl ?_)) | fail)
          intro h e w'' hown hgrow hat hg
          have HO2 := Lib.hid hown
          have HGr := Lib.hid hgrow
          have HAt2 := Lib.hid hat
          clear hown hgrow hat
          go_wp2_with fail
          refine ⟨_, ?_, HX2.out.write 15 15 (.slice (some ⟨h, 0, none⟩) (k + 1) e) rfl (fun j hj => nsl_wr 15 (by decide) rfl j (nrd_lt hj) hj), ?_⟩
          · simp only [fill, Nat.reduceAdd]
            simp [e12, e13, e14]
          · rw [HS.out]
            have hz := HC1.out.size
            have hpw := lt_of_block HS1.out.1
            have hqw := lt_of_block HSq.out.1
            have hgw : g < w'.heap.size := owns_lt HO1.out g rfl
            have hgf : vf.ownBlock ≠ some g := fun h' => by
              rcases HAt.out with h | h
              · exact hvtf g h h'
              · have := hvf g h'; omega
            refine ⟨p, g, c, q, h, e, HE8.out, rfl, hp, ⟨(HGr.out.block p hpw (fun e => by have := hvf p e.symm; omega)).trans HS1.out.1, HS1.out.2⟩, (HC1.out.mono fun _ _ h => .inl h).trans (chg_grown HGr.out fun q h => .inr h), ?_, HAt.out, hgp, hq, ⟨(HGr.out.block q hqw (fun e => by have := hvf q e.symm; omega)).trans HSq.out.1, HSq.out.2⟩, hqp, hqg, ?_, ?_, ?_, ?_, ?_⟩
            · exact owns_of_heap HO1.out fun q hq => by cases hq; exact HGr.out.block g hgw (fun e => hgf e.symm)
            · have e : ptrs (fs ++ [q]) = ptrs fs ++ [.pointer (some ⟨q, 0, none⟩)] := by simp [ptrs]
              rw [e]; exact HO2.out
            · rcases HAt2.out with h | h
              · exact .inl h
              · right; omega
            · rintro rfl
              rcases HAt2.out with h | h
              · have := hvf _ h; omega
              · omega
            · rintro rfl
              rcases HAt2.out with h | h
              · have := hvf _ h; omega
              · omega
            · rintro rfl
              rcases HAt2.out with h | h
              · exact hgf h
              · omega
        · simp only [List.getElem?_toArray, List.getElem?_cons_succ, List.getElem?_cons_zero, Option.some.injEq] at ho
          subst ho
          have d0 : listed.getD 0 false = true := hd _ (Array.getElem_mem (i := 0) (by decide)) rfl
          have e0 : x 0 = Value.pointer (some ⟨b, 0, none⟩) := hx 0 rfl d0
          have HX2 := Lib.hid hx
          have HW2 := Lib.hid hw
          clear hx hw hd hcl hl hch h2118
          simp only [fill, Nat.reduceAdd]
          go_wp2_with fail
          refine ⟨_, ?_, HX2.out.read 16 (fun j hj h => nsl_inj 16 (by decide) rfl j (nrd_lt hj) hj h), ?_⟩
          · simp only [fill, Nat.reduceAdd]
            simp [nV, nsl, e0]
          · rw [nst_read (by decide)]; exact HW2.out
        · simp only [List.getElem?_toArray, List.getElem?_cons_succ, List.getElem?_cons_zero, Option.some.injEq] at ho
          subst ho
          have d16 : listed.getD 16 false = true := hd _ (Array.getElem_mem (i := 0) (by decide)) rfl
          have e16 : x 16 = Value.pointer (some ⟨b, 0, none⟩) := hx 16 rfl d16
          have HX2 := Lib.hid hx
          have HW2 := Lib.hid hw
          clear hx hw hd hcl hl hch h2118
          simp only [fill, Nat.reduceAdd]
          go_wp2_with fail
          refine ⟨_, ?_, HX2.out.read 17 (fun j hj h => nsl_inj 17 (by decide) rfl j (nrd_lt hj) hj h), ?_⟩
          · simp only [fill, Nat.reduceAdd]
            simp [nV, nsl, e16]
          · rw [nst_read (by decide)]; exact HW2.out
        · simp only [List.getElem?_toArray, List.getElem?_cons_succ, List.getElem?_cons_zero, Option.some.injEq] at ho
          subst ho
          have d17 : listed.getD 17 false = true := hd _ (Array.getElem_mem (i := 0) (by decide)) rfl
          have e17 : x 17 = Value.pointer (some ⟨b, 0, none⟩) := hx 17 rfl d17
          have d17 : listed.getD 17 false = true := hd _ (Array.getElem_mem (i := 0) (by decide)) rfl
          have e17 : x 17 = Value.pointer (some ⟨b, 0, none⟩) := hx 17 rfl d17
          have d15 : listed.getD 15 false = true := hd _ (Array.getElem_mem (i := 2) (by decide)) rfl
          obtain ⟨hs, hs'⟩ := nst18 hch d15 hl
          rw [hs] at hw
          have hblk : w'.heap[b]? = some (.cells #[vt, vf, vl, .bool true] 77 (0, 0)) := (NW.block (Nat.le_refl 6) hbw hbt' hbf' hw).trans H1.out
          obtain ⟨p, g, c, q, h, e, e8, e15, hp, hS1, hC1, hown, hat, hgp, hq, hSq, hqp, hqg, hown2, hat2, hhp, hhq, hhg⟩ := hw
          have cb : w'.cell? ⟨b, 0, none⟩ = some vt := cell_at 0 hblk rfl
          have fb := free_at 0 hblk
          have HX2 := Lib.hid hx
          have HS := Lib.hid hs'
          have HS1 := Lib.hid hS1
          have HSq := Lib.hid hSq
          have HC1 := Lib.hid hC1
          have HO1 := Lib.hid hown
          have HO2 := Lib.hid hown2
          have HAt := Lib.hid hat
          have HAt2 := Lib.hid hat2
          have HE15 := Lib.hid e15
          have HBk := Lib.hid hblk
          clear hx hd hcl hl hch h2118 hs hs' hS1 hSq hC1 hown hown2 hat hat2 hblk e15
          simp only [fill, Nat.reduceAdd]
          go_wp2_with fail
          refine ⟨x, ?_, HX2.out.skip 18 rfl, ?_⟩
          · simp only [fill, Nat.reduceAdd]
            simp [e8, e17]
          · rw [HS.out]
            have hgb : g ≠ b := fun h' => by
              rcases HAt.out with h | h
              · exact hbt' (h' ▸ h)
              · omega
            have hhb : h ≠ b := fun h' => by
              rcases HAt2.out with h2 | h2
              · exact hbf' (h' ▸ h2)
              · omega
            refine ⟨p, g, c, q, h, e, HE15.out, hp, ⟨(heap_set_ne 0 _ (by omega)).trans HS1.out.1, HS1.out.2⟩, (HC1.out.mono fun _ _ h => h.elim .inl fun h => .inr (.inl h)).setCell (.inl (.inr (.inr rfl))) _, ?_, HAt.out, hgp, hq, ⟨(heap_set_ne 0 _ (by omega)).trans HSq.out.1, HSq.out.2⟩, hqp, hqg, ?_, HAt2.out, hhp, hhq, hhg, ?_⟩
            · exact owns_of_heap HO1.out fun q hq => by cases hq; exact heap_set_ne 0 _ hgb
            · exact owns_of_heap HO2.out fun q hq => by cases hq; exact heap_set_ne 0 _ hhb
            · have := heap_set 0 (.slice (some ⟨g, 0, none⟩) (k + 1) c) HBk.out
              rw [this]; rfl
        · simp only [List.getElem?_toArray, List.getElem?_cons_succ, List.getElem?_cons_zero, Option.some.injEq] at ho
          subst ho
          have d1 : listed.getD 1 false = true := hd _ (Array.getElem_mem (i := 0) (by decide)) rfl
          have e1 : x 1 = Value.pointer (some ⟨b, 0, none⟩) := hx 1 rfl d1
          have HX2 := Lib.hid hx
          have HW2 := Lib.hid hw
          clear hx hw hd hcl hl hch h2118
          simp only [fill, Nat.reduceAdd]
          go_wp2_with fail
          refine ⟨_, ?_, HX2.out.read 19 (fun j hj h => nsl_inj 19 (by decide) rfl j (nrd_lt hj) hj h), ?_⟩
          · simp only [fill, Nat.reduceAdd]
            simp [nV, nsl, e1]
          · rw [nst_read (by decide)]; exact HW2.out
        · simp only [List.getElem?_toArray, List.getElem?_cons_succ, List.getElem?_cons_zero, Option.some.injEq] at ho
          subst ho
          have d19 : listed.getD 19 false = true := hd _ (Array.getElem_mem (i := 0) (by decide)) rfl
          have e19 : x 18 = Value.pointer (some ⟨b, 0, none⟩) := hx 19 rfl d19
          have HX2 := Lib.hid hx
          have HW2 := Lib.hid hw
          clear hx hw hd hcl hl hch h2118
          simp only [fill, Nat.reduceAdd]
          go_wp2_with fail
          refine ⟨_, ?_, HX2.out.read 20 (fun j hj h => nsl_inj 20 (by decide) rfl j (nrd_lt hj) hj h), ?_⟩
          · simp only [fill, Nat.reduceAdd]
            simp [nV, nsl, e19]
          · rw [nst_read (by decide)]; exact HW2.out
        · simp only [List.getElem?_toArray, List.getElem?_cons_succ, List.getElem?_cons_zero, Option.some.injEq] at ho
          subst ho
          have d20 : listed.getD 20 false = true := hd _ (Array.getElem_mem (i := 0) (by decide)) rfl
          have e20 : x 19 = Value.pointer (some ⟨b, 1, none⟩) := hx 20 rfl d20
          have d20 : listed.getD 20 false = true := hd _ (Array.getElem_mem (i := 0) (by decide)) rfl
          have e20 : x 19 = Value.pointer (some ⟨b, 1, none⟩) := hx 20 rfl d20
          have d18 : listed.getD 18 false = true := hd _ (Array.getElem_mem (i := 2) (by decide)) rfl
          obtain ⟨hs, hs'⟩ := nst21 hch d18 hl
          rw [hs] at hw
          obtain ⟨p, g, c, q, h, e, e15, hp, hS1, hC1, hown, hat, hgp, hq, hSq, hqp, hqg, hown2, hat2, hhp, hhq, hhg, hblk⟩ := hw
          have cb : w'.cell? ⟨b, 1, none⟩ = some vf := cell_at 1 hblk rfl
          have fb := free_at 1 hblk
          have HX2 := Lib.hid hx
          have HS := Lib.hid hs'
          have HS1 := Lib.hid hS1
          have HSq := Lib.hid hSq
          have HC1 := Lib.hid hC1
          have HO1 := Lib.hid hown
          have HO2 := Lib.hid hown2
          have HAt := Lib.hid hat
          have HAt2 := Lib.hid hat2
          have HBk := Lib.hid hblk
          clear hx hd hcl hl hch h2118 hs hs' hS1 hSq hC1 hown hown2 hat hat2 hblk
          simp only [fill, Nat.reduceAdd]
          go_wp2_with fail
          refine ⟨x, ?_, HX2.out.skip 21 rfl, ?_⟩
          · simp only [fill, Nat.reduceAdd]
            simp [e15, e20]
          · rw [HS.out]
            have hgb : g ≠ b := fun h' => by
              rcases HAt.out with h | h
              · exact hbt' (h' ▸ h)
              · omega
            have hhb : h ≠ b := fun h' => by
              rcases HAt2.out with h2 | h2
              · exact hbf' (h' ▸ h2)
              · omega
            have hC : Chg (fun q => vt.ownBlock = some q ∨ vf.ownBlock = some q ∨ q = b) wr (w'.setCell ⟨b, 1, none⟩ (.slice (some ⟨h, 0, none⟩) (k + 1) e)) := HC1.out.setCell (.inl (.inr (.inr rfl))) _
            have hFe := HF.out
            have hNe := HN.out
            have hlt2 := HFlt.out
            rw [hFe] at hNe hlt2
            have hn2 := hNe
            simp only [List.nodup_cons, List.nodup_append, List.mem_append, not_or] at hn2
            obtain ⟨⟨⟨⟨⟨-, -⟩, -⟩, hbts⟩, hbfs⟩, ⟨⟨-, -, hts'⟩, -, hfs'⟩⟩ := hn2
            have hts1 : ts.length = k := hts
            have hfs1 : fs.length = k := hfs
            refine ⟨b :: ([g] ++ [h] ++ ownL vl ++ (ts ++ [p]) ++ (fs ++ [q])), ⟨.slice (some ⟨g, 0, none⟩) (k + 1) c, .slice (some ⟨h, 0, none⟩) (k + 1) e, vl, ts ++ [p], fs ++ [q], ?_, ?_, ?_, ?_, ?_, ?_, ?_, ?_, newG_ok (k + 1) (by omega), rfl, ?_⟩, hC, ?_⟩
            · have := heap_set 1 (.slice (some ⟨h, 0, none⟩) (k + 1) e) HBk.out
              rw [this]; rfl
            · exact owns_of_heap HO1.out fun q hq => by cases hq; exact heap_set_ne 1 _ hgb
            · exact owns_of_heap HO2.out fun q hq => by cases hq; exact heap_set_ne 1 _ hhb
            · refine owns_chg HOL.out hC fun q hq hF => ?_
              have hq' := mem_ownL.1 hq
              rcases hF with h | h | h
              · exact (hvl q hq').1 h
              · exact (hvl q hq').2 h
              · exact HBL.out (h ▸ hq)
            · simp [hts1, newG]
            · simp [hfs1, newG]
            · intro j hj
              have hj' : j < k + 1 := hj
              by_cases hjk : j < k
              · have e : (ts ++ [p]).getD j 0 = ts.getD j 0 := by rw [List.getD_eq_getElem?_getD, List.getD_eq_getElem?_getD, List.getElem?_append_left (by omega)]
                rw [e]
                have hs := HSt.out j hjk
                have hm := mem_getD (l := ts) (i := j) (by omega)
                refine ⟨(hC.block _ (lt_of_block hs.1) fun hF => ?_).trans hs.1, hs.2⟩
                rcases hF with h | h | h
                · exact hts' _ (.inl (.inl (mem_ownL.2 h))) _ hm rfl
                · exact hts' _ (.inl (.inr (mem_ownL.2 h))) _ hm rfl
                · exact hbts (h ▸ hm)
              · obtain rfl : j = k := by omega
                have e : (ts ++ [p]).getD j 0 = p := by simp [← hts1]
                rw [e]
                exact ⟨(heap_set_ne 1 _ (by omega)).trans HS1.out.1, HS1.out.2⟩
            · intro j hj
              have hj' : j < k + 1 := hj
              by_cases hjk : j < k
              · have e : (fs ++ [q]).getD j 0 = fs.getD j 0 := by rw [List.getD_eq_getElem?_getD, List.getD_eq_getElem?_getD, List.getElem?_append_left (by omega)]
                rw [e]
                have hs := HSf.out j hjk
                have hm := mem_getD (l := fs) (i := j) (by omega)
                refine ⟨(hC.block _ (lt_of_block hs.1) fun hF => ?_).trans hs.1, hs.2⟩
                rcases hF with h | h | h
                · exact hfs' _ (.inl (.inl (.inl (mem_ownL.2 h)))) _ hm rfl
                · exact hfs' _ (.inl (.inl (.inr (mem_ownL.2 h)))) _ hm rfl
                · exact hbfs (h ▸ hm)
              · obtain rfl : j = k := by omega
                have e : (fs ++ [q]).getD j 0 = q := by simp [← hfs1]
                rw [e]
                exact ⟨(heap_set_ne 1 _ (by omega)).trans HSq.out.1, HSq.out.2⟩
            · exact nodup_round hNe hlt2 (HAt.out.imp mem_ownL.2 id) (HAt2.out.imp mem_ownL.2 id) hp hq hgp hqp hqg hhp hhq hhg
            · intro z hz
              rw [hFe]
              simp only [List.mem_cons, List.mem_append, List.not_mem_nil, or_false] at hz ⊢
              rcases hz with hz | (((hz | hz) | hz) | hz | hz) | hz | hz
              · exact .inl (.inl hz)
              · subst hz
                rcases HAt.out with h | h
                · exact .inl (.inr (.inl (.inl (.inl (.inl (mem_ownL.2 h))))))
                · exact .inr h
              · subst hz
                rcases HAt2.out with h | h
                · exact .inl (.inr (.inl (.inl (.inl (.inr (mem_ownL.2 h))))))
                · exact .inr h
              · exact .inl (.inr (.inl (.inl (.inr hz))))
              · exact .inl (.inr (.inl (.inr hz)))
              · right; omega
              · exact .inl (.inr (.inr hz))
              · right; omega
      · intro listed a' w' hI hall
        obtain ⟨x, rfl, hx, hw⟩ := hI
        rw [nst_all (hall 21 (by decide))] at hw
        obtain ⟨F2, hG2, hC2, hF2⟩ := hw
        have HG2 := Lib.hid hG2
        have hbe := HBe.out
        have hB2 := HB.out.trans (hC2.below HB.out.size fun q hq h => by
          rcases h with h | h | h
          · have := HLo.out q (by rw [HF.out]; simp [mem_ownL.2 h]); omega
          · have := HLo.out q (by rw [HF.out]; simp [mem_ownL.2 h]); omega
          · omega)
        have hz := HB.out.size
        have HB2 := Lib.hid hB2
        have HF2 := Lib.hid hF2
        clear hx hall hG2 hC2 hB2 hF2 hbe
        simp only [fill, Nat.reduceAdd]
        go_wp2_with fail
        go_roundw
        case rel =>
          refine ⟨k + 1, F2, by omega, by go_num, HBe.out ▸ HG2.out, fun q hq => ?_, HB2.out⟩
          have hbe := HBe.out
          rcases HF2.out q hq with h | h
          · have := HLo.out q h; omega
          · omega
        case measure => simp [intOf]; omega
    · obtain rfl : k = n := by omega
      have HG := Lib.hid hG
      have HB := Lib.hid hB
      clear hG hB
      go_wp2_with fail
      go_ret2
      exact ⟨rfl, F, HG.out, hlo, HB.out⟩
end Go.Proofs.YtafdijcolponjaaDoor
