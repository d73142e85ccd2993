/- What a graph in memory stands for; the contracts of is, node, Len, Mark, Has, Next, Back. No condition but those in each statement. -/
import Derived.Test.YtafdijcolponjaaDoorBitsG
namespace Go.Proofs.YtafdijcolponjaaDoor
open Go.RowKit

/-- A graph: how many nodes, the edges as they came, each node's words (to, from). -/
structure GM where
  n : Nat
  L : List (Nat × Nat)
  tow : Nat → List Nat
  frw : Nat → List Nat

def ptrs (l : List Nat) : List Value := l.map fun b => .pointer (some ⟨b, 0, none⟩)
def edgeCells (l : List (Nat × Nat)) : List Value := l.flatMap fun e => [.int .i64 (e.1 : Int), .int .i64 (e.2 : Int)]

/-- The words tell the edges. -/
structure GM.ok (G : GM) : Prop where
  n500 : G.n ≤ 500
  inr : ∀ e ∈ G.L, e.1 < G.n ∧ e.2 < G.n
  once : G.L.Nodup
  mto : ∀ i, i < G.n → ∀ j, mem (G.tow i) j = decide ((i, j) ∈ G.L)
  mfr : ∀ j, j < G.n → ∀ i, mem (G.frw j) i = decide ((i, j) ∈ G.L)

/-- A graph in memory, at block b; F: its blocks. -/
def GraphAt (w : World) (b : Nat) (F : List Nat) (G : GM) : Prop :=
  ∃ (vt vf vl : Value) (ts fs : List Nat), w.heap[b]? = some (.cells #[vt, vf, vl, .bool true] 77 (0, 0)) ∧
    w.ownsRow 0 24 1 vt G.n (ptrs ts) ∧ w.ownsRow 0 24 1 vf G.n (ptrs fs) ∧ w.ownsRow 0 61 2 vl G.L.length (edgeCells G.L) ∧
    ts.length = G.n ∧ fs.length = G.n ∧ (∀ i, i < G.n → SetAt w (ts.getD i 0) (G.tow i)) ∧ (∀ i, i < G.n → SetAt w (fs.getD i 0) (G.frw i)) ∧
    G.ok ∧ F = b :: (ownL vt ++ ownL vf ++ ownL vl ++ ts ++ fs) ∧ F.Nodup

theorem is_any (b : Nat) (F : List Nat) (G : GM) (w : World) (h : GraphAt w b F G) :
    Calls Tryd.prog 88 #[.pointer (some ⟨b, 0, none⟩)] w fun e w' => e = .returned (.bool true) ∧ w = w' := by
  obtain ⟨vt, vf, vl, ts, fs, h1, -⟩ := h
  have c3 : w.cell? ⟨b, 3, none⟩ = some (.bool true) := cell_at 3 h1 rfl
  clear h1
  go_enter Tryd.func88, Tryd.ntmps88
  go_wp2_with fail
  go_ret
  exact ⟨rfl, rfl⟩

theorem is_nil (w : World) :
    Calls Tryd.prog 88 #[.pointer none] w fun e w' => e = .returned (.bool false) ∧ w = w' := by
  go_enter Tryd.func88, Tryd.ntmps88
  go_wp2_with fail
  go_ret
  exact ⟨rfl, rfl⟩

def inG (n : Nat) (a : Int) : Bool := decide (0 ≤ a ∧ a < (n : Int))

/-- A slice value of n cells, as len asks it. -/
theorem owns_slice {w : World} {base e size n : Nat} {v : Value} {xs : List Value} (h : w.ownsRow base e size v n xs) : ∃ ad c, v = .slice ad n c := by
  rcases owns_shape h with ⟨rfl, rfl⟩ | ⟨g, c, rfl, _⟩
  · exact ⟨none, 0, rfl⟩
  · exact ⟨_, _, rfl⟩

theorem node_any (b : Nat) (F : List Nat) (G : GM) (a : Int) (w : World) (h : GraphAt w b F G) :
    Calls Tryd.prog 89 #[.pointer (some ⟨b, 0, none⟩), .int .i64 a] w fun e w' => e = .returned (.bool (inG G.n a)) ∧ w = w' := by
  have HI := Lib.hid (is_any b F G w h)
  obtain ⟨vt, vf, vl, ts, fs, h1, ht, -⟩ := h
  obtain ⟨ad, c, rfl⟩ := owns_slice ht
  have c0 : w.cell? ⟨b, 0, none⟩ = some (.slice ad G.n c) := cell_at 0 h1 rfl
  clear h1 ht
  unfold inG
  generalize G.n = n at *
  by_cases h0 : 0 ≤ a
  · by_cases h1 : a < (n : Int)
    · rw [decide_eq_true ⟨h0, h1⟩]
      go_enter Tryd.func89, Tryd.ntmps89
      go_wp2_with fail
      go_fit HI.out
      rintro e w' ⟨rfl, rfl⟩
      go_wp2_with fail
      go_ret
      exact ⟨rfl, rfl⟩
    · rw [decide_eq_false (fun h => h1 h.2)]
      go_enter Tryd.func89, Tryd.ntmps89
      go_wp2_with fail
      go_fit HI.out
      rintro e w' ⟨rfl, rfl⟩
      go_wp2_with fail
      go_ret
      exact ⟨ret_bool (decide_eq_false (by omega)), rfl⟩
  · rw [decide_eq_false (fun h => h0 h.1)]
    go_enter Tryd.func89, Tryd.ntmps89
    go_wp2_with fail
    go_fit HI.out
    rintro e w' ⟨rfl, rfl⟩
    go_wp2_with fail
    go_ret
    exact ⟨rfl, rfl⟩

theorem glen_any (b : Nat) (F : List Nat) (G : GM) (w : World) (h : GraphAt w b F G) :
    Calls Tryd.prog 42 #[.pointer (some ⟨b, 0, none⟩)] w fun e w' => e = .returned (.int .i64 G.n) ∧ w = w' := by
  have HI := Lib.hid (is_any b F G w h)
  obtain ⟨vt, vf, vl, ts, fs, h1, ht, -⟩ := h
  obtain ⟨ad, c, rfl⟩ := owns_slice ht
  have c0 : w.cell? ⟨b, 0, none⟩ = some (.slice ad G.n c) := cell_at 0 h1 rfl
  clear h1 ht
  go_enter Tryd.func42, Tryd.ntmps42
  go_wp2_with fail
  go_fit HI.out
  rintro e w' ⟨rfl, rfl⟩
  go_wp2_with fail
  go_ret
  exact ⟨rfl, rfl⟩

theorem mark_any (b : Nat) (F : List Nat) (G : GM) (w : World) (h : GraphAt w b F G) :
    Calls Tryd.prog 43 #[.pointer (some ⟨b, 0, none⟩)] w fun e w' => e = .returned (.int .i64 G.L.length) ∧ w = w' := by
  have HI := Lib.hid (is_any b F G w h)
  obtain ⟨vt, vf, vl, ts, fs, h1, -, -, hl, -⟩ := h
  obtain ⟨ad, c, rfl⟩ := owns_slice hl
  have c0 : w.cell? ⟨b, 2, none⟩ = some (.slice ad G.L.length c) := cell_at 2 h1 rfl
  clear h1 hl
  go_enter Tryd.func43, Tryd.ntmps43
  go_wp2_with fail
  go_fit HI.out
  rintro e w' ⟨rfl, rfl⟩
  go_wp2_with fail
  go_ret
  exact ⟨rfl, rfl⟩
end Go.Proofs.YtafdijcolponjaaDoor
