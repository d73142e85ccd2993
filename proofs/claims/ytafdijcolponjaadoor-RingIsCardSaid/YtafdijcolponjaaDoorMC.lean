/- What a graph in memory stands for; the contracts of is, node, Len, Mark, Has, Next, Back. No condition but those in each statement. The contracts of Has, Next, Back. No condition but those in each statement; Next and Back: where the table lies. The contract of a graph's Put. Condition: at most 2 to the power 40 edges. The contract of a graph's Put, where the edge is new. Condition: at most 2 to the power 40 edges. A graph without its last edge, in plain Lean. No condition but those in each statement. A graph in memory behind changes elsewhere, and behind what one round of Undo writes. No program is walked here; no condition but those in each statement. The document on graphs, in plain Lean: what Has, Next, Back, Edges tell of the edges. No program is walked here; no condition but those in each statement. The contract of a graph's Undo. No condition but those in each statement. The contract of a graph's Edges. Condition: where the table lies. -/
import Derived.Test.YtafdijcolponjaaDoorMB
import Derived.Deep.AppendLies
namespace Go.Proofs.YtafdijcolponjaaDoor
open Go.RowKit

/-- A graph: how many nodes, the edges as they came, each node's words (to, from). -/
structure GM where
  n : Nat
  L : List (Nat × Nat)
  tow : Nat → List Nat
  frw : Nat → List Nat

def ptrs (l : List Nat) : List Value := l.map fun b => .pointer (some ⟨b, 0, none⟩)
def edgeCells (l : List (Nat × Nat)) : List Value := l.flatMap fun e => [.int .i64 (e.1 : Int), .int .i64 (e.2 : Int)]

/-- The words tell the edges. -/
structure GM.ok (G : GM) : Prop where
  n500 : G.n ≤ 500
  inr : ∀ e ∈ G.L, e.1 < G.n ∧ e.2 < G.n
  once : G.L.Nodup
  mto : ∀ i, i < G.n → ∀ j, mem (G.tow i) j = decide ((i, j) ∈ G.L)
  mfr : ∀ j, j < G.n → ∀ i, mem (G.frw j) i = decide ((i, j) ∈ G.L)

/-- A graph in memory, at block b; F: its blocks. -/
def GraphAt (w : World) (b : Nat) (F : List Nat) (G : GM) : Prop :=
  ∃ (vt vf vl : Value) (ts fs : List Nat), w.heap[b]? = some (.cells #[vt, vf, vl, .bool true] 77 (0, 0)) ∧
    w.ownsRow 0 24 1 vt G.n (ptrs ts) ∧ w.ownsRow 0 24 1 vf G.n (ptrs fs) ∧ w.ownsRow 0 61 2 vl G.L.length (edgeCells G.L) ∧
    ts.length = G.n ∧ fs.length = G.n ∧ (∀ i, i < G.n → SetAt w (ts.getD i 0) (G.tow i)) ∧ (∀ i, i < G.n → SetAt w (fs.getD i 0) (G.frw i)) ∧
    G.ok ∧ F = b :: (ownL vt ++ ownL vf ++ ownL vl ++ ts ++ fs) ∧ F.Nodup

theorem is_any (b : Nat) (F : List Nat) (G : GM) (w : World) (h : GraphAt w b F G) :
    Calls Tryd.prog 88 #[.pointer (some ⟨b, 0, none⟩)] w fun e w' => e = .returned (.bool true) ∧ w = w' := by
  obtain ⟨vt, vf, vl, ts, fs, h1, -⟩ := h
  have c3 : w.cell? ⟨b, 3, none⟩ = some (.bool true) := cell_at 3 h1 rfl
  clear h1
  go_enter Tryd.func88, Tryd.ntmps88
  go_wp2_with fail
  go_ret
  exact ⟨rfl, rfl⟩

theorem is_nil (w : World) :
    Calls Tryd.prog 88 #[.pointer none] w fun e w' => e = .returned (.bool false) ∧ w = w' := by
  go_enter Tryd.func88, Tryd.ntmps88
  go_wp2_with fail
  go_ret
  exact ⟨rfl, rfl⟩

def inG (n : Nat) (a : Int) : Bool := decide (0 ≤ a ∧ a < (n : Int))

/-- A slice value of n cells, as len asks it. -/
theorem owns_slice {w : World} {base e size n : Nat} {v : Value} {xs : List Value} (h : w.ownsRow base e size v n xs) : ∃ ad c, v = .slice ad n c := by
  rcases owns_shape h with ⟨rfl, rfl⟩ | ⟨g, c, rfl, _⟩
  · exact ⟨none, 0, rfl⟩
  · exact ⟨_, _, rfl⟩

theorem node_any (b : Nat) (F : List Nat) (G : GM) (a : Int) (w : World) (h : GraphAt w b F G) :
    Calls Tryd.prog 89 #[.pointer (some ⟨b, 0, none⟩), .int .i64 a] w fun e w' => e = .returned (.bool (inG G.n a)) ∧ w = w' := by
  have HI := Lib.hid (is_any b F G w h)
  obtain ⟨vt, vf, vl, ts, fs, h1, ht, -⟩ := h
  obtain ⟨ad, c, rfl⟩ := owns_slice ht
  have c0 : w.cell? ⟨b, 0, none⟩ = some (.slice ad G.n c) := cell_at 0 h1 rfl
  clear h1 ht
  unfold inG
  generalize G.n = n at *
  by_cases h0 : 0 ≤ a
  · by_cases h1 : a < (n : Int)
    · rw [decide_eq_true ⟨h0, h1⟩]
      go_enter Tryd.func89, Tryd.ntmps89
      go_wp2_with fail
      go_fit HI.out
      rintro e w' ⟨rfl, rfl⟩
      go_wp2_with fail
      go_ret
      exact ⟨rfl, rfl⟩
    · rw [decide_eq_false (fun h => h1 h.2)]
      go_enter Tryd.func89, Tryd.ntmps89
      go_wp2_with fail
      go_fit HI.out
      rintro e w' ⟨rfl, rfl⟩
      go_wp2_with fail
      go_ret
      exact ⟨ret_bool (decide_eq_false (by omega)), rfl⟩
  · rw [decide_eq_false (fun h => h0 h.1)]
    go_enter Tryd.func89, Tryd.ntmps89
    go_wp2_with fail
    go_fit HI.out
    rintro e w' ⟨rfl, rfl⟩
    go_wp2_with fail
    go_ret
    exact ⟨rfl, rfl⟩

theorem glen_any (b : Nat) (F : List Nat) (G : GM) (w : World) (h : GraphAt w b F G) :
    Calls Tryd.prog 42 #[.pointer (some ⟨b, 0, none⟩)] w fun e w' => e = .returned (.int .i64 G.n) ∧ w = w' := by
  have HI := Lib.hid (is_any b F G w h)
  obtain ⟨vt, vf, vl, ts, fs, h1, ht, -⟩ := h
  obtain ⟨ad, c, rfl⟩ := owns_slice ht
  have c0 : w.cell? ⟨b, 0, none⟩ = some (.slice ad G.n c) := cell_at 0 h1 rfl
  clear h1 ht
  go_enter Tryd.func42, Tryd.ntmps42
  go_wp2_with fail
  go_fit HI.out
  rintro e w' ⟨rfl, rfl⟩
  go_wp2_with fail
  go_ret
  exact ⟨rfl, rfl⟩

theorem mark_any (b : Nat) (F : List Nat) (G : GM) (w : World) (h : GraphAt w b F G) :
    Calls Tryd.prog 43 #[.pointer (some ⟨b, 0, none⟩)] w fun e w' => e = .returned (.int .i64 G.L.length) ∧ w = w' := by
  have HI := Lib.hid (is_any b F G w h)
  obtain ⟨vt, vf, vl, ts, fs, h1, -, -, hl, -⟩ := h
  obtain ⟨ad, c, rfl⟩ := owns_slice hl
  have c0 : w.cell? ⟨b, 2, none⟩ = some (.slice ad G.L.length c) := cell_at 2 h1 rfl
  clear h1 hl
  go_enter Tryd.func43, Tryd.ntmps43
  go_wp2_with fail
  go_fit HI.out
  rintro e w' ⟨rfl, rfl⟩
  go_wp2_with fail
  go_ret
  exact ⟨rfl, rfl⟩
end Go.Proofs.YtafdijcolponjaaDoor

namespace Go.Proofs.YtafdijcolponjaaDoor
open Go.RowKit

theorem ptr_cell {w : World} {v : Value} {n : Nat} {ts : List Nat} {e : TypeId} (h : w.ownsRow 0 e 1 v n (ptrs ts)) {i : Nat} (hi : i < n) :
    ∃ g c, v = .slice (some ⟨g, 0, none⟩) n c ∧ w.cell? ⟨g, i, none⟩ = some (.pointer (some ⟨ts.getD i 0, 0, none⟩)) ∧ n ≤ 9223372036854775807 := by
  rcases owns_shape h with ⟨_, h0⟩ | ⟨g, c, rfl, hc, hm⟩
  · omega
  · refine ⟨g, c, rfl, ?_, by unfold maxLen at hm; omega⟩
    have h1 := h.1
    have hl : i < ts.length := by simp [ptrs] at h1; omega
    rw [h.cellAt i (by omega)]
    simp [ptrs, hl]

def GM.hasB (G : GM) (a z : Int) : Bool := inG G.n a && memZ (G.tow a.toNat) z

theorem ghas_any (b : Nat) (F : List Nat) (G : GM) (a z : Int) (w : World) (h : GraphAt w b F G) :
    Calls Tryd.prog 55 #[.pointer (some ⟨b, 0, none⟩), .int .i64 a, .int .i64 z] w fun e w' => e = .returned (.bool (G.hasB a z)) ∧ w = w' := by
  have hN := node_any b F G a w h
  obtain ⟨vt, vf, vl, ts, fs, h1, ht, -, -, -, -, hT, -⟩ := h
  unfold GM.hasB
  by_cases ha : 0 ≤ a ∧ a < (G.n : Int)
  · obtain ⟨i, rfl⟩ := Int.eq_ofNat_of_zero_le ha.1
    have hi : i < G.n := by omega
    have e1 : inG G.n (i : Int) = true := decide_eq_true ha
    rw [e1] at hN ⊢
    obtain ⟨g, c, rfl, c1, hmx⟩ := ptr_cell ht hi
    have c0 : w.cell? ⟨b, 0, none⟩ = some (.slice (some ⟨g, 0, none⟩) G.n c) := cell_at 0 h1 rfl
    have HH := Lib.hid (has_any _ z _ w (hT i hi))
    have HN := Lib.hid hN
    rw [Int.toNat_natCast, Bool.true_and]
    clear h1 ht hT e1 hN
    generalize G.n = n at *
    generalize ts.getD i 0 = p at *
    generalize memZ (G.tow i) z = m at *
    have h0 : (0 : Int) ≤ (i : Int) := by omega
    have h1 : (i : Int) < (n : Int) := by omega
    clear ha
    go_enter Tryd.func55, Tryd.ntmps55
    go_wp2_with fail
    go_fit HN.out
    rintro e w' ⟨rfl, rfl⟩
    go_wp2_with fail
    go_fit HH.out
    rintro e w' ⟨rfl, rfl⟩
    go_wp2_with fail
    go_ret
    exact ⟨rfl, rfl⟩
  · have e1 : inG G.n a = false := decide_eq_false ha
    rw [e1] at hN ⊢
    have HN := Lib.hid hN
    rw [Bool.false_and]
    clear h1 ht hT e1 hN ha
    go_enter Tryd.func55, Tryd.ntmps55
    go_wp2_with fail
    go_fit HN.out
    rintro e w' ⟨rfl, rfl⟩
    go_wp2_with fail
    go_ret
    exact ⟨rfl, rfl⟩

/-- What Next and Back make: nil, or a row of the call's own. -/
def ListEnds (l : List Nat) (w : World) (e : Ending) (w' : World) : Prop :=
  ∃ v, e = .returned v ∧ w'.ownsRow w.heap.size 3 1 v l.length (intl (natI l)) ∧ Below w.heap.size w w'
theorem owns_nil {w : World} {base e : Nat} : w.ownsRow base e 1 (.slice none 0 0) 0 [] := ⟨rfl, .inl ⟨rfl, rfl⟩⟩

def GM.nextL (G : GM) (a : Int) : List Nat := if inG G.n a = true then preL (G.tow a.toNat) 8 else []
def GM.backL (G : GM) (a : Int) : List Nat := if inG G.n a = true then preL (G.frw a.toNat) 8 else []

theorem next_any (b : Nat) (F : List Nat) (G : GM) (a : Int) (w : World) (h : GraphAt w b F G) (hTab : TabIs w) :
    Calls Tryd.prog 57 #[.pointer (some ⟨b, 0, none⟩), .int .i64 a] w (ListEnds (G.nextL a) w) := by
  have hN := node_any b F G a w h
  obtain ⟨vt, vf, vl, ts, fs, h1, ht, -, -, -, -, hT, -⟩ := h
  unfold GM.nextL
  by_cases ha : 0 ≤ a ∧ a < (G.n : Int)
  · obtain ⟨i, rfl⟩ := Int.eq_ofNat_of_zero_le ha.1
    have hi : i < G.n := by omega
    have e1 : inG G.n (i : Int) = true := decide_eq_true ha
    rw [if_pos e1]
    rw [e1] at hN
    obtain ⟨g, c, rfl, c1, hmx⟩ := ptr_cell ht hi
    have c0 : w.cell? ⟨b, 0, none⟩ = some (.slice (some ⟨g, 0, none⟩) G.n c) := cell_at 0 h1 rfl
    have HH := Lib.hid (all_any _ _ w (hT i hi) hTab)
    have HN := Lib.hid hN
    rw [Int.toNat_natCast]
    clear h1 ht hT e1 hN hTab
    generalize G.n = n at *
    generalize ts.getD i 0 = p at *
    generalize G.tow i = ws at *
    have h0 : (0 : Int) ≤ (i : Int) := by omega
    have h1 : (i : Int) < (n : Int) := by omega
    clear ha
    go_enter Tryd.func57, Tryd.ntmps57
    go_wp2_with fail
    go_fit HN.out
    rintro e w' ⟨rfl, rfl⟩
    go_wp2_with fail
    go_fit HH.out
    rintro e w' ⟨v, rfl, ho, hB⟩
    have HO := Lib.hid ho
    have HB := Lib.hid hB
    clear ho hB
    go_wp2_with fail
    go_ret
    exact ⟨_, rfl, HO.out, HB.out⟩
  · have e1 : inG G.n a = false := decide_eq_false ha
    rw [if_neg (by rw [e1]; exact Bool.false_ne_true)]
    rw [e1] at hN
    have HN := Lib.hid hN
    clear h1 ht hT e1 hN ha hTab
    go_enter Tryd.func57, Tryd.ntmps57
    go_wp2_with fail
    go_fit HN.out
    rintro e w' ⟨rfl, rfl⟩
    go_wp2_with fail
    go_ret
    exact ⟨_, rfl, owns_nil, Below.refl _ _⟩

theorem back_any (b : Nat) (F : List Nat) (G : GM) (a : Int) (w : World) (h : GraphAt w b F G) (hTab : TabIs w) :
    Calls Tryd.prog 59 #[.pointer (some ⟨b, 0, none⟩), .int .i64 a] w (ListEnds (G.backL a) w) := by
  have hN := node_any b F G a w h
  obtain ⟨vt, vf, vl, ts, fs, h1, -, ht, -, -, -, -, hT, -⟩ := h
  unfold GM.backL
  by_cases ha : 0 ≤ a ∧ a < (G.n : Int)
  · obtain ⟨i, rfl⟩ := Int.eq_ofNat_of_zero_le ha.1
    have hi : i < G.n := by omega
    have e1 : inG G.n (i : Int) = true := decide_eq_true ha
    rw [if_pos e1]
    rw [e1] at hN
    obtain ⟨g, c, rfl, c1, hmx⟩ := ptr_cell ht hi
    have c0 : w.cell? ⟨b, 1, none⟩ = some (.slice (some ⟨g, 0, none⟩) G.n c) := cell_at 1 h1 rfl
    have HH := Lib.hid (all_any _ _ w (hT i hi) hTab)
    have HN := Lib.hid hN
    rw [Int.toNat_natCast]
    clear h1 ht hT e1 hN hTab
    generalize G.n = n at *
    generalize fs.getD i 0 = p at *
    generalize G.frw i = ws at *
    have h0 : (0 : Int) ≤ (i : Int) := by omega
    have h1 : (i : Int) < (n : Int) := by omega
    clear ha
    go_enter Tryd.func59, Tryd.ntmps59
    go_wp2_with fail
    go_fit HN.out
    rintro e w' ⟨rfl, rfl⟩
    go_wp2_with fail
    go_fit HH.out
    rintro e w' ⟨v, rfl, ho, hB⟩
    have HO := Lib.hid ho
    have HB := Lib.hid hB
    clear ho hB
    go_wp2_with fail
    go_ret
    exact ⟨_, rfl, HO.out, HB.out⟩
  · have e1 : inG G.n a = false := decide_eq_false ha
    rw [if_neg (by rw [e1]; exact Bool.false_ne_true)]
    rw [e1] at hN
    have HN := Lib.hid hN
    clear h1 ht hT e1 hN ha hTab
    go_enter Tryd.func59, Tryd.ntmps59
    go_wp2_with fail
    go_fit HN.out
    rintro e w' ⟨rfl, rfl⟩
    go_wp2_with fail
    go_ret
    exact ⟨_, rfl, owns_nil, Below.refl _ _⟩
end Go.Proofs.YtafdijcolponjaaDoor

namespace Go.Proofs.YtafdijcolponjaaDoor
open Go.RowKit

theorem infoEdge : (Tryd.prog.info? 61).map (fun i => (i.zero, i.size, i.bytes)) = some (some (.agg #[.int .i64 0, .int .i64 0]), 2, 16) := by kernel_rfl

/-- What a call leaves of a graph. -/
def GEnds (b : Nat) (F : List Nat) (v : Value) (G : GM) (w : World) (e : Ending) (w' : World) : Prop :=
  e = .returned v ∧ ∃ F', GraphAt w' b F' G ∧ (∀ k ∈ F', k ∈ F ∨ w.heap.size ≤ k) ∧ Chg (· ∈ F) w w'

def two (x : Bool) (c : Int) : Value := .tuple #[.bool x, .int .i64 c]

theorem gput_no (b : Nat) (F : List Nat) (G : GM) (a z : Int) (w : World) (h : GraphAt w b F G) (hn : ¬ (inG G.n a = true ∧ inG G.n z = true)) :
    Calls Tryd.prog 48 #[.pointer (some ⟨b, 0, none⟩), .int .i64 a, .int .i64 z] w fun e w' => e = .returned (two false 2) ∧ w = w' := by
  have HI := Lib.hid (is_any b F G w h)
  have HA := Lib.hid (node_any b F G a w h)
  have HZ := Lib.hid (node_any b F G z w h)
  clear h
  cases ha : inG G.n a with
  | false =>
    rw [ha] at HA
    clear hn ha
    go_enter Tryd.func48, Tryd.ntmps48
    go_wp2_with fail
    go_fit HI.out
    rintro e w' ⟨rfl, rfl⟩
    go_wp2_with fail
    go_fit HA.out
    rintro e w' ⟨rfl, rfl⟩
    go_wp2_with fail
    go_ret2
    exact ⟨rfl, rfl⟩
  | true =>
    have hz : inG G.n z = false := by
      cases h : inG G.n z with
      | false => rfl
      | true => exact absurd ⟨ha, h⟩ hn
    rw [ha] at HA
    rw [hz] at HZ
    clear hn ha hz
    go_enter Tryd.func48, Tryd.ntmps48
    go_wp2_with fail
    go_fit HI.out
    rintro e w' ⟨rfl, rfl⟩
    go_wp2_with fail
    go_fit HA.out
    rintro e w' ⟨rfl, rfl⟩
    go_wp2_with fail
    go_fit HZ.out
    rintro e w' ⟨rfl, rfl⟩
    go_wp2_with fail
    go_ret2
    exact ⟨rfl, rfl⟩

theorem gput_has (b : Nat) (F : List Nat) (G : GM) (a z : Int) (w : World) (h : GraphAt w b F G) (ha : inG G.n a = true) (hz : inG G.n z = true) (hh : G.hasB a z = true) :
    Calls Tryd.prog 48 #[.pointer (some ⟨b, 0, none⟩), .int .i64 a, .int .i64 z] w fun e w' => e = .returned (two false 0) ∧ w = w' := by
  have HI := Lib.hid (is_any b F G w h)
  have HA := Lib.hid (node_any b F G a w h)
  have HZ := Lib.hid (node_any b F G z w h)
  have HH := Lib.hid (ghas_any b F G a z w h)
  rw [ha] at HA
  rw [hz] at HZ
  rw [hh] at HH
  clear h ha hz hh
  go_enter Tryd.func48, Tryd.ntmps48
  go_wp2_with fail
  go_fit HI.out
  rintro e w' ⟨rfl, rfl⟩
  go_wp2_with fail
  go_fit HA.out
  rintro e w' ⟨rfl, rfl⟩
  go_wp2_with fail
  go_fit HZ.out
  rintro e w' ⟨rfl, rfl⟩
  go_wp2_with fail
  go_fit HH.out
  rintro e w' ⟨rfl, rfl⟩
  go_wp2_with fail
  go_ret2
  exact ⟨rfl, rfl⟩

def GM.put (G : GM) (i j : Nat) : GM :=
  { G with L := G.L ++ [(i, j)], tow := fun k => if k = i then putW (G.tow i) j else G.tow k, frw := fun k => if k = j then putW (G.frw j) i else G.frw k }

theorem GM.put_ok {G : GM} (h : G.ok) (h8 : ∀ i, i < G.n → (G.tow i).length = 8 ∧ (G.frw i).length = 8) {i j : Nat} (hi : i < G.n) (hj : j < G.n) (hn : (i, j) ∉ G.L) : (G.put i j).ok := by
  have hn5 := h.n500
  refine ⟨h.n500, ?_, ?_, ?_, ?_⟩
  · intro e he
    rcases List.mem_append.1 he with he | he
    · exact h.inr e he
    · simp only [List.mem_singleton] at he; subst he; exact ⟨hi, hj⟩
  · refine List.nodup_append.2 ⟨h.once, by simp, ?_⟩
    intro e he e' he' heq
    simp only [List.mem_singleton] at he'
    subst he' heq
    exact hn he
  · intro k hk m
    show mem (if k = i then putW (G.tow i) j else G.tow k) m = decide ((k, m) ∈ G.L ++ [(i, j)])
    by_cases e : k = i
    · subst e
      rw [if_pos rfl, mem_put (by have := (h8 k hk).1; omega), h.mto k hk]
      by_cases e2 : m = j
      · subst e2; simp
      · simp [e2]
    · rw [if_neg e, h.mto k hk]
      simp [e]
  · intro k hk m
    show mem (if k = j then putW (G.frw j) i else G.frw k) m = decide ((m, k) ∈ G.L ++ [(i, j)])
    by_cases e : k = j
    · subst e
      rw [if_pos rfl, mem_put (by have := (h8 k hk).2; omega), h.mfr k hk]
      by_cases e2 : m = i
      · subst e2; simp
      · simp [e2]
    · rw [if_neg e, h.mfr k hk]
      simp [e]

theorem getD_of_mem {l : List Nat} {x : Nat} (h : x ∈ l) : ∃ i, i < l.length ∧ l.getD i 0 = x := by
  obtain ⟨i, hi, he⟩ := List.getElem_of_mem h
  exact ⟨i, hi, by rw [List.getD_eq_getElem?_getD, List.getElem?_eq_getElem hi]; exact he⟩
theorem getD_inj {l : List Nat} (h : l.Nodup) {i j : Nat} (hi : i < l.length) (hj : j < l.length) (he : l.getD i 0 = l.getD j 0) : i = j := by
  rw [List.getD_eq_getElem?_getD, List.getD_eq_getElem?_getD, List.getElem?_eq_getElem hi, List.getElem?_eq_getElem hj] at he
  have he' : l[i] = l[j] := he
  rcases Nat.lt_trichotomy i j with g | g | g
  · exact absurd he' (List.pairwise_iff_getElem.1 h i j hi hj g)
  · exact g
  · exact absurd he'.symm (List.pairwise_iff_getElem.1 h j i hj hi g)

/-- All its blocks are there. -/
theorem graph_lt {w : World} {b : Nat} {F : List Nat} {G : GM} (h : GraphAt w b F G) : ∀ k ∈ F, k < w.heap.size := by
  obtain ⟨vt, vf, vl, ts, fs, h1, ht, hf, hl, hts, hfs, hT, hR, -, rfl, -⟩ := h
  intro k hk
  simp only [List.mem_cons, List.mem_append] at hk
  rcases hk with rfl | (((hk | hk) | hk) | hk) | hk
  · exact lt_of_block h1
  · exact owns_lt ht k (mem_ownL.1 hk)
  · exact owns_lt hf k (mem_ownL.1 hk)
  · exact owns_lt hl k (mem_ownL.1 hk)
  · obtain ⟨i, hi, rfl⟩ := getD_of_mem hk
    exact lt_of_block (hT i (by omega)).1
  · obtain ⟨i, hi, rfl⟩ := getD_of_mem hk
    exact lt_of_block (hR i (by omega)).1

/-- One block of a footprint for another, that was there or is new. -/
theorem nodup_swap {A X B : List Nat} {g H : Nat} (hN : (A ++ X ++ B).Nodup) (hlt : ∀ k ∈ A ++ B, k < H) (hg : g ∈ X ∨ H ≤ g) : (A ++ [g] ++ B).Nodup := by
  simp only [List.nodup_append, List.mem_append, List.mem_singleton] at hN ⊢
  obtain ⟨⟨hA, -, hAX⟩, hB, hAB⟩ := hN
  refine ⟨⟨hA, by simp, ?_⟩, hB, ?_⟩
  · rintro a ha c rfl
    rcases hg with hg | hg
    · exact hAX a ha c hg
    · have := hlt a (List.mem_append_left _ ha); omega
  · rintro a (ha | rfl) c hc
    · exact hAB a (.inl ha) c hc
    · rcases hg with hg | hg
      · exact hAB a (.inr hg) c hc
      · have := hlt c (List.mem_append_right _ hc); omega
end Go.Proofs.YtafdijcolponjaaDoor

namespace Go.Proofs.YtafdijcolponjaaDoor
open Go.RowKit

theorem mem_getD {l : List Nat} {i : Nat} (h : i < l.length) : l.getD i 0 ∈ l := by
  rw [List.getD_eq_getElem?_getD, List.getElem?_eq_getElem h]
  exact List.getElem_mem h

theorem edge_new (w : World) (x y : Int) (t : TypeId) : ∀ j u, [Value.int .i64 x, .int .i64 y][j]? = some u → (w.alloc (.cells #[.int .i64 x, .int .i64 y] t)).cell? ((⟨w.heap.size, 0, none⟩ : Addr).add j) = some u := by
  intro j u hj
  match j, hj with
  | 0, hj => simp at hj; subst hj; exact cell_at 0 (heap_new _ _) rfl
  | 1, hj => simp at hj; subst hj; exact cell_at 1 (heap_new _ _) rfl
  | j + 2, hj => simp at hj
theorem edge_cell (x y : Int) : ∀ u ∈ [Value.int .i64 x, .int .i64 y], u.oneCell' = true := by
  intro u hu
  simp at hu
  rcases hu with rfl | rfl <;> rfl

set_option maxHeartbeats 1000000 in
theorem gput_new (b : Nat) (F : List Nat) (G : GM) (i j : Nat) (w : World) (h : GraphAt w b F G) (hi : i < G.n) (hj : j < G.n) (hn : G.hasB i j = false) (hlen : G.L.length ≤ 1099511627776) :
    Calls Tryd.prog 48 #[.pointer (some ⟨b, 0, none⟩), .int .i64 i, .int .i64 j] w (GEnds b F (two true 0) (G.put i j) w) := by
  have HI := Lib.hid (is_any b F G w h)
  have hA := node_any b F G i w h
  have hZ := node_any b F G j w h
  have hH := ghas_any b F G i j w h
  have n5 := (by obtain ⟨_, _, _, _, _, _, _, _, _, _, _, _, _, hok, _⟩ := h; exact hok.n500 : G.n ≤ 500)
  rw [show inG G.n (i : Int) = true from decide_eq_true (by omega)] at hA
  rw [show inG G.n (j : Int) = true from decide_eq_true (by omega)] at hZ
  rw [hn] at hH
  have HA := Lib.hid hA
  have HZ := Lib.hid hZ
  have HH := Lib.hid hH
  have HG := Lib.hid h
  obtain ⟨vt, vf, vl, ts, fs, h1, ht, hf, hl, hts, hfs, hT, hR, hok, hF, hN⟩ := h
  obtain ⟨gt, ct, rfl, ct1, hmx⟩ := ptr_cell ht hi
  obtain ⟨gf, cf, rfl, cf1, -⟩ := ptr_cell hf hj
  have hpt := mem_getD (l := ts) (i := i) (by omega)
  have hpf := mem_getD (l := fs) (i := j) (by omega)
  have hN2 := hN
  rw [hF] at hN2
  simp only [ownL_some, List.nodup_cons, List.nodup_append, List.mem_append, List.mem_singleton, not_or] at hN2
  have HT := Lib.hid (hT i hi)
  have HR := Lib.hid (hR j hj)
  generalize hp : ts.getD i 0 = p at *
  generalize hq : fs.getD j 0 = q at *
  have KP := Lib.hid hp
  have KQ := Lib.hid hq
  clear hp hq
  have c0 : w.cell? ⟨b, 0, none⟩ = some (.slice (some ⟨gt, 0, none⟩) G.n ct) := cell_at 0 h1 rfl
  have HP := Lib.hid (put_yes p j _ w HT.out (by omega))
  obtain ⟨⟨⟨⟨⟨hbt, hbf⟩, hbl⟩, hbts⟩, hbfs⟩, ⟨⟨⟨⟨-, -, htf⟩, -, htl⟩, -, hts'⟩, -, hfs'⟩⟩ := hN2
  have hbp : b ≠ p := fun e => hbts (e ▸ hpt)
  have hbq : b ≠ q := fun e => hbfs (e ▸ hpf)
  have htp : gt ≠ p := hts' gt (.inl (.inl rfl)) p hpt
  have hfp : gf ≠ p := hts' gf (.inl (.inr rfl)) p hpt
  have hpq : p ≠ q := hfs' p (.inr hpt) q hpf
  have hlp : ∀ k, k ∈ ownL vl → k ≠ p := fun k hk => hts' k (.inr hk) p hpt
  have hlq : ∀ k, k ∈ ownL vl → k ≠ q := fun k hk => hfs' k (.inl (.inr hk)) q hpf
  have hbw := lt_of_block h1
  have hpw := lt_of_block HT.out.1
  have hqw := lt_of_block HR.out.1
  have hgfw : gf < w.heap.size := World.block_lt_of_cell? w _ cf1
  have hi0 : (0 : Int) ≤ (i : Int) := by omega
  have hi1 : (i : Int) < (G.n : Int) := by omega
  have hj0 : (0 : Int) ≤ (j : Int) := by omega
  have hj1 : (j : Int) < (G.n : Int) := by omega
  have H1 := Lib.hid h1
  have HL := Lib.hid hl
  have KT := Lib.hid ht
  have KF := Lib.hid hf
  have KTs := Lib.hid hT
  have KFs := Lib.hid hR
  have KOk := Lib.hid hok
  have KFp := Lib.hid hF
  have KN := Lib.hid hN
  have KPt := Lib.hid hpt
  have KPf := Lib.hid hpf
  have KH := Lib.hid hn
  clear hA hZ hH hN hF hok hT hR ht hf hl htf htl hts' hfs' hpt hpf hbts hbfs hn
  go_enter Tryd.func48, Tryd.ntmps48
  go_wp2_with fail
  go_fit HI.out
  rintro e w' ⟨rfl, rfl⟩
  go_wp2_with fail
  go_fit HA.out
  rintro e w' ⟨rfl, rfl⟩
  go_wp2_with fail
  go_fit HZ.out
  rintro e w' ⟨rfl, rfl⟩
  go_wp2_with fail
  go_fit HH.out
  rintro e w' ⟨rfl, rfl⟩
  go_wp2_with fail
  go_fit HP.out
  rintro e w1 ⟨rfl, hS1, hC1⟩
  have hb1 := (hC1.block b hbw hbp).trans H1.out
  have cb1 : w1.cell? ⟨b, 1, none⟩ = some (.slice (some ⟨gf, 0, none⟩) G.n cf) := cell_at 1 hb1 rfl
  have cf2 := (World.cell?_of_block (a := ⟨gf, j, none⟩) (hC1.block gf hgfw hfp)).trans cf1
  have hR1 : SetAt w1 q (G.frw j) := ⟨(hC1.block q hqw (Ne.symm hpq)).trans HR.out.1, HR.out.2⟩
  have HQ := Lib.hid (put_yes q i _ w1 hR1 (by omega))
  have HS1 := Lib.hid hS1
  have HC1 := Lib.hid hC1
  have HB1 := Lib.hid hb1
  clear hS1 hC1 hb1 hR1
  go_wp2_with fail
  go_fit HQ.out
  rintro e w2 ⟨rfl, hS2, hC2⟩
  have hz1 := HC1.out.size
  have hb2 := (hC2.block b (by omega) hbq).trans HB1.out
  have cb2 : w2.cell? ⟨b, 2, none⟩ = some vl := cell_at 2 hb2 rfl
  have hl2 : w2.ownsRow 0 61 2 vl G.L.length (edgeCells G.L) := owns_chg (owns_chg HL.out HC1.out hlp) hC2 hlq
  have HL2 := Lib.hid hl2
  have HS2 := Lib.hid hS2
  have HC2 := Lib.hid hC2
  have HB2 := Lib.hid hb2
  obtain ⟨i0, hie, hz0, hz2, hz3⟩ := info_parts infoEdge
  have HM : Hid (G.L.length + 1 ≤ maxLen ∧ (G.L.length + 1) * 16 ≤ 140737488355328) := by
    show _ ∧ _
    unfold maxLen; omega
  clear hS2 hC2 hb2 hl2 hz1
  go_wp2_with (first | (at_builtin; go_loud (refine wpList_append_lies _ rfl _ _ 53 rfl 0 61 i0 (.agg #[.int .i64 0, .int .i64 0]) 2 16 Tryd.underlying53 hie hz0 hz2 hz3 rfl (by decide) vl G.L.length (edgeCells G.L) rfl (HL2.out.alloc _) ⟨w2.heap.size, 0, none⟩ 1 1 [.int .i64 i, .int .i64 j] rfl rfl (edge_new w2 _ _ _) (edge_cell _ _) (by decide) HM.out.1 HM.out.2 (Nat.zero_le _) (w2.heap.size + 1) (by simp) ?_)) | fail)
  intro g c w3 hown3 hgrow hat hg3
  have hz1 := HC1.out.size
  have hz2 := HC2.out.size
  have hb3 := (hgrow.block b (by simp; omega) (fun e => hbl (mem_ownL.2 e.symm))).trans ((heap_alloc_lt (w := w2) (o := .cells #[.int .i64 i, .int .i64 j] 61) (k := b) (by omega)).trans HB2.out)
  have cb3 := cell_at 2 hb3 rfl
  have fb3 := free_at 2 hb3
  have HB3 := Lib.hid hb3
  have HO3 := Lib.hid hown3
  have HGr := Lib.hid hgrow
  have HAt := Lib.hid hat
  clear hb3 hown3 hgrow hat hz1 hz2
  go_wp2_with fail
  go_ret2
  refine ⟨rfl, ?_⟩
  have hlt := graph_lt HG.out
  have hF := KFp.out
  have hN := KN.out
  rw [hF] at hN hlt
  have ck : ∀ k, k < w.heap.size → k ≠ p → k ≠ q → k ∉ ownL vl → k ≠ b → (w3.setCell ⟨b, 2, none⟩ (.slice (some ⟨g, 0, none⟩) (G.L.length + 1) c)).heap[k]? = w.heap[k]? := by
    intro k hk kp kq kl kb
    have z1 := HC1.out.size
    have z2 := HC2.out.size
    rw [heap_set_ne 2 _ kb, HGr.out.block k (by simp; omega) (fun e => kl (mem_ownL.2 e.symm)), heap_alloc_lt (by omega), HC2.out.block k (by omega) kq, HC1.out.block k hk kp]
  have hN2 := hN
  simp only [ownL_some, List.nodup_cons, List.nodup_append, List.mem_append, List.mem_singleton, not_or] at hN2
  obtain ⟨⟨⟨⟨⟨-, -⟩, -⟩, hbts⟩, hbfs⟩, ⟨⟨⟨⟨-, -, htf⟩, -, htl⟩, hnt, hts'⟩, hnf, hfs'⟩⟩ := hN2
  have hpt := KPt.out
  have hpf := KPf.out
  have hlw : ∀ k, k ∈ b :: (ownL (.slice (some ⟨gt, 0, none⟩) G.n ct) ++ ownL (.slice (some ⟨gf, 0, none⟩) G.n cf) ++ ownL vl ++ ts ++ fs) → k < w.heap.size := hlt
  have z1 := HC1.out.size
  have z2 := HC2.out.size
  have hpl : p ∉ ownL vl := fun h => hlp p h rfl
  have hql : q ∉ ownL vl := fun h => hlq q h rfl
  have cp : (w3.setCell ⟨b, 2, none⟩ (.slice (some ⟨g, 0, none⟩) (G.L.length + 1) c)).heap[p]? = w1.heap[p]? := by
    rw [heap_set_ne 2 _ (Ne.symm hbp), HGr.out.block p (by simp; omega) (fun e => hpl (mem_ownL.2 e.symm)), heap_alloc_lt (by omega), HC2.out.block p (by omega) hpq]
  have cq : (w3.setCell ⟨b, 2, none⟩ (.slice (some ⟨g, 0, none⟩) (G.L.length + 1) c)).heap[q]? = w2.heap[q]? := by
    rw [heap_set_ne 2 _ (Ne.symm hbq), HGr.out.block q (by simp; omega) (fun e => hql (mem_ownL.2 e.symm)), heap_alloc_lt (by omega)]
  have hgw : g ∈ ownL vl ∨ w.heap.size ≤ g := by
    rcases HAt.out with h | h
    · exact .inl (mem_ownL.2 h)
    · right; omega
  have hgb : g ≠ b := by
    rintro rfl
    rcases hgw with h | h
    · exact hbl h
    · omega
  refine ⟨b :: (ownL (.slice (some ⟨gt, 0, none⟩) G.n ct) ++ ownL (.slice (some ⟨gf, 0, none⟩) G.n cf) ++ ownL (.slice (some ⟨g, 0, none⟩) (G.L.length + 1) c) ++ ts ++ fs), ⟨_, _, _, ts, fs, ?_, ?_, ?_, ?_, hts, hfs, ?_, ?_, ?_, rfl, ?_⟩, ?_, ?_⟩
  · have := heap_set 2 (.slice (some ⟨g, 0, none⟩) (G.L.length + 1) c) HB3.out
    rw [this]; rfl
  · exact owns_of_heap KT.out fun k hk => by
      cases hk
      exact ck gt (hlw gt (by simp [ownL_some])) htp (hfs' gt (.inl (.inl (.inl rfl))) q hpf) (fun h => htl gt (.inl rfl) gt h rfl) (Ne.symm hbt)
  · exact owns_of_heap KF.out fun k hk => by
      cases hk
      exact ck gf hgfw hfp (hfs' gf (.inl (.inl (.inr rfl))) q hpf) (fun h => htl gf (.inr rfl) gf h rfl) (Ne.symm hbf)
  · have e1 : edgeCells (G.put i j).L = edgeCells G.L ++ [.int .i64 (i : Int), .int .i64 (j : Int)] := by simp [GM.put, edgeCells]
    have e2 : (G.put i j).L.length = G.L.length + 1 := by simp [GM.put]
    rw [e1, e2]
    exact owns_of_heap HO3.out fun k hk => by cases hk; exact heap_set_ne 2 _ hgb
  · intro k hk
    show SetAt _ _ (if k = i then putW (G.tow i) j else G.tow k)
    by_cases e : k = i
    · subst e
      rw [if_pos rfl, KP.out]
      exact ⟨cp.trans HS1.out.1, HS1.out.2⟩
    · rw [if_neg e]
      have hm := mem_getD (l := ts) (i := k) (by have : k < G.n := hk; omega)
      have hs := KTs.out k hk
      refine ⟨(ck _ (lt_of_block hs.1) (fun h => e (getD_inj hnt (by have : k < G.n := hk; omega) (by omega) (h.trans KP.out.symm))) (hfs' _ (.inr hm) q hpf) (fun h => hts' _ (.inr h) _ hm rfl) (fun h => hbts (h ▸ hm))).trans hs.1, hs.2⟩
  · intro k hk
    show SetAt _ _ (if k = j then putW (G.frw j) i else G.frw k)
    by_cases e : k = j
    · subst e
      rw [if_pos rfl, KQ.out]
      exact ⟨cq.trans HS2.out.1, HS2.out.2⟩
    · rw [if_neg e]
      have hm := mem_getD (l := fs) (i := k) (by have : k < G.n := hk; omega)
      have hs := KFs.out k hk
      refine ⟨(ck _ (lt_of_block hs.1) (fun h => hfs' p (.inr hpt) _ hm h.symm) (fun h => e (getD_inj hnf (by have : k < G.n := hk; omega) (by omega) (h.trans KQ.out.symm))) (fun h => hfs' _ (.inl (.inr h)) _ hm rfl) (fun h => hbfs (h ▸ hm))).trans hs.1, hs.2⟩
  · refine GM.put_ok KOk.out (fun k hk => ⟨(KTs.out k hk).2.1, (KFs.out k hk).2.1⟩) hi hj fun hmem => ?_
    have h1 := KH.out
    unfold GM.hasB memZ at h1
    rw [show inG G.n (i : Int) = true from decide_eq_true (by omega), decide_eq_true (by omega), Bool.true_and, Bool.true_and, Int.toNat_natCast, Int.toNat_natCast, KOk.out.mto i hi, decide_eq_true hmem] at h1
    cases h1
  · have := nodup_swap (A := b :: [gt, gf]) (X := ownL vl) (B := ts ++ fs) (g := g) (H := w.heap.size) (by simpa [ownL_some, List.append_assoc] using hN) (fun k hk => hlw k (by simp [ownL_some] at hk ⊢; rcases hk with h | h | h | h | h <;> simp [h])) hgw
    simpa [ownL_some, List.append_assoc] using this
  · intro k hk
    rw [hF]
    simp only [ownL_some, List.mem_cons, List.mem_append, List.not_mem_nil, or_false] at hk ⊢
    rcases hk with hk | (((hk | hk) | hk) | hk) | hk
    · exact .inl (.inl hk)
    · exact .inl (.inr (.inl (.inl (.inl (.inl hk)))))
    · exact .inl (.inr (.inl (.inl (.inl (.inr hk)))))
    · subst hk
      rcases hgw with h | h
      · exact .inl (.inr (.inl (.inl (.inr h))))
      · exact .inr h
    · exact .inl (.inr (.inl (.inr hk)))
    · exact .inl (.inr (.inr hk))
  · have hpF : p ∈ F := by rw [hF]; simp [hpt]
    have hqF : q ∈ F := by rw [hF]; simp [hpf]
    have hbF : b ∈ F := by rw [hF]; simp
    have hlF : ∀ k, vl.ownBlock = some k → k ∈ F := fun k hk => by rw [hF]; simp [mem_ownL.2 hk]
    exact ((((HC1.out.mono fun k _ e => e ▸ hpF).trans (HC2.out.mono fun k _ e => e ▸ hqF)).alloc _).trans (chg_grown HGr.out hlF)).setCell (.inl hbF) _
end Go.Proofs.YtafdijcolponjaaDoor

namespace Go.Proofs.YtafdijcolponjaaDoor
open Go.RowKit

def GM.pop (G : GM) (i j : Nat) : GM :=
  { G with L := G.L.dropLast, tow := fun k => if k = i then dropW (G.tow i) j else G.tow k, frw := fun k => if k = j then dropW (G.frw j) i else G.frw k }

theorem mem_dropLast {L : List (Nat × Nat)} {x : Nat × Nat} (hN : (L ++ [x]).Nodup) (e : Nat × Nat) : e ∈ L ↔ (e ∈ L ++ [x] ∧ e ≠ x) := by
  rw [List.nodup_append] at hN
  simp only [List.mem_append, List.mem_singleton]
  constructor
  · intro h
    exact ⟨.inl h, hN.2.2 e h x (by simp)⟩
  · rintro ⟨h | h, hne⟩
    · exact h
    · exact absurd h hne

theorem GM.pop_ok {G : GM} (h : G.ok) (h8 : ∀ i, i < G.n → (G.tow i).length = 8 ∧ (G.frw i).length = 8) {i j : Nat} {L : List (Nat × Nat)} (hL : G.L = L ++ [(i, j)]) : (G.pop i j).ok := by
  have hn5 := h.n500
  have hij : i < G.n ∧ j < G.n := h.inr (i, j) (by rw [hL]; simp)
  have hN := h.once
  rw [hL] at hN
  have hm := mem_dropLast hN
  have hd : (G.pop i j).L = L := by show G.L.dropLast = L; rw [hL]; simp
  refine ⟨h.n500, ?_, ?_, ?_, ?_⟩
  · intro e he
    rw [hd] at he
    exact h.inr e (by rw [hL]; exact List.mem_append_left _ he)
  · rw [hd]; exact (List.nodup_append.1 hN).1
  · intro k hk m
    rw [hd]
    show mem (if k = i then dropW (G.tow i) j else G.tow k) m = decide ((k, m) ∈ L)
    have e0 : ((k, m) ∈ L) ↔ ((k, m) ∈ G.L ∧ ¬ (k = i ∧ m = j)) := by rw [hm, hL]; simp
    have e1 : decide ((k, m) ∈ L) = decide ((k, m) ∈ G.L ∧ ¬ (k = i ∧ m = j)) := decide_eq_decide.2 e0
    rw [e1]
    clear e1 e0
    by_cases e : k = i
    · subst e
      rw [if_pos rfl, mem_drop (by have := (h8 k hk).1; omega), h.mto k hk]
      by_cases e2 : m = j <;> simp [e2]
    · rw [if_neg e, h.mto k hk]
      simp [e]
  · intro k hk m
    rw [hd]
    show mem (if k = j then dropW (G.frw j) i else G.frw k) m = decide ((m, k) ∈ L)
    have e0 : ((m, k) ∈ L) ↔ ((m, k) ∈ G.L ∧ ¬ (m = i ∧ k = j)) := by rw [hm, hL]; simp
    have e1 : decide ((m, k) ∈ L) = decide ((m, k) ∈ G.L ∧ ¬ (m = i ∧ k = j)) := decide_eq_decide.2 e0
    rw [e1]
    clear e1 e0
    by_cases e : k = j
    · subst e
      rw [if_pos rfl, mem_drop (by have := (h8 k hk).2; omega), h.mfr k hk]
      rcases Decidable.em (m = i) with e2 | e2
      · simp [e2]
      · simp [e2]
    · rw [if_neg e, h.mfr k hk]
      simp [e]
end Go.Proofs.YtafdijcolponjaaDoor

namespace Go.Proofs.YtafdijcolponjaaDoor
open Go.RowKit

theorem GraphAt.frame {w w' : World} {b : Nat} {F : List Nat} {G : GM} (h : GraphAt w b F G) (hb : ∀ k ∈ F, w'.heap[k]? = w.heap[k]?) : GraphAt w' b F G := by
  obtain ⟨vt, vf, vl, ts, fs, h1, ht, hf, hl, hts, hfs, hT, hR, hok, rfl, hN⟩ := h
  refine ⟨vt, vf, vl, ts, fs, (hb b (by simp)).trans h1, owns_of_heap ht fun k hk => hb k ?_, owns_of_heap hf fun k hk => hb k ?_, owns_of_heap hl fun k hk => hb k ?_, hts, hfs, fun i hi => ⟨(hb _ ?_).trans (hT i hi).1, (hT i hi).2⟩, fun i hi => ⟨(hb _ ?_).trans (hR i hi).1, (hR i hi).2⟩, hok, rfl, hN⟩
  · simp [mem_ownL.2 hk]
  · simp [mem_ownL.2 hk]
  · simp [mem_ownL.2 hk]
  · have := mem_getD (l := ts) (i := i) (by omega)
    simp only [List.mem_cons, List.mem_append]
    exact .inr (.inl (.inr this))
  · have := mem_getD (l := fs) (i := i) (by omega)
    simp only [List.mem_cons, List.mem_append]
    exact .inr (.inr this)

theorem GraphAt.alloc {w : World} {b : Nat} {F : List Nat} {G : GM} (h : GraphAt w b F G) (o : Obj) : GraphAt (w.alloc o) b F G :=
  h.frame fun k hk => heap_alloc_lt (graph_lt h k hk)
theorem GraphAt.drew {w : World} {b : Nat} {F : List Nat} {G : GM} (h : GraphAt w b F G) : GraphAt w.drew b F G := h
theorem GraphAt.drewN {w : World} {b : Nat} {F : List Nat} {G : GM} (h : GraphAt w b F G) (n : Nat) : GraphAt (w.drewN n) b F G := h
theorem GraphAt.below {w w' : World} {b : Nat} {F : List Nat} {G : GM} (h : GraphAt w b F G) {B : Nat} (hb : Below B w w') (hB : w.heap.size ≤ B) : GraphAt w' b F G :=
  h.frame fun k hk => hb.block k (Nat.lt_of_lt_of_le (graph_lt h k hk) hB)

theorem edgeCells_append (L : List (Nat × Nat)) (x : Nat × Nat) : edgeCells (L ++ [x]) = edgeCells L ++ [.int .i64 (x.1 : Int), .int .i64 (x.2 : Int)] := by simp [edgeCells]
theorem edgeCells_len (L : List (Nat × Nat)) : (edgeCells L).length = L.length * 2 := by
  induction L with
  | nil => rfl
  | cons x L ih => simp only [edgeCells, List.flatMap_cons, List.length_append, List.length_cons, List.length_nil] at ih ⊢; omega
end Go.Proofs.YtafdijcolponjaaDoor

namespace Go.Proofs.YtafdijcolponjaaDoor
open Go.RowKit

theorem preL_filter (ws : List Nat) : ∀ k, preL ws k = (List.range (k * 64)).filter (mem ws)
  | 0 => by simp [preL]
  | k + 1 => by
    rw [preL_succ, preL_filter ws k, Nat.succ_mul, List.range_add, List.filter_append, List.filter_map]
    congr 2
    unfold bitL
    refine List.filter_congr fun i hi => ?_
    have hi' : i < 64 := List.mem_range.1 hi
    show _ = mem ws (k * 64 + i)
    unfold mem
    rw [show (k * 64 + i) / 64 = k by omega, show (k * 64 + i) % 64 = i by omega]

theorem filter_range_le (p : Nat → Bool) (n m : Nat) (h : n ≤ m) (hp : ∀ i, n ≤ i → p i = false) : (List.range m).filter p = (List.range n).filter p := by
  obtain ⟨d, rfl⟩ := Nat.le.dest h
  rw [List.range_add, List.filter_append]
  have : ((List.range d).map (n + ·)).filter p = [] := by
    rw [List.filter_eq_nil_iff]
    intro a ha
    obtain ⟨i, _, rfl⟩ := List.mem_map.1 ha
    rw [hp _ (by omega)]; simp
  rw [this, List.append_nil]

/-- The document's Has, Next, Back. -/
def hasR (L : List (Nat × Nat)) (a z : Int) : Bool := L.any fun e => decide ((e.1 : Int) = a) && decide ((e.2 : Int) = z)
theorem hasR_iff {L : List (Nat × Nat)} {a z : Int} : hasR L a z = true ↔ ∃ e ∈ L, (e.1 : Int) = a ∧ (e.2 : Int) = z := by
  simp [hasR]
theorem hasR_nat (L : List (Nat × Nat)) (i j : Nat) : hasR L i j = decide ((i, j) ∈ L) := by
  rw [Bool.eq_iff_iff, hasR_iff, decide_eq_true_iff]
  constructor
  · rintro ⟨⟨x, y⟩, he, h1, h2⟩
    have h1' : x = i := Int.ofNat.inj h1
    have h2' : y = j := Int.ofNat.inj h2
    subst h1' h2'; exact he
  · intro h; exact ⟨_, h, rfl, rfl⟩
theorem hasR_out {L : List (Nat × Nat)} {n : Nat} (h : ∀ e ∈ L, e.1 < n ∧ e.2 < n) {a z : Int} (ho : ¬ ((0 ≤ a ∧ a < (n : Int)) ∧ (0 ≤ z ∧ z < (n : Int)))) : hasR L a z = false := by
  rw [Bool.eq_false_iff]
  intro ht
  obtain ⟨e, he, h1, h2⟩ := hasR_iff.1 ht
  have := h e he
  omega
theorem GM.has_eq {G : GM} (h : G.ok) (a z : Int) : G.hasB a z = hasR G.L a z := by
  have h5 := h.n500
  unfold GM.hasB inG memZ
  by_cases ha : 0 ≤ a ∧ a < (G.n : Int)
  · obtain ⟨i, rfl⟩ := Int.eq_ofNat_of_zero_le ha.1
    rw [decide_eq_true ha, Bool.true_and, Int.toNat_natCast]
    by_cases hz : 0 ≤ z
    · obtain ⟨j, rfl⟩ := Int.eq_ofNat_of_zero_le hz
      rw [h.mto i (by omega), hasR_nat, Int.toNat_natCast]
      by_cases hj : (i, j) ∈ G.L
      · have := h.inr _ hj
        have h2 : j < G.n := this.2
        rw [decide_eq_true (by omega)]; simp
      · simp [hj]
    · rw [decide_eq_false (fun h => hz h.1), hasR_out h.inr (by omega)]; rfl
  · rw [decide_eq_false ha, hasR_out h.inr (by omega)]; rfl

def nextR (n : Nat) (L : List (Nat × Nat)) (a : Int) : List Nat := (List.range n).filter fun j => hasR L a j
def backR (n : Nat) (L : List (Nat × Nat)) (z : Int) : List Nat := (List.range n).filter fun i => hasR L i z
theorem GM.next_eq {G : GM} (h : G.ok) (a : Int) : G.nextL a = nextR G.n G.L a := by
  have h5 := h.n500
  unfold GM.nextL inG nextR
  by_cases ha : 0 ≤ a ∧ a < (G.n : Int)
  · obtain ⟨i, rfl⟩ := Int.eq_ofNat_of_zero_le ha.1
    rw [if_pos (decide_eq_true ha), Int.toNat_natCast, preL_filter, filter_range_le _ G.n (8 * 64) (by omega)]
    · refine List.filter_congr fun j _ => ?_
      rw [h.mto i (by omega), hasR_nat]
    · intro j hj
      rw [h.mto i (by omega)]
      exact decide_eq_false fun hm => by have : j < G.n := (h.inr _ hm).2; omega
  · rw [if_neg (by simpa using ha), eq_comm, List.filter_eq_nil_iff]
    intro j _
    rw [hasR_out h.inr (by omega)]; simp
theorem GM.back_eq {G : GM} (h : G.ok) (z : Int) : G.backL z = backR G.n G.L z := by
  have h5 := h.n500
  unfold GM.backL inG backR
  by_cases ha : 0 ≤ z ∧ z < (G.n : Int)
  · obtain ⟨j, rfl⟩ := Int.eq_ofNat_of_zero_le ha.1
    rw [if_pos (decide_eq_true ha), Int.toNat_natCast, preL_filter, filter_range_le _ G.n (8 * 64) (by omega)]
    · refine List.filter_congr fun i _ => ?_
      rw [h.mfr j (by omega), hasR_nat]
    · intro i hi
      rw [h.mfr j (by omega)]
      exact decide_eq_false fun hm => by have : i < G.n := (h.inr _ hm).1; omega
  · rw [if_neg (by simpa using ha), eq_comm, List.filter_eq_nil_iff]
    intro i _
    rw [hasR_out h.inr (by omega)]; simp

/-- All edges, up to the k-th node. -/
def edgesR (n : Nat) (L : List (Nat × Nat)) (k : Nat) : List (Nat × Nat) := (List.range k).flatMap fun (a : Nat) => (nextR n L (a : Int)).map fun j => (a, j)
def GM.edgesL (G : GM) (k : Nat) : List (Nat × Nat) := (List.range k).flatMap fun a => (preL (G.tow a) 8).map fun j => (a, j)
theorem GM.edgesL_succ (G : GM) (k : Nat) : G.edgesL (k + 1) = G.edgesL k ++ (preL (G.tow k) 8).map fun j => (k, j) := by
  unfold GM.edgesL
  rw [List.range_succ, List.flatMap_append]; simp
theorem edgesR_succ (n : Nat) (L : List (Nat × Nat)) (k : Nat) : edgesR n L (k + 1) = edgesR n L k ++ (nextR n L k).map fun j => (k, j) := by
  unfold edgesR
  rw [List.range_succ, List.flatMap_append]; simp
theorem GM.edges_eq {G : GM} (h : G.ok) : ∀ k, k ≤ G.n → G.edgesL k = edgesR G.n G.L k
  | 0, _ => rfl
  | k + 1, hk => by
    rw [GM.edgesL_succ, edgesR_succ, GM.edges_eq h k (by omega), ← GM.next_eq h]
    unfold GM.nextL inG
    rw [if_pos (decide_eq_true (by omega)), Int.toNat_natCast]
theorem nextR_len (n : Nat) (L : List (Nat × Nat)) (a : Int) : (nextR n L a).length ≤ n := by
  have := List.length_filter_le (fun j => hasR L a (j : Nat)) (List.range n)
  simpa [nextR] using this
theorem edgesR_len (n : Nat) (L : List (Nat × Nat)) : ∀ k, (edgesR n L k).length ≤ k * n
  | 0 => by simp [edgesR]
  | k + 1 => by
    rw [edgesR_succ, List.length_append, List.length_map, Nat.succ_mul]
    have := edgesR_len n L k
    have := nextR_len n L k
    omega

theorem len_of_lt : ∀ (N : Nat) (l : List Nat), l.Nodup → (∀ x ∈ l, x < N) → l.length ≤ N
  | 0, l, _, h => by
    cases l with
    | nil => simp
    | cons x l => exact absurd (h x (by simp)) (by omega)
  | N + 1, l, hn, h => by
    have h1 := len_of_lt N (l.erase N) (hn.erase N) fun x hx => by
      have := (hn.mem_erase_iff).1 hx
      have := h x this.2
      omega
    have h2 : l.length ≤ (l.erase N).length + 1 := by
      rw [List.length_erase]; split <;> omega
    omega
theorem edges_few {L : List (Nat × Nat)} {n : Nat} (hn : L.Nodup) (h : ∀ e ∈ L, e.1 < n ∧ e.2 < n) : L.length ≤ n * n := by
  have h1 := len_of_lt (n * n) (L.map fun e => e.1 * n + e.2) ?_ ?_
  · simpa using h1
  · rw [List.nodup_iff_pairwise_ne, List.pairwise_map]
    refine List.Pairwise.imp_of_mem ?_ hn
    intro a b ha hb hne he
    have h1 := h a ha
    have h2 := h b hb
    apply hne
    have hp : 0 < n := by omega
    have e1 : a.1 = b.1 := by
      have := congrArg (· / n) he
      simp only [Nat.add_comm (_ * n), Nat.add_mul_div_right _ _ hp, Nat.div_eq_of_lt h1.2, Nat.div_eq_of_lt h2.2] at this
      omega
    rw [e1] at he
    exact Prod.ext e1 (by omega)
  · intro x hx
    obtain ⟨e, he, rfl⟩ := List.mem_map.1 hx
    have := h e he
    calc e.1 * n + e.2 < e.1 * n + n := by omega
      _ = (e.1 + 1) * n := by rw [Nat.succ_mul]
      _ ≤ n * n := Nat.mul_le_mul_right _ (by omega)

/-- What Put answers, and what it leaves. -/
def putV (n : Nat) (L : List (Nat × Nat)) (a z : Int) : Bool × Int :=
  if inG n a = true ∧ inG n z = true then (if hasR L a z = true then (false, 0) else (true, 0)) else (false, 2)
def putL (n : Nat) (L : List (Nat × Nat)) (a z : Int) : List (Nat × Nat) :=
  if inG n a = true ∧ inG n z = true then (if hasR L a z = true then L else L ++ [(a.toNat, z.toNat)]) else L
def mayE (n : Nat) (z : Nat → Nat → Int) (k : Nat) : Bool := (List.range k).all fun i => inG n (z i 0) && inG n (z i 1)
def ofZ (n : Nat) (z : Nat → Nat → Int) : Nat → List (Nat × Nat)
  | 0 => []
  | k + 1 => putL n (ofZ n z k) (z k 0) (z k 1)
theorem mayE_succ (n : Nat) (z : Nat → Nat → Int) (k : Nat) : mayE n z (k + 1) = (mayE n z k && (inG n (z k 0) && inG n (z k 1))) := by
  simp [mayE, List.range_succ, List.all_append]
theorem mayE_no {n : Nat} {z : Nat → Nat → Int} {i : Nat} (h : (inG n (z i 0) && inG n (z i 1)) = false) {k : Nat} (hk : i < k) : mayE n z k = false := by
  rw [Bool.eq_false_iff]
  intro ht
  have := List.all_eq_true.1 ht i (List.mem_range.2 hk)
  rw [h] at this; cases this
theorem putL_len (n : Nat) (L : List (Nat × Nat)) (a z : Int) : (putL n L a z).length ≤ L.length + 1 := by
  unfold putL; split
  · split <;> simp
  · simp
theorem ofZ_len (n : Nat) (z : Nat → Nat → Int) : ∀ k, (ofZ n z k).length ≤ k
  | 0 => by simp [ofZ]
  | k + 1 => by
    have := putL_len n (ofZ n z k) (z k 0) (z k 1)
    have := ofZ_len n z k
    simp only [ofZ]; omega

end Go.Proofs.YtafdijcolponjaaDoor

namespace Go.Proofs.YtafdijcolponjaaDoor
open Go.RowKit

theorem gundo_no (b : Nat) (F : List Nat) (G : GM) (z : Int) (w : World) (h : GraphAt w b F G) (hz : z < 0 ∨ (G.L.length : Int) < z) :
    Calls Tryd.prog 49 #[.pointer (some ⟨b, 0, none⟩), .int .i64 z] w fun e w' => e = .returned (.int .i64 2) ∧ w = w' := by
  have HI := Lib.hid (is_any b F G w h)
  obtain ⟨vt, vf, vl, ts, fs, h1, -, -, hl, -⟩ := h
  obtain ⟨ad, c, rfl⟩ := owns_slice hl
  have c0 : w.cell? ⟨b, 2, none⟩ = some (.slice ad G.L.length c) := cell_at 2 h1 rfl
  clear h1 hl
  generalize G.L.length = n at *
  by_cases h0 : z < 0
  · clear hz
    go_enter Tryd.func49, Tryd.ntmps49
    go_wp2_with fail
    go_fit HI.out
    rintro e w' ⟨rfl, rfl⟩
    go_wp2_with fail
    go_ret
    exact ⟨rfl, rfl⟩
  · have h1 : (n : Int) < z := by omega
    clear hz
    go_enter Tryd.func49, Tryd.ntmps49
    go_wp2_with fail
    go_fit HI.out
    rintro e w' ⟨rfl, rfl⟩
    go_wp2_with fail
    go_ret
    exact ⟨rfl, rfl⟩

/-- How long the trail in memory is. -/
def tlen (b : Nat) (w : World) : Nat :=
  match w.cell? ⟨b, 2, none⟩ with
  | some (.slice _ n _) => n
  | _ => 0

/-- Behind Undo: some graph whose edges are the first m. -/
def GUndone (b : Nat) (F : List Nat) (G : GM) (m : Nat) (w w' : World) : Prop :=
  ∃ G', GraphAt w' b F G' ∧ G'.n = G.n ∧ G'.L = G.L.take m ∧ Chg (· ∈ F) w w'
def UndoR (b : Nat) (F : List Nat) (G : GM) (m : Nat) (w wr : World) : Prop := ∃ r, m ≤ r ∧ r ≤ G.L.length ∧ GUndone b F G r w wr

set_option maxRecDepth 20000 in
set_option maxHeartbeats 1000000 in
theorem gundo_yes (b : Nat) (F : List Nat) (G : GM) (m : Nat) (w : World) (h : GraphAt w b F G) (hm : m ≤ G.L.length) :
    Calls Tryd.prog 49 #[.pointer (some ⟨b, 0, none⟩), .int .i64 m] w fun e w' => e = .returned (.int .i64 0) ∧ GUndone b F G m w w' := by
  have HI := Lib.hid (is_any b F G w h)
  have HG := Lib.hid h
  obtain ⟨vt, vf, vl, ts, fs, h1, -, -, hl, -⟩ := h
  obtain ⟨ad, c, rfl⟩ := owns_slice hl
  have c0 : w.cell? ⟨b, 2, none⟩ = some (.slice ad G.L.length c) := cell_at 2 h1 rfl
  have hle : (m : Int) ≤ (G.L.length : Int) := by omega
  have hm0 : (0 : Int) ≤ (m : Int) := by omega
  clear h1 hl
  go_enter Tryd.func49, Tryd.ntmps49
  go_wp2_with fail
  go_fit HI.out
  rintro e w' ⟨rfl, rfl⟩
  go_wp2_with fail
  go_loopw [5] (fun _ wr => UndoR b F G m w wr) (fun _ wr => tlen b wr)
  case atStart => exact ⟨G.L.length, hm, Nat.le_refl _, G, HG.out, rfl, by simp, Chg.refl _ _⟩
  case round =>
    clear c0
    rename (0 : Int) ≤ (m : Int) ∧ ¬ G.L.length < m => hxx
    clear hxx
    obtain ⟨r, hmr, hrl, G', hG, hn, hL, hC⟩ := hrel
    have hlen : G'.L.length = r := by rw [hL, List.length_take]; omega
    have HGr := Lib.hid hG
    have HC := Lib.hid hC
    have HLr := Lib.hid hL
    have HN := Lib.hid hn
    obtain ⟨vt, vf, vl, ts, fs, h1, ht, hf, hl, hts, hfs, hT, hR, hok, hF, hNd⟩ := hG
    obtain ⟨ad, c, rfl⟩ := owns_slice hl
    have c0 : wr.cell? ⟨b, 2, none⟩ = some (.slice ad G'.L.length c) := cell_at 2 h1 rfl
    rw [hlen] at c0
    have htl : tlen b wr = r := by unfold tlen; rw [c0]
    have HTL := Lib.hid htl
    by_cases hlt : m < r
    · obtain ⟨s, rfl⟩ : ∃ s, r = s + 1 := ⟨r - 1, by omega⟩
      have hs : s < G.L.length := by omega
      have hL2 : G'.L = G.L.take s ++ [G.L[s]] := by rw [hL, List.take_succ_eq_append_getElem hs]
      generalize G.L[s] = e at hL2
      obtain ⟨x, y⟩ := e
      have hsl : (G.L.take s).length = s := by rw [List.length_take]; omega
      have hxy : x < G'.n ∧ y < G'.n := hok.inr (x, y) (by rw [hL2]; simp)
      have n5 := hok.n500
      have ex : (edgeCells G'.L)[s * 2]? = some (.int .i64 (x : Int)) := by
        rw [hL2, edgeCells_append, List.getElem?_append_right (by rw [edgeCells_len, hsl]; omega), edgeCells_len, hsl]
        simp
      have ey : (edgeCells G'.L)[s * 2 + 1]? = some (.int .i64 (y : Int)) := by
        rw [hL2, edgeCells_append, List.getElem?_append_right (by rw [edgeCells_len, hsl]; omega), edgeCells_len, hsl]
        simp
      rcases owns_shape hl with ⟨_, h0⟩ | ⟨gl, cl, hv, hcl, hmx⟩
      · omega
      cases hv
      have cx : wr.cell? ⟨gl, s * 2, none⟩ = _ := (hl.cellAt (s * 2) (by omega)).trans ex
      have cy : wr.cell? ⟨gl, s * 2 + 1, none⟩ = _ := (hl.cellAt (s * 2 + 1) (by omega)).trans ey
      obtain ⟨gt, ct, rfl, ct1, hmx2⟩ := ptr_cell ht hxy.1
      obtain ⟨gf, cf, rfl, cf1, -⟩ := ptr_cell hf hxy.2
      have fb := free_at 2 h1
      have cb0 : wr.cell? ⟨b, 0, none⟩ = some (.slice (some ⟨gt, 0, none⟩) G'.n ct) := cell_at 0 h1 rfl
      have cb1 : wr.cell? ⟨b, 1, none⟩ = some (.slice (some ⟨gf, 0, none⟩) G'.n cf) := cell_at 1 h1 rfl
      rw [hlen] at hcl
      unfold maxLen at hmx
      have hlt' : (m : Int) < ((s + 1 : Nat) : Int) := by omega
      have hlen' := hlen
      have hbw := lt_of_block h1
      have hgtw : gt < wr.heap.size := World.block_lt_of_cell? wr _ ct1
      have hgfw : gf < wr.heap.size := World.block_lt_of_cell? wr _ cf1
      have hpt := mem_getD (l := ts) (i := x) (by omega)
      have hpf := mem_getD (l := fs) (i := y) (by omega)
      have hN2 := hNd
      rw [hF] at hN2
      simp only [ownL_some, List.nodup_cons, List.nodup_append, List.mem_append, List.mem_singleton, not_or] at hN2
      have HT := Lib.hid (hT x hxy.1)
      have HR := Lib.hid (hR y hxy.2)
      generalize hp : ts.getD x 0 = p at *
      generalize hq : fs.getD y 0 = q at *
      have KP := Lib.hid hp
      have KQ := Lib.hid hq
      clear hp hq
      obtain ⟨⟨⟨⟨⟨hbt, hbf⟩, hbl⟩, hbts⟩, hbfs⟩, ⟨⟨⟨⟨-, htf0, htf⟩, -, htl⟩, -, hts'⟩, -, hfs'⟩⟩ := hN2
      have hbp : b ≠ p := fun e => hbts (e ▸ hpt)
      have hbq : b ≠ q := fun e => hbfs (e ▸ hpf)
      have htp : gt ≠ p := hts' gt (.inl (.inl rfl)) p hpt
      have hfp : gf ≠ p := hts' gf (.inl (.inr rfl)) p hpt
      have htq : gt ≠ q := hfs' gt (.inl (.inl (.inl rfl))) q hpf
      have hfq : gf ≠ q := hfs' gf (.inl (.inl (.inr rfl))) q hpf
      have hpq : p ≠ q := hfs' p (.inr hpt) q hpf
      have hpw := lt_of_block HT.out.1
      have hqw := lt_of_block HR.out.1
      have hlp : gl ≠ p := hts' gl (.inr rfl) p hpt
      have hlq : gl ≠ q := hfs' gl (.inl (.inr rfl)) q hpf
      have HL := Lib.hid hl
      have KT := Lib.hid ht
      have KF := Lib.hid hf
      have KTs := Lib.hid hT
      have KFs := Lib.hid hR
      have KOk := Lib.hid hok
      have KFp := Lib.hid hF
      have KN := Lib.hid hNd
      have KPt := Lib.hid hpt
      have KPf := Lib.hid hpf
      have HL2 := Lib.hid hL2
      have HCT := Lib.hid ct1
      have HCF := Lib.hid cf1
      clear hl ht hf hts' hfs' hT hR hok hF hNd hL hn hC htl hlen ex ey htf htf0 hpt hpf hbts hbfs hL2 ct1 cf1
      have a0 := cell_alloc (o := .cells #[.int .i64 0, .int .i64 0] 61) c0
      have ax := cell_alloc (o := .cells #[.int .i64 0, .int .i64 0] 61) cx
      have ay := cell_alloc (o := .cells #[.int .i64 0, .int .i64 0] 61) cy
      have hs0 : (0 : Int) ≤ (s : Int) := by omega
      have hs1 : (s : Int) ≤ 9223372036854775807 := by omega
      have Hb := Lib.hid h1
      clear h1
      go_wp2_with fail
      go_region
      have k1 : ∀ k, k < wr.heap.size → (wr.alloc (.cells #[.int .i64 x, .int .i64 y] 61)).heap[k]? = wr.heap[k]? := fun k hk => heap_alloc_lt hk
      have kn : (wr.alloc (.cells #[.int .i64 x, .int .i64 y] 61)).heap[wr.heap.size]? = some (.cells #[.int .i64 x, .int .i64 y] 61 (0, 0)) := heap_new _ _
      have kz : (wr.alloc (.cells #[.int .i64 x, .int .i64 y] 61)).heap.size = wr.heap.size + 1 := by simp
      have ko : Chg (fun _ => False) wr (wr.alloc (.cells #[.int .i64 x, .int .i64 y] 61)) := (Chg.refl _ _).alloc _
      generalize wr.alloc (.cells #[.int .i64 x, .int .i64 y] 61) = w1 at k1 kn kz ko ⊢
      have hb1 := (k1 b hbw).trans Hb.out
      rw [hlen'] at hb1
      have c1 : w1.cell? ⟨b, 2, none⟩ = some (.slice (some ⟨gl, 0, none⟩) (s + 1) c) := cell_at 2 hb1 rfl
      have fb1 := free_at 2 hb1
      have KNw := Lib.hid kn
      have HB1 := Lib.hid hb1
      have HK1 := Lib.hid k1
      have HKo := Lib.hid ko
      clear a0 ax ay c0 cx cy fb kn hb1 cb0 cb1 k1 ko
      go_wp2_with fail
      go_region
      have hb2 : (w1.setCell ⟨b, 2, none⟩ (.slice (some ⟨gl, 0, none⟩) s c)).drew.drew.heap[b]? = some (.cells #[.slice (some ⟨gt, 0, none⟩) G'.n ct, .slice (some ⟨gf, 0, none⟩) G'.n cf, .slice (some ⟨gl, 0, none⟩) s c, .bool true] 77 (0, 0)) := heap_set 2 _ HB1.out
      have k2 : ∀ k, k ≠ b → (w1.setCell ⟨b, 2, none⟩ (.slice (some ⟨gl, 0, none⟩) s c)).drew.drew.heap[k]? = w1.heap[k]? := fun k hk => heap_set_ne 2 _ hk
      have kz2 : (w1.setCell ⟨b, 2, none⟩ (.slice (some ⟨gl, 0, none⟩) s c)).drew.drew.heap.size = wr.heap.size + 1 := by rw [← kz]; simp [World.setCell]
      have ko2 : Chg (· = b) wr (w1.setCell ⟨b, 2, none⟩ (.slice (some ⟨gl, 0, none⟩) s c)).drew.drew := ((HKo.out.mono fun _ _ h => h.elim).set1 2 _).drew.drew
      generalize (w1.setCell ⟨b, 2, none⟩ (.slice (some ⟨gl, 0, none⟩) s c)).drew.drew = w2 at hb2 k2 kz2 ko2 ⊢
      have HK2 := Lib.hid k2
      have HB2 := Lib.hid hb2
      have HKo2 := Lib.hid ko2
      clear hb2 k2 ko2 c1 fb1
      have hx0 : (0 : Int) ≤ (x : Int) := by omega
      have hx1 : (x : Int) < (G'.n : Int) := by omega
      have hy0 : (0 : Int) ≤ (y : Int) := by omega
      have hy1 : (y : Int) < (G'.n : Int) := by omega
      go_wp2_with fail
      refine region_tail 10 (by kernel_rfl) (by kernel_rfl) fun w3 hS => ?_
      have hb3 := (hS.at b).trans HB2.out
      have e3 : ∀ k, k < wr.heap.size → k ≠ b → w3.heap[k]? = wr.heap[k]? := fun k hk hb => ((hS.at k).trans (HK2.out k hb)).trans (HK1.out k hk)
      have kz3 : w3.heap.size = wr.heap.size + 1 := by rw [hS.heap]; exact kz2
      have kn3 := ((hS.at wr.heap.size).trans (HK2.out wr.heap.size (by omega))).trans KNw.out
      have ko3 : Chg (· = b) wr w3 := HKo2.out.trans hS.chg
      have d0 : w3.cell? ⟨wr.heap.size, 0, none⟩ = some (.int .i64 x) := cell_at 0 kn3 rfl
      have d1 : w3.cell? ⟨wr.heap.size, 1, none⟩ = some (.int .i64 y) := cell_at 1 kn3 rfl
      have cb0 : w3.cell? ⟨b, 0, none⟩ = some (.slice (some ⟨gt, 0, none⟩) G'.n ct) := cell_at 0 hb3 rfl
      have ct3 := (World.cell?_of_block (a := ⟨gt, x, none⟩) (e3 gt hgtw (Ne.symm hbt))).trans HCT.out
      have hT3 : SetAt w3 p (G'.tow x) := ⟨(e3 p hpw (Ne.symm hbp)).trans HT.out.1, HT.out.2⟩
      have HB3 := Lib.hid hb3
      have HE3 := Lib.hid e3
      have HKo3 := Lib.hid ko3
      have HN3 := Lib.hid kn3
      have HP := Lib.hid (drop_yes p y _ w3 hT3 (by omega))
      clear hb3 ko3 kn3 e3 hT3 hS
      simp only [List.take_succ_cons, List.take_zero, List.drop_succ_cons, List.drop_zero]
      repeat still_step
      refine wpStill_nil ?_
      go_wp2_with fail
      go_fit HP.out
      rintro e w4 ⟨rfl, hS4, hC4⟩
      have hz4 := hC4.size
      have hb4 := (hC4.block b (by omega) hbp).trans HB3.out
      have e4 : ∀ k, k < wr.heap.size → k ≠ b → k ≠ p → w4.heap[k]? = wr.heap[k]? := fun k hk hb hp => (hC4.block k (by omega) hp).trans (HE3.out k hk hb)
      have kn4 := (hC4.block wr.heap.size (by omega) (by omega)).trans HN3.out
      have HS4 := Lib.hid hS4
      have HB4 := Lib.hid hb4
      have HE4 := Lib.hid e4
      have HN4 := Lib.hid kn4
      have HKo4 := Lib.hid ((HKo3.out.mono (G := fun k => k = b ∨ k = p) fun _ _ h => .inl h).trans (hC4.mono fun _ _ h => .inr h))
      clear hS4 hC4 hb4 e4 kn4 d0 d1 cb0 ct3
      go_wp2_with fail
      refine region_tail 10 (by kernel_rfl) (by kernel_rfl) fun w5 hS => ?_
      have hb5 := (hS.at b).trans HB4.out
      have e5 : ∀ k, k < wr.heap.size → k ≠ b → k ≠ p → w5.heap[k]? = wr.heap[k]? := fun k hk hb hp => (hS.at k).trans (HE4.out k hk hb hp)
      have kz5 : w4.heap.size = w5.heap.size := by rw [hS.heap]
      have kn5 := (hS.at wr.heap.size).trans HN4.out
      have ko5 := HKo4.out.trans hS.chg
      have d0 : w5.cell? ⟨wr.heap.size, 0, none⟩ = some (.int .i64 x) := cell_at 0 kn5 rfl
      have d1 : w5.cell? ⟨wr.heap.size, 1, none⟩ = some (.int .i64 y) := cell_at 1 kn5 rfl
      have cb1 : w5.cell? ⟨b, 1, none⟩ = some (.slice (some ⟨gf, 0, none⟩) G'.n cf) := cell_at 1 hb5 rfl
      have cf5 := (World.cell?_of_block (a := ⟨gf, y, none⟩) (e5 gf hgfw (Ne.symm hbf) hfp)).trans HCF.out
      have hR5 : SetAt w5 q (G'.frw y) := ⟨(e5 q hqw (Ne.symm hbq) (Ne.symm hpq)).trans HR.out.1, HR.out.2⟩
      have hS5 : SetAt w5 p (dropW (G'.tow x) y) := ⟨(hS.at p).trans HS4.out.1, HS4.out.2⟩
      have HB5 := Lib.hid hb5
      have HE5 := Lib.hid e5
      have HKo5 := Lib.hid ko5
      have HS5 := Lib.hid hS5
      have HP := Lib.hid (drop_yes q x _ w5 hR5 (by omega))
      clear hb5 ko5 kn5 e5 hR5 hS5 hS
      simp only [List.take_succ_cons, List.take_zero, List.drop_succ_cons, List.drop_zero]
      repeat still_step
      refine wpStill_nil ?_
      go_wp2_with fail
      go_fit HP.out
      rintro e w6 ⟨rfl, hS6, hC6⟩
      have hz6 := hC6.size
      have hb6 := (hC6.block b (by omega) hbq).trans HB5.out
      have e6 : ∀ k, k < wr.heap.size → k ≠ b → k ≠ p → k ≠ q → w6.heap[k]? = wr.heap[k]? := fun k hk hb hp hq => (hC6.block k (by omega) hq).trans (HE5.out k hk hb hp)
      have hp6 : SetAt w6 p (dropW (G'.tow x) y) := ⟨(hC6.block p (by omega) hpq).trans HS5.out.1, HS5.out.2⟩
      have ko6 : Chg (fun k => k = b ∨ k = p ∨ k = q) wr w6 := (HKo5.out.mono fun _ _ h => h.elim .inl fun h => .inr (.inl h)).trans (hC6.mono fun _ _ h => .inr (.inr h))
      have HS6 := Lib.hid hS6
      have HB6 := Lib.hid hb6
      have HE6 := Lib.hid e6
      have HP6 := Lib.hid hp6
      have HKo6 := Lib.hid ko6
      clear hS6 hC6 hb6 e6 hp6 ko6 d0 d1 cb1 cf5
      go_wp2_with fail
      go_roundw
      case rel =>
        have hF := KFp.out
        have hN := KN.out
        rw [hF] at hN
        have hN2 := hN
        simp only [ownL_some, List.nodup_cons, List.nodup_append, List.mem_append, List.mem_singleton, not_or] at hN2
        obtain ⟨⟨⟨⟨⟨-, -⟩, -⟩, hbts⟩, hbfs⟩, ⟨⟨⟨⟨-, -, htf⟩, -, htl⟩, hnt, hts'⟩, hnf, hfs'⟩⟩ := hN2
        have hpt := KPt.out
        have hpf := KPf.out
        have e6 := HE6.out
        have e1 : (G'.pop x y).L = G.L.take s := by show G'.L.dropLast = _; rw [HL2.out]; simp
        have e2 : (G'.pop x y).L.length = s := by rw [e1, hsl]
        have hglw : gl < wr.heap.size := owns_lt HL.out gl rfl
        have hglb : gl ≠ b := fun e => hbl e.symm
        refine ⟨s, by omega, by omega, G'.pop x y, ⟨_, _, _, ts, fs, HB6.out, ?_, ?_, ?_, hts, hfs, ?_, ?_, ?_, hF, hF ▸ hN⟩, HN.out, e1, ?_⟩
        · exact owns_of_heap KT.out fun k hk => by cases hk; exact e6 gt hgtw (Ne.symm hbt) htp htq
        · exact owns_of_heap KF.out fun k hk => by cases hk; exact e6 gf hgfw (Ne.symm hbf) hfp hfq
        · rw [e2, e1]
          have h1 := owns_take (m := s) (by omega) HL.out
          have h2 : (edgeCells G'.L).take (s * 2) = edgeCells (G.L.take s) := by
            rw [HL2.out, edgeCells_append, List.take_append_of_le_length (by rw [edgeCells_len, hsl]; omega), List.take_of_length_le (by rw [edgeCells_len, hsl]; omega)]
          rw [h2] at h1
          exact owns_of_heap h1 fun k hk => by cases hk; exact e6 gl hglw hglb hlp hlq
        · intro k hk
          show SetAt _ _ (if k = x then dropW (G'.tow x) y else G'.tow k)
          by_cases e : k = x
          · subst e
            rw [if_pos rfl, KP.out]
            exact HP6.out
          · rw [if_neg e]
            have hk' : k < G'.n := hk
            have hm := mem_getD (l := ts) (i := k) (by omega)
            have hs := KTs.out k hk
            exact ⟨(e6 _ (lt_of_block hs.1) (fun h => hbts (h ▸ hm)) (fun h => e (getD_inj hnt (by omega) (by omega) (h.trans KP.out.symm))) (hfs' _ (.inr hm) q hpf)).trans hs.1, hs.2⟩
        · intro k hk
          show SetAt _ _ (if k = y then dropW (G'.frw y) x else G'.frw k)
          by_cases e : k = y
          · subst e
            rw [if_pos rfl, KQ.out]
            exact HS6.out
          · rw [if_neg e]
            have hk' : k < G'.n := hk
            have hm := mem_getD (l := fs) (i := k) (by omega)
            have hs := KFs.out k hk
            exact ⟨(e6 _ (lt_of_block hs.1) (fun h => hbfs (h ▸ hm)) (fun h => hfs' p (.inr hpt) _ hm h.symm) (fun h => e (getD_inj hnf (by omega) (by omega) (h.trans KQ.out.symm)))).trans hs.1, hs.2⟩
        · exact GM.pop_ok KOk.out (fun k hk => ⟨(KTs.out k hk).2.1, (KFs.out k hk).2.1⟩) HL2.out
        · refine HC.out.trans (HKo6.out.mono ?_)
          rintro k _ (rfl | rfl | rfl)
          · rw [hF]; simp
          · rw [hF]; simp [hpt]
          · rw [hF]; simp [hpf]
      case measure =>
        rw [HTL.out]
        have : tlen b w6 = s := by unfold tlen; rw [show w6.cell? ⟨b, 2, none⟩ = some (.slice (some ⟨gl, 0, none⟩) s c) from cell_at 2 HB6.out rfl]
        omega
    · obtain rfl : r = m := by omega
      clear h1 ht hf hl hts hfs hT hR hok hF hNd hL hn hC htl hlen
      go_wp2_with fail
      go_ret
      exact ⟨rfl, G', HGr.out, HN.out, HLr.out, HC.out⟩
end Go.Proofs.YtafdijcolponjaaDoor

namespace Go.Proofs.YtafdijcolponjaaDoor
open Go.RowKit

/-- A list of edges in new memory. -/
def EdgeEnds (l : List (Nat × Nat)) (w : World) (e : Ending) (w' : World) : Prop :=
  ∃ v, e = .returned v ∧ w'.ownsRow w.heap.size 61 2 v l.length (edgeCells l) ∧ Below w.heap.size w w'
def EdgeOut (w : World) (G : GM) (v i : Value) (wr : World) : Prop :=
  ∃ k : Nat, k ≤ G.n ∧ i = .int .i64 k ∧ wr.ownsRow w.heap.size 61 2 v (G.edgesL k).length (edgeCells (G.edgesL k)) ∧ Below w.heap.size w wr
def EdgeIn (w : World) (E : List (Nat × Nat)) (k : Nat) (l : List Nat) (B : Nat) (v2 v i : Value) (wr : World) : Prop :=
  ∃ j : Nat, j ≤ l.length ∧ i = .int .i64 j ∧ wr.ownsRow w.heap.size 61 2 v (E ++ (l.take j).map fun y => (k, y)).length (edgeCells (E ++ (l.take j).map fun y => (k, y))) ∧ Below w.heap.size w wr ∧
    wr.ownsRow B 3 1 v2 l.length (intl (natI l)) ∧ (∀ q, v.ownBlock = some q → v2.ownBlock ≠ some q)

theorem GM.edgesL_len (G : GM) : ∀ k, (G.edgesL k).length ≤ k * 512
  | 0 => by simp [GM.edgesL]
  | k + 1 => by
    rw [GM.edgesL_succ, List.length_append, List.length_map]
    have := GM.edgesL_len G k
    have := preL_len (G.tow k) 8
    omega

set_option maxRecDepth 20000 in
theorem edges_any (b : Nat) (F : List Nat) (G : GM) (w : World) (h : GraphAt w b F G) (hTab : TabIs w) :
    Calls Tryd.prog 44 #[.pointer (some ⟨b, 0, none⟩)] w (EdgeEnds (G.edgesL G.n) w) := by
  have HL := Lib.hid (glen_any b F G w h)
  have HG := Lib.hid h
  have n5 := (by obtain ⟨_, _, _, _, _, _, _, _, _, _, _, _, _, hok, _⟩ := h; exact hok.n500 : G.n ≤ 500)
  have HT := Lib.hid hTab
  clear h hTab
  go_enter Tryd.func44, Tryd.ntmps44
  go_wp2_with fail
  go_fit HL.out
  rintro e w' ⟨rfl, rfl⟩
  go_wp2_with fail
  go_loopw [3, 9] (fun v i wr => EdgeOut w G v i wr) (fun _ i _ => G.n - (intOf i).toNat)
  case atStart =>
    exact ⟨0, by omega, rfl, ⟨rfl, .inl ⟨rfl, rfl⟩⟩, Below.refl _ _⟩
  case round =>
    obtain ⟨k, hk, rfl, hown, hB⟩ := hrel
    obtain ⟨wA, rfl⟩ : ∃ x, x = wr := ⟨_, rfl⟩
    obtain ⟨vA, rfl⟩ : ∃ x, x = u3 := ⟨_, rfl⟩
    by_cases hlt : k < G.n
    · have hG := HG.out.below hB (Nat.le_refl _)
      have hTr := tab_below HT.out hB (Nat.le_refl _)
      obtain ⟨vt, vf, vl, ts, fs, h1, ht, -, -, -, -, hS, -⟩ := hG
      obtain ⟨gt, ct, rfl, ct1, hmx⟩ := ptr_cell ht hlt
      have c0 : wA.cell? ⟨b, 0, none⟩ = some (.slice (some ⟨gt, 0, none⟩) G.n ct) := cell_at 0 h1 rfl
      have hA := all_any _ _ wA (hS k hlt) hTr
      unfold AllEnds at hA
      have HA := Lib.hid hA
      have HEL := Lib.hid (G.edgesL_succ k)
      have HLn := Lib.hid (G.edgesL_len k)
      have HO := Lib.hid hown
      have HB := Lib.hid hB
      generalize ts.getD k 0 = p at *
      generalize hll : preL (G.tow k) 8 = l at *
      have HLl : Hid (l.length ≤ 512) := by rw [← hll]; exact preL_len _ 8
      generalize hE : G.edgesL k = E at *
      have hk0 : (0 : Int) ≤ (k : Int) := by omega
      have hk1 : (k : Int) < (G.n : Int) := by omega
      clear h1 ht hS hown hB hTr hll hE hA
      go_wp2_with fail
      go_fit HA.out
      rintro e w1 ⟨v2, rfl, hown2, hB2⟩
      obtain ⟨ad2, c2, rfl⟩ := owns_slice hown2
      have hsz := HB.out.size
      have hs2 := hB2.size
      have HB2 := Lib.hid (HB.out.trans (hB2.mono hsz))
      have HO2 := Lib.hid hown2
      have hx : ∀ q, vA.ownBlock = some q → (Value.slice ad2 l.length c2).ownBlock ≠ some q := fun q hq h2 => by
        have a1 := owns_lt HO.out q hq
        have a2 := (World.ownsRow.lt hown2 q h2).1
        omega
      have HX := Lib.hid hx
      have HO1 := Lib.hid (owns_of_heap HO.out fun q hq => hB2.block q (owns_lt HO.out q hq))
      clear hown2 hB2 hx
      have hl63 : (l.length : Int) ≤ 9223372036854775807 := by have := HLl.out; omega
      go_wp2_with fail
      go_loopw [3, 21] (fun v i wr2 => EdgeIn w E k l wA.heap.size (.slice ad2 l.length c2) v i wr2) (fun _ i _ => l.length - (intOf i).toNat)
      case atStart =>
        exact ⟨0, by omega, rfl, by simpa using HO1.out, HB2.out, HO2.out, HX.out⟩
      case round =>
        clear HO HO1 HX HB HB2 HO2 c0 ct1
        obtain ⟨j, hj, rfl, hown, hB, hown2, hx⟩ := hrel
        by_cases hlt2 : j < l.length
        · obtain ⟨g2, cc, hv, hc2, hm2⟩ : ∃ g cap, Value.slice ad2 l.length c2 = .slice (some ⟨g, 0, none⟩) l.length cap ∧ l.length ≤ cap ∧ cap ≤ maxLen := by
            rcases owns_shape hown2 with ⟨_, h0⟩ | h
            · omega
            · exact h
          cases hv
          have hy : ((intl (natI l))[j]?) = some (.int .i64 (l.getD j 0 : Nat)) := by simp [intl, natI, hlt2]
          have cy : wr.cell? ⟨g2, j, none⟩ = _ := (hown2.cellAt j (by omega)).trans hy
          have hst : E ++ (l.take (j + 1)).map (fun y => (k, y)) = (E ++ (l.take j).map (fun y => (k, y))) ++ [(k, l.getD j 0)] := by
            rw [List.take_add_one, List.map_append, List.append_assoc]
            simp [hlt2]
          have HM : Hid ((E ++ (l.take j).map (fun y => (k, y))).length + 1 ≤ maxLen ∧ ((E ++ (l.take j).map (fun y => (k, y))).length + 1) * 16 ≤ 140737488355328) := by
            have h1 := HLn.out
            have h2 := HLl.out
            have h3 : ((l.take j).map (fun y => (k, y))).length ≤ l.length := by simp; omega
            show _ ∧ _
            rw [List.length_append]
            unfold maxLen; omega
          have HS := Lib.hid hst
          have HO := Lib.hid hown
          have HB := Lib.hid hB
          have HO2 := Lib.hid hown2
          have HX := Lib.hid hx
          have hj0 : (0 : Int) ≤ (j : Int) := by omega
          have hj1 : (j : Int) < (l.length : Int) := by omega
          obtain ⟨i0, hie, hz0, hz2, hz3⟩ := info_parts infoEdge
          have hsz := hB.size
          clear hst hown hB hown2 hx hy hc2 hm2
          generalize E ++ (l.take j).map (fun y => (k, y)) = E1 at *
          generalize l.getD j 0 = y at *
          go_wp2_with (first | (at_builtin; go_loud (refine wpList_append_lies _ rfl _ _ 53 rfl w.heap.size 61 i0 (.agg #[.int .i64 0, .int .i64 0]) 2 16 Tryd.underlying53 hie hz0 hz2 hz3 rfl (by decide) u3 E1.length (edgeCells E1) rfl (HO.out.alloc _) ⟨wr.heap.size, 0, none⟩ 1 1 [.int .i64 k, .int .i64 y] rfl rfl (edge_new wr _ _ _) (edge_cell _ _) (by decide) HM.out.1 HM.out.2 (by simp; omega) (wr.heap.size + 1) (by simp) ?_)) | fail)
          intro g c w3 hown3 hgrow hat hg3
          have HO3 := Lib.hid hown3
          have HGr := Lib.hid hgrow
          have HAt := Lib.hid hat
          clear hown3 hgrow hat
          go_wp2_with fail
          go_roundw
          case rel =>
            refine ⟨j + 1, by omega, by go_num, ?_, ?_, ?_, ?_⟩
            · rw [HS.out, List.length_append, edgeCells_append]
              exact HO3.out
            · exact (HB.out.alloc hsz _).grown HGr.out (by simp; omega) (fun q hq => (World.ownsRow.lt HO.out q hq).1)
            · exact owns_of_heap HO2.out fun q hq => by
                have hlt := owns_lt HO2.out q hq
                exact (HGr.out.block q (by simp; omega) (fun e => HX.out q e.symm hq)).trans (heap_alloc_lt hlt)
            · intro q hq h2
              cases hq
              have hlt : g < wr.heap.size := owns_lt HO2.out _ h2
              rcases HAt.out with h | h
              · exact HX.out _ h h2
              · omega
          case measure => simp [intOf]; omega
        · obtain rfl : j = l.length := by omega
          have HO := Lib.hid hown
          have HB := Lib.hid hB
          clear hown hB hown2 hx
          go_wp2_with fail
          go_roundw
          case rel =>
            refine ⟨k + 1, by omega, by go_num, ?_, HB.out⟩
            have h := HO.out
            rw [List.take_length] at h
            rw [HEL.out]
            exact h
          case measure => simp [intOf]; omega
    · obtain rfl : k = G.n := by omega
      have HO := Lib.hid hown
      have HB := Lib.hid hB
      clear hown hB
      go_wp2_with fail
      go_ret
      exact ⟨_, rfl, HO.out, HB.out⟩
end Go.Proofs.YtafdijcolponjaaDoor
