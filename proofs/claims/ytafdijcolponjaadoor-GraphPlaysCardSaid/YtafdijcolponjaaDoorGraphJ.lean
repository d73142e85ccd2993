/- A graph in memory, told by its edges alone; each method's contract in these words. No condition but those in each statement; Next, Back and Edges: where the table lies. -/
import Derived.Test.YtafdijcolponjaaDoorGraphG
import Derived.Test.YtafdijcolponjaaDoorGraphH
import Derived.Test.YtafdijcolponjaaDoorGraphI
namespace Go.Proofs.YtafdijcolponjaaDoor
open Go.RowKit

/-- A graph of n nodes whose edges are L, as they came, at block b; F: its blocks. -/
def GrAt (w : World) (b : Nat) (F : List Nat) (n : Nat) (L : List (Nat × Nat)) : Prop := ∃ G, GraphAt w b F G ∧ G.n = n ∧ G.L = L

theorem GraphAt.ok {w : World} {b : Nat} {F : List Nat} {G : GM} (h : GraphAt w b F G) : G.ok := by
  obtain ⟨_, _, _, _, _, _, _, _, _, _, _, _, _, hok, _⟩ := h; exact hok
theorem GraphAt.mem {w : World} {b : Nat} {F : List Nat} {G : GM} (h : GraphAt w b F G) : b ∈ F := by
  obtain ⟨_, _, _, _, _, _, _, _, _, _, _, _, _, _, hF, _⟩ := h; rw [hF]; simp
theorem GrAt.frame {w w' : World} {b n : Nat} {F : List Nat} {L : List (Nat × Nat)} (h : GrAt w b F n L) (hb : ∀ k ∈ F, w'.heap[k]? = w.heap[k]?) : GrAt w' b F n L := by
  obtain ⟨G, h, h1, h2⟩ := h; exact ⟨G, h.frame hb, h1, h2⟩
theorem GrAt.lt {w : World} {b n : Nat} {F : List Nat} {L : List (Nat × Nat)} (h : GrAt w b F n L) : ∀ k ∈ F, k < w.heap.size := by
  obtain ⟨G, h, h1, h2⟩ := h; exact graph_lt h
theorem GrAt.mem {w : World} {b n : Nat} {F : List Nat} {L : List (Nat × Nat)} (h : GrAt w b F n L) : b ∈ F := by
  obtain ⟨G, h, h1, h2⟩ := h; exact h.mem
theorem GrAt.alloc {w : World} {b n : Nat} {F : List Nat} {L : List (Nat × Nat)} (h : GrAt w b F n L) (o : Obj) : GrAt (w.alloc o) b F n L :=
  h.frame fun k hk => heap_alloc_lt (h.lt k hk)
theorem GrAt.below {w w' : World} {b n : Nat} {F : List Nat} {L : List (Nat × Nat)} (h : GrAt w b F n L) {B : Nat} (hb : Below B w w') (hB : w.heap.size ≤ B) : GrAt w' b F n L :=
  h.frame fun k hk => hb.block k (Nat.lt_of_lt_of_le (h.lt k hk) hB)
/-- A change that its blocks are no part of. -/
theorem GrAt.chg {w w' : World} {b n : Nat} {F : List Nat} {L : List (Nat × Nat)} (h : GrAt w b F n L) {P : Nat → Prop} (hc : Chg P w w') (hF : ∀ k ∈ F, ¬ P k) : GrAt w' b F n L :=
  h.frame fun k hk => hc.block k (h.lt k hk) (hF k hk)
theorem GrAt.n500 {w : World} {b n : Nat} {F : List Nat} {L : List (Nat × Nat)} (h : GrAt w b F n L) : n ≤ 500 := by
  obtain ⟨G, h, rfl, rfl⟩ := h; exact h.ok.n500
theorem GrAt.inr {w : World} {b n : Nat} {F : List Nat} {L : List (Nat × Nat)} (h : GrAt w b F n L) : ∀ e ∈ L, e.1 < n ∧ e.2 < n := by
  obtain ⟨G, h, rfl, rfl⟩ := h; exact h.ok.inr
theorem GrAt.once {w : World} {b n : Nat} {F : List Nat} {L : List (Nat × Nat)} (h : GrAt w b F n L) : L.Nodup := by
  obtain ⟨G, h, rfl, rfl⟩ := h; exact h.ok.once
theorem GrAt.few {w : World} {b n : Nat} {F : List Nat} {L : List (Nat × Nat)} (h : GrAt w b F n L) : L.length ≤ 250000 := by
  have h1 := edges_few h.once h.inr
  have h2 := h.n500
  have h3 := Nat.mul_le_mul h2 h2
  omega

theorem gr_len (b n : Nat) (F : List Nat) (L : List (Nat × Nat)) (w : World) (h : GrAt w b F n L) :
    Calls Tryd.prog 42 #[.pointer (some ⟨b, 0, none⟩)] w fun e w' => e = .returned (.int .i64 n) ∧ w = w' := by
  obtain ⟨G, h, rfl, rfl⟩ := h; exact glen_any b F G w h
theorem gr_mark (b n : Nat) (F : List Nat) (L : List (Nat × Nat)) (w : World) (h : GrAt w b F n L) :
    Calls Tryd.prog 43 #[.pointer (some ⟨b, 0, none⟩)] w fun e w' => e = .returned (.int .i64 L.length) ∧ w = w' := by
  obtain ⟨G, h, rfl, rfl⟩ := h; exact mark_any b F G w h
theorem gr_has (b n : Nat) (F : List Nat) (L : List (Nat × Nat)) (a z : Int) (w : World) (h : GrAt w b F n L) :
    Calls Tryd.prog 55 #[.pointer (some ⟨b, 0, none⟩), .int .i64 a, .int .i64 z] w fun e w' => e = .returned (.bool (hasR L a z)) ∧ w = w' := by
  obtain ⟨G, h, rfl, rfl⟩ := h
  rw [← GM.has_eq h.ok]; exact ghas_any b F G a z w h
theorem gr_next (b n : Nat) (F : List Nat) (L : List (Nat × Nat)) (a : Int) (w : World) (h : GrAt w b F n L) (hT : TabIs w) :
    Calls Tryd.prog 57 #[.pointer (some ⟨b, 0, none⟩), .int .i64 a] w (ListEnds (nextR n L a) w) := by
  obtain ⟨G, h, rfl, rfl⟩ := h
  rw [← GM.next_eq h.ok]; exact next_any b F G a w h hT
theorem gr_back (b n : Nat) (F : List Nat) (L : List (Nat × Nat)) (a : Int) (w : World) (h : GrAt w b F n L) (hT : TabIs w) :
    Calls Tryd.prog 59 #[.pointer (some ⟨b, 0, none⟩), .int .i64 a] w (ListEnds (backR n L a) w) := by
  obtain ⟨G, h, rfl, rfl⟩ := h
  rw [← GM.back_eq h.ok]; exact back_any b F G a w h hT
theorem gr_edges (b n : Nat) (F : List Nat) (L : List (Nat × Nat)) (w : World) (h : GrAt w b F n L) (hT : TabIs w) :
    Calls Tryd.prog 44 #[.pointer (some ⟨b, 0, none⟩)] w (EdgeEnds (edgesR n L n) w) := by
  obtain ⟨G, h, rfl, rfl⟩ := h
  rw [← GM.edges_eq h.ok G.n (Nat.le_refl _)]; exact edges_any b F G w h hT

/-- What a call that may change a graph leaves. -/
def GrEnds (b : Nat) (F : List Nat) (v : Value) (n : Nat) (L : List (Nat × Nat)) (w : World) (e : Ending) (w' : World) : Prop :=
  e = .returned v ∧ ∃ F', GrAt w' b F' n L ∧ (∀ k ∈ F', k ∈ F ∨ w.heap.size ≤ k) ∧ Chg (· ∈ F) w w'

theorem gr_put (b n : Nat) (F : List Nat) (L : List (Nat × Nat)) (a z : Int) (w : World) (h : GrAt w b F n L) :
    Calls Tryd.prog 48 #[.pointer (some ⟨b, 0, none⟩), .int .i64 a, .int .i64 z] w (GrEnds b F (two (putV n L a z).1 (putV n L a z).2) n (putL n L a z) w) := by
  have hfew := h.few
  obtain ⟨G, h, rfl, rfl⟩ := h
  have hok := h.ok
  unfold putV putL
  by_cases hin : inG G.n a = true ∧ inG G.n z = true
  · rw [if_pos hin, if_pos hin]
    have he := GM.has_eq hok a z
    cases hh : hasR G.L a z with
    | true =>
      rw [hh] at he
      rw [if_pos rfl, if_pos rfl]
      refine (gput_has b F G a z w h hin.1 hin.2 he).mono ?_
      rintro e w' ⟨rfl, rfl⟩
      exact ⟨rfl, F, ⟨G, h, rfl, rfl⟩, fun k hk => .inl hk, Chg.refl _ _⟩
    | false =>
      rw [hh] at he
      rw [if_neg (by simp), if_neg (by simp)]
      have ha := of_decide_eq_true hin.1
      have hz := of_decide_eq_true hin.2
      obtain ⟨i, rfl⟩ := Int.eq_ofNat_of_zero_le ha.1
      obtain ⟨j, rfl⟩ := Int.eq_ofNat_of_zero_le hz.1
      refine (gput_new b F G i j w h (by omega) (by omega) he (by omega)).mono ?_
      rintro e w' ⟨rfl, F', hG, hF, hC⟩
      exact ⟨rfl, F', ⟨_, hG, rfl, rfl⟩, hF, hC⟩
  · rw [if_neg hin, if_neg hin]
    refine (gput_no b F G a z w h hin).mono ?_
    rintro e w' ⟨rfl, rfl⟩
    exact ⟨rfl, F, ⟨G, h, rfl, rfl⟩, fun k hk => .inl hk, Chg.refl _ _⟩

def undoC (L : List (Nat × Nat)) (z : Int) : Int := if 0 ≤ z ∧ z ≤ (L.length : Int) then 0 else 2
def undoL (L : List (Nat × Nat)) (z : Int) : List (Nat × Nat) := if 0 ≤ z ∧ z ≤ (L.length : Int) then L.take z.toNat else L
theorem gr_undo (b n : Nat) (F : List Nat) (L : List (Nat × Nat)) (z : Int) (w : World) (h : GrAt w b F n L) :
    Calls Tryd.prog 49 #[.pointer (some ⟨b, 0, none⟩), .int .i64 z] w (GrEnds b F (.int .i64 (undoC L z)) n (undoL L z) w) := by
  obtain ⟨G, h, rfl, rfl⟩ := h
  unfold undoC undoL
  by_cases hz : 0 ≤ z ∧ z ≤ (G.L.length : Int)
  · rw [if_pos hz, if_pos hz]
    obtain ⟨m, rfl⟩ := Int.eq_ofNat_of_zero_le hz.1
    rw [Int.toNat_natCast]
    refine (gundo_yes b F G m w h (by omega)).mono ?_
    rintro e w' ⟨rfl, G', hG, hn, hL, hC⟩
    exact ⟨rfl, F, ⟨G', hG, hn, hL⟩, fun k hk => .inl hk, hC⟩
  · rw [if_neg hz, if_neg hz]
    refine (gundo_no b F G z w h (by omega)).mono ?_
    rintro e w' ⟨rfl, rfl⟩
    exact ⟨rfl, F, ⟨G, h, rfl, rfl⟩, fun k hk => .inl hk, Chg.refl _ _⟩

/-- A graph that is new, wholly. -/
def GrNew (n : Nat) (L : List (Nat × Nat)) (w : World) (e : Ending) (w' : World) : Prop :=
  ∃ b F, e = .returned (.tuple #[.pointer (some ⟨b, 0, none⟩), .int .i64 0]) ∧ GrAt w' b F n L ∧ (∀ k ∈ F, w.heap.size ≤ k) ∧ Below w.heap.size w w'
theorem gr_new (n : Nat) (w : World) (hn : n ≤ 500) :
    Calls Tryd.prog 40 #[.int .i64 n] w (GrNew n [] w) := by
  refine (gnew_yes n w hn).mono ?_
  rintro e w' ⟨rfl, F, hG, hF, hB⟩
  exact ⟨_, F, rfl, ⟨_, hG, rfl, rfl⟩, hF, hB⟩
end Go.Proofs.YtafdijcolponjaaDoor
