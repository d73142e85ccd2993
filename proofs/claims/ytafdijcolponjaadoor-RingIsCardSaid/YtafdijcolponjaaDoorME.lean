/- A graph in memory, told by its edges alone; each method's contract in these words. No condition but those in each statement; Next, Back and Edges: where the table lies. The contracts of Few, Small, graph.Of; the chapter's example. No condition but those in each statement; works: where the table lies. The contracts of Few, Small, graph.Of; the chapter's example. No condition but those in each statement; works: where the table lies. The contract of graph.Of. No condition but those in each statement. The chapter's example works. Condition: where the table lies. deemsterref19.SameEdges tells whether two rows of edges are the same. No condition but those in each statement. GraphUndoes returns true for every input. Condition: where the table lies. The document's graph in memory; the contracts of its Has, Put, Undo. No condition but those in each statement; Put: at most 2 to the power 40 edges. The contracts of the document's Put, Undo, Next, Back. No condition but those in each statement; Put: at most 2 to the power 40 edges. The contracts of the document's Undo, Next, Back. No condition but those in each statement. The contracts of the document's Edges, Of, May. No condition but those in each statement. Both graphs in memory, apart from each other; what GraphPlays' walk carries. No program is walked here; no condition but those in each statement. The contracts of slices.IndexFunc and ContainsFunc at edges and at numbers, whatever the predicate. Conditions: those in each statement. -/
import Derived.Test.YtafdijcolponjaaDoorMD
import Derived.ArgAppend
namespace Go.Proofs.YtafdijcolponjaaDoor
open Go.RowKit

/-- A graph of n nodes whose edges are L, as they came, at block b; F: its blocks. -/
def GrAt (w : World) (b : Nat) (F : List Nat) (n : Nat) (L : List (Nat × Nat)) : Prop := ∃ G, GraphAt w b F G ∧ G.n = n ∧ G.L = L

theorem GraphAt.ok {w : World} {b : Nat} {F : List Nat} {G : GM} (h : GraphAt w b F G) : G.ok := by
  obtain ⟨_, _, _, _, _, _, _, _, _, _, _, _, _, hok, _⟩ := h; exact hok
theorem GraphAt.mem {w : World} {b : Nat} {F : List Nat} {G : GM} (h : GraphAt w b F G) : b ∈ F := by
  obtain ⟨_, _, _, _, _, _, _, _, _, _, _, _, _, _, hF, _⟩ := h; rw [hF]; simp
theorem GrAt.frame {w w' : World} {b n : Nat} {F : List Nat} {L : List (Nat × Nat)} (h : GrAt w b F n L) (hb : ∀ k ∈ F, w'.heap[k]? = w.heap[k]?) : GrAt w' b F n L := by
  obtain ⟨G, h, h1, h2⟩ := h; exact ⟨G, h.frame hb, h1, h2⟩
theorem GrAt.lt {w : World} {b n : Nat} {F : List Nat} {L : List (Nat × Nat)} (h : GrAt w b F n L) : ∀ k ∈ F, k < w.heap.size := by
  obtain ⟨G, h, h1, h2⟩ := h; exact graph_lt h
theorem GrAt.mem {w : World} {b n : Nat} {F : List Nat} {L : List (Nat × Nat)} (h : GrAt w b F n L) : b ∈ F := by
  obtain ⟨G, h, h1, h2⟩ := h; exact h.mem
theorem GrAt.alloc {w : World} {b n : Nat} {F : List Nat} {L : List (Nat × Nat)} (h : GrAt w b F n L) (o : Obj) : GrAt (w.alloc o) b F n L :=
  h.frame fun k hk => heap_alloc_lt (h.lt k hk)
theorem GrAt.below {w w' : World} {b n : Nat} {F : List Nat} {L : List (Nat × Nat)} (h : GrAt w b F n L) {B : Nat} (hb : Below B w w') (hB : w.heap.size ≤ B) : GrAt w' b F n L :=
  h.frame fun k hk => hb.block k (Nat.lt_of_lt_of_le (h.lt k hk) hB)
/-- A change that its blocks are no part of. -/
theorem GrAt.chg {w w' : World} {b n : Nat} {F : List Nat} {L : List (Nat × Nat)} (h : GrAt w b F n L) {P : Nat → Prop} (hc : Chg P w w') (hF : ∀ k ∈ F, ¬ P k) : GrAt w' b F n L :=
  h.frame fun k hk => hc.block k (h.lt k hk) (hF k hk)
theorem GrAt.n500 {w : World} {b n : Nat} {F : List Nat} {L : List (Nat × Nat)} (h : GrAt w b F n L) : n ≤ 500 := by
  obtain ⟨G, h, rfl, rfl⟩ := h; exact h.ok.n500
theorem GrAt.inr {w : World} {b n : Nat} {F : List Nat} {L : List (Nat × Nat)} (h : GrAt w b F n L) : ∀ e ∈ L, e.1 < n ∧ e.2 < n := by
  obtain ⟨G, h, rfl, rfl⟩ := h; exact h.ok.inr
theorem GrAt.once {w : World} {b n : Nat} {F : List Nat} {L : List (Nat × Nat)} (h : GrAt w b F n L) : L.Nodup := by
  obtain ⟨G, h, rfl, rfl⟩ := h; exact h.ok.once
theorem GrAt.few {w : World} {b n : Nat} {F : List Nat} {L : List (Nat × Nat)} (h : GrAt w b F n L) : L.length ≤ 250000 := by
  have h1 := edges_few h.once h.inr
  have h2 := h.n500
  have h3 := Nat.mul_le_mul h2 h2
  omega

theorem gr_len (b n : Nat) (F : List Nat) (L : List (Nat × Nat)) (w : World) (h : GrAt w b F n L) :
    Calls Tryd.prog 42 #[.pointer (some ⟨b, 0, none⟩)] w fun e w' => e = .returned (.int .i64 n) ∧ w = w' := by
  obtain ⟨G, h, rfl, rfl⟩ := h; exact glen_any b F G w h
theorem gr_mark (b n : Nat) (F : List Nat) (L : List (Nat × Nat)) (w : World) (h : GrAt w b F n L) :
    Calls Tryd.prog 43 #[.pointer (some ⟨b, 0, none⟩)] w fun e w' => e = .returned (.int .i64 L.length) ∧ w = w' := by
  obtain ⟨G, h, rfl, rfl⟩ := h; exact mark_any b F G w h
theorem gr_has (b n : Nat) (F : List Nat) (L : List (Nat × Nat)) (a z : Int) (w : World) (h : GrAt w b F n L) :
    Calls Tryd.prog 55 #[.pointer (some ⟨b, 0, none⟩), .int .i64 a, .int .i64 z] w fun e w' => e = .returned (.bool (hasR L a z)) ∧ w = w' := by
  obtain ⟨G, h, rfl, rfl⟩ := h
  rw [← GM.has_eq h.ok]; exact ghas_any b F G a z w h
theorem gr_next (b n : Nat) (F : List Nat) (L : List (Nat × Nat)) (a : Int) (w : World) (h : GrAt w b F n L) (hT : TabIs w) :
    Calls Tryd.prog 57 #[.pointer (some ⟨b, 0, none⟩), .int .i64 a] w (ListEnds (nextR n L a) w) := by
  obtain ⟨G, h, rfl, rfl⟩ := h
  rw [← GM.next_eq h.ok]; exact next_any b F G a w h hT
theorem gr_back (b n : Nat) (F : List Nat) (L : List (Nat × Nat)) (a : Int) (w : World) (h : GrAt w b F n L) (hT : TabIs w) :
    Calls Tryd.prog 59 #[.pointer (some ⟨b, 0, none⟩), .int .i64 a] w (ListEnds (backR n L a) w) := by
  obtain ⟨G, h, rfl, rfl⟩ := h
  rw [← GM.back_eq h.ok]; exact back_any b F G a w h hT
theorem gr_edges (b n : Nat) (F : List Nat) (L : List (Nat × Nat)) (w : World) (h : GrAt w b F n L) (hT : TabIs w) :
    Calls Tryd.prog 44 #[.pointer (some ⟨b, 0, none⟩)] w (EdgeEnds (edgesR n L n) w) := by
  obtain ⟨G, h, rfl, rfl⟩ := h
  rw [← GM.edges_eq h.ok G.n (Nat.le_refl _)]; exact edges_any b F G w h hT

/-- What a call that may change a graph leaves. -/
def GrEnds (b : Nat) (F : List Nat) (v : Value) (n : Nat) (L : List (Nat × Nat)) (w : World) (e : Ending) (w' : World) : Prop :=
  e = .returned v ∧ ∃ F', GrAt w' b F' n L ∧ (∀ k ∈ F', k ∈ F ∨ w.heap.size ≤ k) ∧ Chg (· ∈ F) w w'

theorem gr_put (b n : Nat) (F : List Nat) (L : List (Nat × Nat)) (a z : Int) (w : World) (h : GrAt w b F n L) :
    Calls Tryd.prog 48 #[.pointer (some ⟨b, 0, none⟩), .int .i64 a, .int .i64 z] w (GrEnds b F (two (putV n L a z).1 (putV n L a z).2) n (putL n L a z) w) := by
  have hfew := h.few
  obtain ⟨G, h, rfl, rfl⟩ := h
  have hok := h.ok
  unfold putV putL
  by_cases hin : inG G.n a = true ∧ inG G.n z = true
  · rw [if_pos hin, if_pos hin]
    have he := GM.has_eq hok a z
    cases hh : hasR G.L a z with
    | true =>
      rw [hh] at he
      rw [if_pos rfl, if_pos rfl]
      refine (gput_has b F G a z w h hin.1 hin.2 he).mono ?_
      rintro e w' ⟨rfl, rfl⟩
      exact ⟨rfl, F, ⟨G, h, rfl, rfl⟩, fun k hk => .inl hk, Chg.refl _ _⟩
    | false =>
      rw [hh] at he
      rw [if_neg (by simp), if_neg (by simp)]
      have ha := of_decide_eq_true hin.1
      have hz := of_decide_eq_true hin.2
      obtain ⟨i, rfl⟩ := Int.eq_ofNat_of_zero_le ha.1
      obtain ⟨j, rfl⟩ := Int.eq_ofNat_of_zero_le hz.1
      refine (gput_new b F G i j w h (by omega) (by omega) he (by omega)).mono ?_
      rintro e w' ⟨rfl, F', hG, hF, hC⟩
      exact ⟨rfl, F', ⟨_, hG, rfl, rfl⟩, hF, hC⟩
  · rw [if_neg hin, if_neg hin]
    refine (gput_no b F G a z w h hin).mono ?_
    rintro e w' ⟨rfl, rfl⟩
    exact ⟨rfl, F, ⟨G, h, rfl, rfl⟩, fun k hk => .inl hk, Chg.refl _ _⟩

def undoC (L : List (Nat × Nat)) (z : Int) : Int := if 0 ≤ z ∧ z ≤ (L.length : Int) then 0 else 2
def undoL (L : List (Nat × Nat)) (z : Int) : List (Nat × Nat) := if 0 ≤ z ∧ z ≤ (L.length : Int) then L.take z.toNat else L
theorem gr_undo (b n : Nat) (F : List Nat) (L : List (Nat × Nat)) (z : Int) (w : World) (h : GrAt w b F n L) :
    Calls Tryd.prog 49 #[.pointer (some ⟨b, 0, none⟩), .int .i64 z] w (GrEnds b F (.int .i64 (undoC L z)) n (undoL L z) w) := by
  obtain ⟨G, h, rfl, rfl⟩ := h
  unfold undoC undoL
  by_cases hz : 0 ≤ z ∧ z ≤ (G.L.length : Int)
  · rw [if_pos hz, if_pos hz]
    obtain ⟨m, rfl⟩ := Int.eq_ofNat_of_zero_le hz.1
    rw [Int.toNat_natCast]
    refine (gundo_yes b F G m w h (by omega)).mono ?_
    rintro e w' ⟨rfl, G', hG, hn, hL, hC⟩
    exact ⟨rfl, F, ⟨G', hG, hn, hL⟩, fun k hk => .inl hk, hC⟩
  · rw [if_neg hz, if_neg hz]
    refine (gundo_no b F G z w h (by omega)).mono ?_
    rintro e w' ⟨rfl, rfl⟩
    exact ⟨rfl, F, ⟨G, h, rfl, rfl⟩, fun k hk => .inl hk, Chg.refl _ _⟩

/-- A graph that is new, wholly. -/
def GrNew (n : Nat) (L : List (Nat × Nat)) (w : World) (e : Ending) (w' : World) : Prop :=
  ∃ b F, e = .returned (.tuple #[.pointer (some ⟨b, 0, none⟩), .int .i64 0]) ∧ GrAt w' b F n L ∧ (∀ k ∈ F, w.heap.size ≤ k) ∧ Below w.heap.size w w'
theorem gr_new (n : Nat) (w : World) (hn : n ≤ 500) :
    Calls Tryd.prog 40 #[.int .i64 n] w (GrNew n [] w) := by
  refine (gnew_yes n w hn).mono ?_
  rintro e w' ⟨rfl, F, hG, hF, hB⟩
  exact ⟨_, F, rfl, ⟨_, hG, rfl, rfl⟩, hF, hB⟩
end Go.Proofs.YtafdijcolponjaaDoor

namespace Go.Proofs.YtafdijcolponjaaDoor
open Go.RowKit

/-- The cells of the first m pairs. -/
def cellsZ (z : Nat → Nat → Int) (m : Nat) : List Value := (List.range m).flatMap fun i => [.int .i64 (z i 0), .int .i64 (z i 1)]
theorem cellsZ_succ (z : Nat → Nat → Int) (m : Nat) : cellsZ z (m + 1) = cellsZ z m ++ [.int .i64 (z m 0), .int .i64 (z m 1)] := by
  unfold cellsZ
  rw [List.range_succ, List.flatMap_append]; simp
theorem cellsZ_len (z : Nat → Nat → Int) : ∀ m, (cellsZ z m).length = m * 2
  | 0 => rfl
  | m + 1 => by rw [cellsZ_succ, List.length_append, cellsZ_len z m]; simp; omega
theorem cellsZ_at (z : Nat → Nat → Int) : ∀ (m i : Nat), i < m → (cellsZ z m)[i * 2]? = some (.int .i64 (z i 0)) ∧ (cellsZ z m)[i * 2 + 1]? = some (.int .i64 (z i 1))
  | 0, i, h => absurd h (Nat.not_lt_zero i)
  | m + 1, i, h => by
    rw [cellsZ_succ]
    by_cases e : i < m
    · rw [List.getElem?_append_left (by rw [cellsZ_len]; omega), List.getElem?_append_left (by rw [cellsZ_len]; omega)]
      exact cellsZ_at z m i e
    · obtain rfl : i = m := by omega
      rw [List.getElem?_append_right (by rw [cellsZ_len]; omega), List.getElem?_append_right (by rw [cellsZ_len]; omega), cellsZ_len]
      simp
theorem cellsZ_one (z : Nat → Nat → Int) (m : Nat) : ∀ u ∈ cellsZ z m, u.oneCell' = true := by
  intro u hu
  obtain ⟨i, _, hi⟩ := List.mem_flatMap.1 hu
  simp only [List.mem_cons, List.not_mem_nil, or_false] at hi
  rcases hi with rfl | rfl <;> rfl
theorem cellsZ_get {z : Nat → Nat → Int} {m k : Nat} (h : k < m * 2) : (cellsZ z m)[k]? = some (.int .i64 (z (k / 2) (k % 2))) := by
  have hi : k / 2 < m := by omega
  have := cellsZ_at z m (k / 2) hi
  rcases (by omega : k % 2 = 0 ∨ k % 2 = 1) with h0 | h0
  · rw [h0]; rw [← this.1]; congr 1; omega
  · rw [h0]; rw [← this.2]; congr 1; omega

theorem IsRowS.src2 {w : World} {a : Option Addr} {len cap : Nat} {zs : Nat → Nat → Int} (h : IsRowS 2 w a len cap zs) {m : Nat} (hm : m ≤ len) : Src w a m cap 2 (cellsZ zs m) := by
  rcases h with ⟨rfl, rfl, rfl⟩ | ⟨x, rfl, hl, hcap, hc⟩
  · obtain rfl : m = 0 := by omega
    exact ⟨rfl, fun _ => ⟨rfl, rfl⟩, Nat.le_refl _, by unfold maxLen; omega, fun ad had => (by cases had), cellsZ_one _ _⟩
  · refine ⟨cellsZ_len _ _, fun e => (by cases e), by omega, hcap, ?_, cellsZ_one _ _⟩
    intro ad had j u hj
    cases had
    have hlt : j < m * 2 := by
      have := (List.getElem?_eq_some_iff.1 hj).1
      rw [cellsZ_len] at this; exact this
    rw [cellsZ_get hlt] at hj
    cases hj
    have := (hc (j / 2) (by omega) (j % 2) (by omega)).1
    rw [show j / 2 * 2 + j % 2 = j by omega] at this
    exact this

/-- Edges in memory, from a block's first cell on. -/
def EdgesIn (w : World) (ad : Option Addr) (m : Nat) (z : Nat → Nat → Int) : Prop :=
  m ≤ 9223372036854775807 ∧ (0 < m → ∃ g, ad = some ⟨g, 0, none⟩ ∧ g < w.heap.size ∧ ∀ i, i < m → w.cell? ⟨g, i * 2, none⟩ = some (.int .i64 (z i 0)) ∧ w.cell? ⟨g, i * 2 + 1, none⟩ = some (.int .i64 (z i 1)))
theorem EdgesIn.of_owns {w : World} {base e m c : Nat} {ad : Option Addr} {z : Nat → Nat → Int} (h : w.ownsRow base e 2 (.slice ad m c) m (cellsZ z m)) : EdgesIn w ad m z := by
  rcases owns_shape h with ⟨hv, h0⟩ | ⟨g, cap, hv, hc, hm⟩
  · exact ⟨by omega, fun h => by omega⟩
  · cases hv
    unfold maxLen at hm
    refine ⟨by omega, fun _ => ⟨g, rfl, owns_lt h g rfl, fun i hi => ?_⟩⟩
    have := cellsZ_at z m i hi
    exact ⟨(h.cellAt (i * 2) (by omega)).trans this.1, (h.cellAt (i * 2 + 1) (by omega)).trans this.2⟩
theorem EdgesIn.below {w w' : World} {ad : Option Addr} {m : Nat} {z : Nat → Nat → Int} (h : EdgesIn w ad m z) {B : Nat} (hb : Below B w w') (hB : w.heap.size ≤ B) : EdgesIn w' ad m z := by
  refine ⟨h.1, fun hm => ?_⟩
  obtain ⟨g, rfl, hg, hc⟩ := h.2 hm
  have hz := hb.size
  refine ⟨g, rfl, ?_, fun i hi => ?_⟩
  · have := hb.block g (by omega)
    rcases Nat.lt_or_ge g w'.heap.size with h' | h'
    · exact h'
    · rw [Array.getElem?_eq_none h', Array.getElem?_eq_getElem hg] at this; cases this
  · have e1 := World.cell?_of_block (a := ⟨g, i * 2, none⟩) (hb.block g (by omega))
    have e2 := World.cell?_of_block (a := ⟨g, i * 2 + 1, none⟩) (hb.block g (by omega))
    exact ⟨e1.trans (hc i hi).1, e2.trans (hc i hi).2⟩
end Go.Proofs.YtafdijcolponjaaDoor

namespace Go.Proofs.YtafdijcolponjaaDoor
open Go.RowKit

def fewN (len : Nat) : Nat := min len 60
/-- At most sixty edges, in memory of the call's own. -/
def EFewEnds (z : Nat → Nat → Int) (m : Nat) (w : World) (e : Ending) (w' : World) : Prop :=
  ∃ g cap, e = .returned (.slice (some ⟨g, 0, none⟩) m cap) ∧ w'.ownsRow w.heap.size 61 2 (.slice (some ⟨g, 0, none⟩) m cap) m (cellsZ z m) ∧ Below w.heap.size w w'

set_option maxHeartbeats 400000 in
theorem efew_any (a : Option Addr) (len cap : Nat) (z : Nat → Nat → Int) (w : World) (h : IsRowS 2 w a len cap z) :
    Calls Tryd.prog 47 #[.slice a len cap] w (EFewEnds z (fewN len) w) := by
  obtain ⟨i0, hi, hz0, hz1, hz2⟩ := info_parts infoEdge
  have hlc := h.len_le
  have hmn : fewN len ≤ len := Nat.min_le_left _ _
  have hm60 : fewN len ≤ 60 := Nat.min_le_right _ _
  have hf := h.src2 hmn
  have hf1 : 60 < len → fewN len = 60 := fun h => Nat.min_eq_right (by omega)
  have hf2 : len ≤ 60 → fewN len = len := fun h => Nat.min_eq_left h
  generalize fewN len = m at *
  obtain ⟨h1, h2, h3, h4, h5, h6⟩ := hf
  have hnil : a = none → len = 0 ∧ cap = 0 := fun e => by
    rcases h with ⟨_, h, h'⟩ | ⟨x, hx, _⟩
    · exact ⟨h, h'⟩
    · rw [e] at hx; cases hx
  have hown := World.ownsRow_made (base := w.heap.size) (e := 61) (size := 2) w #[] 0 (Nat.le_refl _) (by decide) rfl
  have HO := Lib.hid hown
  have hml : (0 : Nat) + m ≤ maxLen := by unfold maxLen; omega
  clear hown h
  cases a with
  | none =>
    obtain ⟨rfl, rfl⟩ := hnil rfl
    obtain rfl : m = 0 := hf2 (by omega)
    clear h1 h2 h5 h6 hnil hf1 hf2
    go_enter Tryd.func47, Tryd.ntmps47
    go_wp2_with (at_builtin; go_loud (refine wpList_append_own_none rfl _ _ _ rfl w.heap.size 61 i0 2 Tryd.underlying53 hi _ 0 [] rfl HO.out rfl ?_))
    go_ret
    exact ⟨_, _, rfl, HO.out, (Below.refl _ _).alloc (Nat.le_refl _) _⟩
  | some x =>
    have h5' := Lib.hid (h5 x rfl)
    have h6' := Lib.hid h6
    have h1' := Lib.hid h1
    have hl0 : (0 : Int) ≤ (len : Int) := by omega
    have hl1 : (len : Int) ≤ 9223372036854775807 := by omega
    clear h1 h2 h5 h6 hnil
    rcases Nat.lt_or_ge 60 len with hlt | hlt
    · obtain rfl : m = 60 := hf1 hlt
      clear hf1 hf2
      have hle : ¬ ((len : Int) ≤ 60) := by omega
      go_enter Tryd.func47, Tryd.ntmps47
      go_wp2_with (at_builtin; go_loud (refine wpList_append_own (w.alloc (.cells #[] 61)) rfl _ _ _ rfl w.heap.size 61 i0 (.agg #[.int .i64 0, .int .i64 0]) 2 16 Tryd.underlying53 hi hz0 hz1 hz2 rfl (by decide) _ 0 [] rfl HO.out x 60 cap (cellsZ z 60) rfl h1'.out (fun j u hj => cell_alloc (h5'.out j u hj)) h6'.out hml (by omega) (by simp) ?_))
      intro v' w1 hown1 hgrow hne
      have HN := Lib.hid hne
      clear hne
      go_wp2
      go_ret
      obtain ⟨g, c, rfl⟩ := owns_some hown1 HN.out
      exact ⟨g, c, rfl, hown1, ((Below.refl _ _).alloc (Nat.le_refl _) _).grown hgrow (by simp) (fun k hk => by cases hk; exact Nat.le_refl _)⟩
    · obtain rfl : m = len := hf2 hlt
      clear hf1 hf2
      have hle : ((m : Int) ≤ 60) := by omega
      go_enter Tryd.func47, Tryd.ntmps47
      go_wp2_with (at_builtin; go_loud (refine wpList_append_own (w.alloc (.cells #[] 61)) rfl _ _ _ rfl w.heap.size 61 i0 (.agg #[.int .i64 0, .int .i64 0]) 2 16 Tryd.underlying53 hi hz0 hz1 hz2 rfl (by decide) _ 0 [] rfl HO.out x m cap (cellsZ z m) rfl h1'.out (fun j u hj => cell_alloc (h5'.out j u hj)) h6'.out hml (by omega) (by simp) ?_))
      intro v' w1 hown1 hgrow hne
      have HN := Lib.hid hne
      clear hne
      go_wp2
      go_ret
      obtain ⟨g, c, rfl⟩ := owns_some hown1 HN.out
      exact ⟨g, c, rfl, hown1, ((Below.refl _ _).alloc (Nat.le_refl _) _).grown hgrow (by simp) (fun k hk => by cases hk; exact Nat.le_refl _)⟩

def smallN (n : Int) : Int := if 30 < n ∧ n ≤ 500 then n % 31 else n
theorem small_any (n : Int) (w : World) :
    Calls Tryd.prog 45 #[.int .i64 n] w fun e w' => e = .returned (.int .i64 (smallN n)) ∧ w = w' := by
  unfold smallN
  by_cases h0 : 30 < n
  · by_cases h1 : n ≤ 500
    · rw [if_pos ⟨h0, h1⟩]
      go_enter Tryd.func45, Tryd.ntmps45
      go_wp2_with fail
      go_ret
      exact ⟨by go_num, rfl⟩
    · rw [if_neg (fun h => h1 h.2)]
      go_enter Tryd.func45, Tryd.ntmps45
      go_wp2_with fail
      go_ret
      exact ⟨rfl, rfl⟩
  · rw [if_neg (fun h => h0 h.1)]
    go_enter Tryd.func45, Tryd.ntmps45
    go_wp2_with fail
    go_ret
    exact ⟨rfl, rfl⟩
end Go.Proofs.YtafdijcolponjaaDoor

namespace Go.Proofs.YtafdijcolponjaaDoor
open Go.RowKit

def ofB (n : Int) (z : Nat → Nat → Int) (m : Nat) : Bool := decide (0 ≤ n ∧ n ≤ 500) && mayE n.toNat z m
def OfEnds (n : Int) (z : Nat → Nat → Int) (m : Nat) (w : World) (e : Ending) (w' : World) : Prop :=
  (ofB n z m = true ∧ GrNew n.toNat (ofZ n.toNat z m) w e w') ∨ (ofB n z m = false ∧ e = .returned (.tuple #[.pointer none, .int .i64 2]) ∧ Below w.heap.size w w')
def OfRel (w : World) (b n : Nat) (z : Nat → Nat → Int) (m : Nat) (i : Value) (wr : World) : Prop :=
  ∃ (k : Nat) (F : List Nat), k ≤ m ∧ i = .int .i64 k ∧ GrAt wr b F n (ofZ n z k) ∧ (∀ q ∈ F, w.heap.size ≤ q) ∧ Below w.heap.size w wr ∧ mayE n z k = true

theorem putV_no {n : Nat} {L : List (Nat × Nat)} {a z : Int} (h : (inG n a && inG n z) = false) : putV n L a z = (false, 2) := by
  unfold putV
  rw [if_neg (fun h' => by rw [h'.1, h'.2] at h; cases h)]
theorem putV_yes {n : Nat} {L : List (Nat × Nat)} {a z : Int} (h : (inG n a && inG n z) = true) : (putV n L a z).2 = 0 := by
  unfold putV
  rw [Bool.and_eq_true] at h
  rw [if_pos h]
  split <;> rfl

set_option maxRecDepth 20000 in
theorem gr_of (n : Int) (ad : Option Addr) (m c : Nat) (z : Nat → Nat → Int) (w : World) (h : EdgesIn w ad m z) :
    Calls Tryd.prog 46 #[.int .i64 n, .slice ad m c] w (OfEnds n z m w) := by
  by_cases hn : 0 ≤ n ∧ n ≤ 500
  · obtain ⟨q, rfl⟩ := Int.eq_ofNat_of_zero_le hn.1
    have HN := Lib.hid (gr_new q w (by omega))
    have HE := Lib.hid h
    have hm0 := h.1
    have hofB : ∀ z m, ofB (q : Int) z m = mayE q z m := fun z m => by unfold ofB; rw [decide_eq_true hn, Bool.true_and, Int.toNat_natCast]
    have HofB := Lib.hid hofB
    clear h hn hofB
    go_enter Tryd.func46, Tryd.ntmps46
    go_wp2_with fail
    go_fit HN.out
    rintro e w1 ⟨b, F, rfl, hG, hF, hB⟩
    have HG := Lib.hid hG
    have HF := Lib.hid hF
    have HB := Lib.hid hB
    clear hG hF hB
    go_wp2_with fail
    go_loopw [22] (fun i wr => OfRel w b q z m i wr) (fun i _ => m - (intOf i).toNat)
    case atStart => exact ⟨0, F, Nat.zero_le _, rfl, HG.out, HF.out, HB.out, rfl⟩
    case round =>
      clear HG HF HB
      obtain ⟨k, F', hk, rfl, hG, hF, hB, hmay⟩ := hrel
      by_cases hlt : k < m
      · obtain ⟨g, rfl, hg, hc⟩ := (HE.out.below hB (Nat.le_refl _)).2 (by omega)
        obtain ⟨cx, cy⟩ := hc k hlt
        have HM := Lib.hid (mayE_succ q z k)
        have HZ : Hid (ofZ q z (k + 1) = putL q (ofZ q z k) (z k 0) (z k 1)) := by show _ = _; rfl
        have HNo := Lib.hid (fun h => mayE_no (n := q) (z := z) (i := k) h hlt)
        have HMay := Lib.hid hmay
        generalize z k 0 = x at *
        generalize z k 1 = y at *
        generalize ofZ q z k = L at *
        have hG2 := hG.alloc (.cells #[.int .i64 x, .int .i64 y] 61)
        have HP := Lib.hid (gr_put b q F' L x y _ hG2)
        have HF := Lib.hid hF
        have HB := Lib.hid (hB.alloc hB.size (.cells #[.int .i64 x, .int .i64 y] 61))
        have hk0 : (0 : Int) ≤ (k : Int) := by omega
        have hk1 : (k : Int) < (m : Int) := by omega
        clear hc hG hG2 hF hB hmay
        cases hin : (inG q x && inG q y) with
        | true =>
          have hv := putV_yes (L := L) hin
          have HIn := Lib.hid hin
          generalize putV q L x y = pv at *
          obtain ⟨p1, p2⟩ := pv
          have hv' : p2 = 0 := hv
          subst hv'
          clear hv hin
          unfold two at HP
          go_wp2_with fail
          go_fit HP.out
          rintro e w2 ⟨rfl, F2, hG2, hF2, hC2⟩
          have hsz := HB.out.size
          have hB2 := HB.out.trans (hC2.below hsz fun j hj hF => by have := HF.out j hF; omega)
          have hF2' : ∀ j ∈ F2, w.heap.size ≤ j := fun j hj => by
            rcases hF2 j hj with h | h
            · exact HF.out j h
            · omega
          have HG2 := Lib.hid hG2
          have HF2 := Lib.hid hF2'
          have HB2 := Lib.hid hB2
          clear hG2 hF2 hC2 hB2 hF2' hsz
          go_wp2_with fail
          go_roundw
          case rel => exact ⟨k + 1, F2, by omega, by go_num, by rw [HZ.out]; exact HG2.out, HF2.out, HB2.out, by rw [HM.out, HMay.out, HIn.out]; rfl⟩
          case measure => simp [intOf]; omega
        | false =>
          rw [putV_no hin] at HP
          have HIn := Lib.hid hin
          clear hin
          unfold two at HP
          go_wp2_with fail
          go_fit HP.out
          rintro e w2 ⟨rfl, F2, hG2, hF2, hC2⟩
          have hsz := HB.out.size
          have HB2 := Lib.hid (HB.out.trans (hC2.below hsz fun j hj hF => by have := HF.out j hF; omega))
          clear hG2 hF2 hC2 hsz
          go_wp2_with fail
          go_ret2
          exact .inr ⟨by rw [HofB.out]; exact HNo.out HIn.out, rfl, HB2.out⟩
      · obtain rfl : k = m := by omega
        have HG := Lib.hid hG
        have HF := Lib.hid hF
        have HB := Lib.hid hB
        have HMay := Lib.hid hmay
        clear hG hF hB hmay
        go_wp2_with fail
        go_ret2
        refine .inl ⟨by rw [HofB.out]; exact HMay.out, b, F', rfl, HG.out, HF.out, HB.out⟩
  · have HN := Lib.hid (gnew_no n w (by omega))
    have HofB : Hid (ofB n z m = false) := by show _ = _; unfold ofB; rw [decide_eq_false hn]; rfl
    clear h hn
    go_enter Tryd.func46, Tryd.ntmps46
    go_wp2_with fail
    go_fit HN.out
    rintro e w1 ⟨rfl, rfl⟩
    go_wp2_with fail
    go_ret2
    exact .inr ⟨HofB.out, rfl, Below.refl _ _⟩
end Go.Proofs.YtafdijcolponjaaDoor

namespace Go.Proofs.YtafdijcolponjaaDoor
open Go.RowKit

def wz (_ j : Nat) : Int := if j = 1 then 1 else 0
theorem w1 : ofB 2 wz 1 = true := by decide
theorem w2 : ofZ 2 wz 1 = [(0, 1)] := by decide
theorem w3 : putV 2 [(0, 1)] 1 0 = (true, 0) := by decide
theorem w4 : putL 2 [(0, 1)] 1 0 = [(0, 1), (1, 0)] := by decide
theorem w5 : undoC [(0, 1), (1, 0)] 1 = 0 := by decide
theorem w6 : undoL [(0, 1), (1, 0)] 1 = [(0, 1)] := by decide
theorem w7 : hasR [(0, 1)] 0 1 = true := by decide
theorem w8 : hasR [(0, 1)] 1 0 = false := by decide
theorem w9 : edgesR 2 [(0, 1)] 2 = [(0, 1)] := by decide

theorem edgesIn_one (w : World) (x y : Int) (z : Nat → Nat → Int) (hx : z 0 0 = x) (hy : z 0 1 = y) (t : TypeId) : EdgesIn (w.alloc (.cells #[.int .i64 x, .int .i64 y] t)) (some ⟨w.heap.size, 0, none⟩) 1 z := by
  refine ⟨by omega, fun _ => ⟨_, rfl, by simp, fun i hi => ?_⟩⟩
  obtain rfl : i = 0 := by omega
  rw [hx, hy]
  exact ⟨cell_at 0 (heap_new _ _) rfl, cell_at 1 (heap_new _ _) rfl⟩

theorem gworks_any (w : World) (hT : TabIs w) : Calls Tryd.prog 41 #[] w (YesEnds w) := by
  have HO := Lib.hid (gr_of 2 (some ⟨w.heap.size, 0, none⟩) 1 1 wz _ (edgesIn_one w 0 1 wz rfl rfl 61))
  have HT := Lib.hid hT
  clear hT
  go_enter Tryd.func41, Tryd.ntmps41
  go_wp2_with fail
  go_fit HO.out
  rintro e wa (⟨-, b, F, rfl, hG, hF, hB⟩ | ⟨h, -⟩)
  case inr => rw [w1] at h; cases h
  rw [show (2 : Int).toNat = 2 from rfl, w2] at hG
  have hB1 : Below w.heap.size w wa := ((Below.refl _ w).alloc (Nat.le_refl _) (.cells #[.int .i64 0, .int .i64 1] 61)).trans (hB.mono (by simp))
  have HM := Lib.hid (gr_mark b 2 F _ wa hG)
  have hP := gr_put b 2 F _ 1 0 wa hG
  rw [w3, w4] at hP
  unfold GrEnds two at hP
  have HP := Lib.hid hP
  have HB1 := Lib.hid hB1
  have HF := Lib.hid (fun k hk => (by have := hF k hk; simp at this; omega : w.heap.size ≤ k) : ∀ k ∈ F, w.heap.size ≤ k)
  clear hP hG hB hB1 hF
  go_wp2_with fail
  go_fit HM.out
  rintro e w' ⟨rfl, rfl⟩
  go_wp2_with fail
  go_fit HP.out
  rintro e wb ⟨rfl, F2, hG2, hF2, hC2⟩
  have hz1 := HB1.out.size
  have hB2 := HB1.out.trans (hC2.below hz1 fun j hj hF => by have := HF.out j hF; omega)
  have hF2' : ∀ j ∈ F2, w.heap.size ≤ j := fun j hj => by
    rcases hF2 j hj with h | h
    · exact HF.out j h
    · omega
  have hU := gr_undo b 2 F2 _ 1 wb hG2
  rw [w5, w6] at hU
  unfold GrEnds at hU
  have HU := Lib.hid hU
  have HB2 := Lib.hid hB2
  have HF2 := Lib.hid hF2'
  clear hU hG2 hC2 hB2 hF2 hF2'
  go_wp2_with fail
  go_fit HU.out
  rintro e wc ⟨rfl, F3, hG3, hF3, hC3⟩
  have hz2 := HB2.out.size
  have hB3 := HB2.out.trans (hC3.below hz2 fun j hj hF => by have := HF2.out j hF; omega)
  have h7 := gr_has b 2 F3 _ 0 1 wc hG3
  have h8 := gr_has b 2 F3 _ 1 0 wc hG3
  have h9 := gr_edges b 2 F3 _ wc hG3 (tab_below HT.out hB3 (Nat.le_refl _))
  rw [w7] at h7
  rw [w8] at h8
  rw [w9] at h9
  have H7 := Lib.hid h7
  have H8 := Lib.hid h8
  have H9 := Lib.hid h9
  have HB3 := Lib.hid hB3
  clear h7 h8 h9 hG3 hF3 hC3 hB3
  go_wp2_with fail
  go_fit H7.out
  rintro e w' ⟨rfl, rfl⟩
  go_wp2_with fail
  go_fit H8.out
  rintro e w' ⟨rfl, rfl⟩
  go_wp2_with fail
  go_fit H9.out
  rintro e wd ⟨v, rfl, hown, hB4⟩
  obtain ⟨ad, c, rfl⟩ := owns_slice hown
  have HB4 := Lib.hid (HB3.out.trans (hB4.mono HB3.out.size))
  clear hown hB4
  go_wp2_with fail
  go_ret
  exact ⟨rfl, HB4.out⟩
end Go.Proofs.YtafdijcolponjaaDoor

namespace Go.Proofs.YtafdijcolponjaaDoor
open Go.RowKit

def sameE (l m : List (Nat × Nat)) : Bool := decide (l = m)
theorem sameE_self (l : List (Nat × Nat)) : sameE l l = true := decide_eq_true rfl
def ERel (w : World) (n : Nat) (l m : List (Nat × Nat)) (i : Value) (wr : World) : Prop :=
  ∃ k : Nat, k ≤ n ∧ i = .int .i64 k ∧ (∀ j, j < k → l.getD j (0, 0) = m.getD j (0, 0)) ∧ Same w wr
def SameEEnds (l m : List (Nat × Nat)) (w : World) (e : Ending) (w' : World) : Prop := e = .returned (.bool (sameE l m)) ∧ Same w w'
theorem sameE_no_len {l m : List (Nat × Nat)} (h : l.length ≠ m.length) : sameE l m = false := decide_eq_false fun e => h (by rw [e])
theorem sameE_no {l m : List (Nat × Nat)} {j : Nat} (h : l.getD j (0, 0) ≠ m.getD j (0, 0)) : sameE l m = false := decide_eq_false fun e => h (by rw [e])
theorem sameE_yes {l m : List (Nat × Nat)} (h : l.length = m.length) (hj : ∀ j, j < l.length → l.getD j (0, 0) = m.getD j (0, 0)) : sameE l m = true := by
  refine decide_eq_true (List.ext_getElem h fun j h1 h2 => ?_)
  have := hj j h1
  simpa [List.getD, h1, h2] using this
theorem edgeCells_at : ∀ (L : List (Nat × Nat)) (i : Nat), i < L.length → (edgeCells L)[i * 2]? = some (.int .i64 ((L.getD i (0, 0)).1 : Int)) ∧ (edgeCells L)[i * 2 + 1]? = some (.int .i64 ((L.getD i (0, 0)).2 : Int))
  | [], i, h => absurd h (Nat.not_lt_zero i)
  | e :: L, 0, _ => ⟨rfl, rfl⟩
  | e :: L, i + 1, h => by
    have ih := edgeCells_at L i (by simpa using h)
    have h2 : edgeCells (e :: L) = .int .i64 (e.1 : Int) :: .int .i64 (e.2 : Int) :: edgeCells L := by simp [edgeCells]
    rw [h2, show (i + 1) * 2 = i * 2 + 1 + 1 by omega]
    simpa using ih
theorem edges_at {w : World} {base n c : Nat} {a : Option Addr} {L : List (Nat × Nat)} (h : w.ownsRow base 61 2 (.slice a n c) n (edgeCells L)) {i : Nat} (hi : i < n) :
    ∃ g, a = some ⟨g, 0, none⟩ ∧ w.cell? ⟨g, i * 2, none⟩ = some (.int .i64 ((L.getD i (0, 0)).1 : Int)) ∧ w.cell? ⟨g, i * 2 + 1, none⟩ = some (.int .i64 ((L.getD i (0, 0)).2 : Int)) := by
  have hl : L.length = n := by have := h.1; rw [edgeCells_len] at this; omega
  rcases owns_shape h with ⟨_, h0⟩ | ⟨g, cap, hv, hc, hm⟩
  · omega
  · cases hv
    have := edgeCells_at L i (by omega)
    exact ⟨g, rfl, (h.cellAt (i * 2) (by omega)).trans this.1, (h.cellAt (i * 2 + 1) (by omega)).trans this.2⟩
theorem owns_max {w : World} {base e size n c : Nat} {a : Option Addr} {xs : List Value} (h : w.ownsRow base e size (.slice a n c) n xs) : n ≤ 9223372036854775807 := by
  rcases owns_shape h with ⟨_, h0⟩ | ⟨g, cap, hv, hc, hm⟩
  · omega
  · cases hv; unfold maxLen at hm; omega

set_option maxHeartbeats 400000 in
theorem sameE_any (a b : Option Addr) (la ca lb cb : Nat) (l m : List (Nat × Nat)) (w : World) (ha : w.ownsRow 0 61 2 (.slice a la ca) la (edgeCells l)) (hb : w.ownsRow 0 61 2 (.slice b lb cb) lb (edgeCells m)) :
    Calls Tryd.prog 50 #[.slice a la ca, .slice b lb cb] w (SameEEnds l m w) := by
  have hla : l.length = la := by have := ha.1; rw [edgeCells_len] at this; omega
  have hlb : m.length = lb := by have := hb.1; rw [edgeCells_len] at this; omega
  have hma := owns_max ha
  have hmb := owns_max hb
  have HA := Lib.hid ha
  have HB := Lib.hid hb
  have HLA := Lib.hid hla
  have HLB := Lib.hid hlb
  clear ha hb hla hlb
  by_cases hne : la = lb
  · subst hne
    go_enter Tryd.func50, Tryd.ntmps50
    go_wp2_with fail
    go_loopw [5] (fun i wr => ERel w la l m i wr) (fun i _ => la - (intOf i).toNat)
    case atStart => exact ⟨0, Nat.zero_le _, rfl, fun j hj => by omega, Same.refl _⟩
    case round =>
      obtain ⟨k, hk, rfl, hall, hS⟩ := hrel
      have HALL := Lib.hid hall
      clear hall
      by_cases hlt : k < la
      · obtain ⟨ga, rfl, h1, h2⟩ := edges_at HA.out hlt
        obtain ⟨gb, rfl, h3, h4⟩ := edges_at HB.out hlt
        have h1 := hS.cell h1
        have h2 := hS.cell h2
        have h3 := hS.cell h3
        have h4 := hS.cell h4
        have HS := Lib.hid hS
        clear hS
        have hk0 : (0 : Int) ≤ (k : Int) := Int.natCast_nonneg _
        have hk1 : (k : Int) < (la : Int) := by omega
        by_cases heq : l.getD k (0, 0) = m.getD k (0, 0)
        · have HE := Lib.hid heq
          rw [heq] at h1 h2
          clear heq
          generalize m.getD k (0, 0) = x at h1 h2 h3 h4
          obtain ⟨x, y⟩ := x
          go_wp2_with fail
          go_quiet (fail)
          go_wp2_with fail
          go_roundw
          case rel => exact ⟨k + 1, by omega, by go_num, fun j hj => by
                        rcases Nat.lt_or_ge j k with g | g
                        · exact HALL.out j g
                        · obtain rfl : j = k := by omega
                          exact HE.out, HS.out.drewN _⟩
          case measure => simp [intOf]; omega
        · have HE := Lib.hid heq
          clear heq
          generalize hx : l.getD k (0, 0) = x at h1 h2
          generalize hy : m.getD k (0, 0) = y at h3 h4
          have HD : Hid (x ≠ y) := by rw [← hx, ← hy]; exact HE
          clear hx hy
          obtain ⟨x1, x2⟩ := x
          obtain ⟨y1, y2⟩ := y
          have hfin : l.getD k (0, 0) ≠ m.getD k (0, 0) := HE.out
          have HF := Lib.hid hfin
          clear hfin
          by_cases h5 : x1 = y1
          · subst h5
            have hd : ((x2 : Int) == (y2 : Int)) = false := by
              have := HD.out
              simp only [ne_eq, Prod.mk.injEq, true_and] at this
              simp; omega
            go_wp2_with fail
            go_quiet (fail)
            go_wp2_with fail
            go_ret
            exact ⟨ret_bool (sameE_no HF.out).symm, HS.out.drewN _⟩
          · have hd : ((x1 : Int) == (y1 : Int)) = false := by simp; omega
            go_wp2_with fail
            go_quiet (fail)
            go_wp2_with fail
            go_ret
            exact ⟨ret_bool (sameE_no HF.out).symm, HS.out.drewN _⟩
      · obtain rfl : k = la := by omega
        have HS := Lib.hid hS
        clear hS
        go_wp2_with fail
        go_ret
        exact ⟨ret_bool (sameE_yes (HLA.out.trans HLB.out.symm) (by rw [HLA.out]; exact HALL.out)).symm, HS.out⟩
  · have hq : ((la : Int) != (lb : Int)) = true := by simp; omega
    have HN := Lib.hid hne
    clear hne
    go_enter Tryd.func50, Tryd.ntmps50
    go_wp2_with fail
    go_ret
    exact ⟨ret_bool (sameE_no_len (by rw [HLA.out, HLB.out]; exact HN.out)).symm, Same.refl _⟩
end Go.Proofs.YtafdijcolponjaaDoor

namespace Go.Proofs.YtafdijcolponjaaDoor
open Go.RowKit

theorem IsRowS.below {m : Nat} {w w' : World} {a : Option Addr} {len cap : Nat} {zs : Nat → Nat → Int} (h : IsRowS m w a len cap zs) {B : Nat} (hb : Below B w w') (hB : w.heap.size ≤ B) (_hm : 0 < m) : IsRowS m w' a len cap zs := by
  rcases h with h | ⟨x, rfl, h1, h2, hc⟩
  · exact .inl h
  · refine .inr ⟨x, rfl, h1, h2, fun i hi j hj => ?_⟩
    have h := hc i hi j hj
    refine ⟨?_, h.2⟩
    have hlt := World.block_lt_of_cell? w (x.add (i * m + j)) h.1
    exact (World.cell?_of_block (a := x.add (i * m + j)) (hb.block _ (by omega))).trans h.1

theorem putL_pre (n : Nat) (L E : List (Nat × Nat)) (a z : Int) : ∃ E', putL n (L ++ E) a z = L ++ E' := by
  unfold putL
  split
  · split
    · exact ⟨E, rfl⟩
    · exact ⟨E ++ [(a.toNat, z.toNat)], by rw [List.append_assoc]⟩
  · exact ⟨E, rfl⟩
theorem undo_back (L E : List (Nat × Nat)) : undoC (L ++ E) (L.length : Int) = 0 ∧ undoL (L ++ E) (L.length : Int) = L := by
  have h : (0 : Int) ≤ (L.length : Int) ∧ (L.length : Int) ≤ ((L ++ E).length : Int) := by rw [List.length_append]; omega
  unfold undoC undoL
  rw [if_pos h, if_pos h]
  exact ⟨rfl, by simp⟩

def URel (w : World) (b n : Nat) (L W : List (Nat × Nat)) (vw : Value) (len : Nat) (i : Value) (wr : World) : Prop :=
  ∃ (k : Nat) (F : List Nat) (E : List (Nat × Nat)), k ≤ len ∧ i = .int .i64 k ∧ GrAt wr b F n (L ++ E) ∧ (∀ q ∈ F, w.heap.size ≤ q) ∧ Below w.heap.size w wr ∧
    wr.ownsRow 0 61 2 vw W.length (edgeCells W) ∧ (∀ q ∈ F, vw.ownBlock ≠ some q)

set_option maxRecDepth 20000 in
set_option maxHeartbeats 1000000 in
theorem gundoes_walk (n : Int) (a1 : Option Addr) (len1 cap1 : Nat) (z1 : Nat → Nat → Int) (a2 : Option Addr) (len2 cap2 : Nat) (z2 : Nat → Nat → Int) (w : World)
    (_hn : (Lit.int .i64 n).wf = true) (h1 : IsRowS 2 w a1 len1 cap1 z1) (h2 : IsRowS 2 w a2 len2 cap2 z2) (hT : TabIs w) :
    Calls Tryd.prog 8 #[.int .i64 n, .slice a1 len1 cap1, .slice a2 len2 cap2] w (YesEnds w) := by
  have HW := Lib.hid (gworks_any w hT)
  have HT := Lib.hid hT
  have HI1 := Lib.hid h1
  have HI2 := Lib.hid h2
  have hl2 := h2.len_le
  clear hT h1 h2 _hn
  go_enter Tryd.func8, Tryd.ntmps8
  go_wp2_with fail
  go_fit HW.out
  rintro e wa ⟨rfl, hB1⟩
  have HSm := Lib.hid (small_any n wa)
  have HFe := Lib.hid (efew_any a1 len1 cap1 z1 wa (HI1.out.below hB1 (Nat.le_refl _) (by decide)))
  have HB1 := Lib.hid hB1
  generalize smallN n = nn at *
  generalize fewN len1 = m at *
  clear hB1
  go_wp2_with fail
  go_fit HSm.out
  rintro e w' ⟨rfl, rfl⟩
  go_wp2_with fail
  go_fit HFe.out
  rintro e wb ⟨g, c, rfl, hown, hB2⟩
  have HO := Lib.hid (gr_of nn (some ⟨g, 0, none⟩) m c z1 wb (EdgesIn.of_owns hown))
  have HB2 := Lib.hid (HB1.out.trans (hB2.mono HB1.out.size))
  clear hown hB2
  go_wp2_with fail
  go_fit HO.out
  rintro e wc (⟨hyes, b, F, rfl, hG, hF, hB3⟩ | ⟨hno, rfl, hB3⟩)
  · generalize nn.toNat = q at hG
    generalize ofZ q z1 m = L at hG
    have hB3 := HB2.out.trans (hB3.mono HB2.out.size)
    have hz2 := HB2.out.size
    have HEd := Lib.hid (gr_edges b q F L wc hG (tab_below HT.out hB3 (Nat.le_refl _)))
    have HG := Lib.hid hG
    have HF := Lib.hid (fun k hk => Nat.le_trans hz2 (hF k hk) : ∀ k ∈ F, w.heap.size ≤ k)
    have HB3 := Lib.hid hB3
    clear hG hF hB3 hyes
    go_wp2_with fail
    go_fit HEd.out
    rintro e wd ⟨vw, rfl, hown, hB4⟩
    have hG4 := HG.out.below hB4 (Nat.le_refl _)
    have HMk := Lib.hid (gr_mark b q F L wd hG4)
    have hdis : ∀ k ∈ F, vw.ownBlock ≠ some k := fun k hk h => by
      have h1 := HG.out.lt k hk
      have h2 := (World.ownsRow.lt hown k h).1
      omega
    have HG4 := Lib.hid hG4
    have HOw := Lib.hid (owns_zero hown)
    have HDi := Lib.hid hdis
    have HB4 := Lib.hid (HB3.out.trans (hB4.mono HB3.out.size))
    have hwq : ∃ W, edgesR q L q = W := ⟨_, rfl⟩
    obtain ⟨W, hW⟩ := hwq
    rw [hW] at HOw
    have HWq := Lib.hid hW
    clear hW
    clear hG4 hown hdis hB4
    go_wp2_with fail
    go_fit HMk.out
    rintro e w' ⟨rfl, rfl⟩
    go_wp2_with fail
    go_loopw [11] (fun i wr => URel w b q L W vw len2 i wr) (fun i _ => len2 - (intOf i).toNat)
    case atStart => exact ⟨0, F, [], Nat.zero_le _, rfl, by rw [List.append_nil]; exact HG4.out, HF.out, HB4.out, HOw.out, HDi.out⟩
    case round =>
      clear HG HG4 HF HB4 HOw HDi HMk HEd HB3
      obtain ⟨k, F', E, hk, rfl, hG, hF, hB, hown, hdis⟩ := hrel
      have HG := Lib.hid hG
      have HF := Lib.hid hF
      have HB := Lib.hid hB
      have HOw := Lib.hid hown
      have HDi := Lib.hid hdis
      by_cases hlt : k < len2
      · by_cases h40 : k < 40
        · obtain ⟨xb, xo, rfl, hxb, hcell⟩ := (HI2.out.below hB (Nat.le_refl _) (by decide)).at (by decide) hlt
          have c1 := (hcell k hlt 0 (by decide)).1
          have c2 := (hcell k hlt 1 (by decide)).1
          rw [Nat.add_zero] at c1
          rw [← Nat.add_assoc] at c2
          generalize z2 k 0 = x at *
          generalize z2 k 1 = y at *
          have HC1 := Lib.hid c1
          have HC2 := Lib.hid c2
          have hk0 : (0 : Int) ≤ (k : Int) := by omega
          have hk1 : (k : Int) < (len2 : Int) := by omega
          have hk4 : (k : Int) < 40 := by omega
          clear hG hF hB hown hdis hcell hxb c1 c2
          go_wp2_with fail
          refine region_tail 11 (by kernel_rfl) (by kernel_rfl) fun w3 hS => ?_
          have d1 := hS.cell HC1.out
          have d2 := hS.cell HC2.out
          have hG3 := HG.out.frame (w' := w3) (fun j _ => hS.at j)
          have hP := gr_put b q F' _ x y w3 hG3
          obtain ⟨E', hE⟩ := putL_pre q L E x y
          rw [hE] at hP
          have HP := Lib.hid hP
          have HS := Lib.hid hS
          generalize putV q (L ++ E) x y = pv at *
          unfold GrEnds two at HP
          clear hG3 hP hE hS
          simp only [List.take_succ_cons, List.take_zero, List.drop_succ_cons, List.drop_zero]
          repeat still_step
          refine wpStill_nil ?_
          go_wp2_with fail
          go_fit HP.out
          rintro e w4 ⟨rfl, F4, hG4, hF4, hC4⟩
          have hz := HB.out.size
          have hz3 : w3.heap.size = wr.heap.size := by rw [HS.out.heap]
          have hB4 := HB.out.trans (HS.out.below.trans (hC4.below (by omega) fun j hj hjF => by have := HF.out j hjF; omega))
          have hF4' : ∀ j ∈ F4, w.heap.size ≤ j := fun j hj => by
            rcases hF4 j hj with h | h
            · exact HF.out j h
            · omega
          have ho4 : w4.ownsRow 0 61 2 vw W.length (edgeCells W) := owns_chg (HS.out.owns HOw.out) hC4 fun j hj hjF => HDi.out j hjF (mem_ownL.1 hj)
          have hd4 : ∀ j ∈ F4, vw.ownBlock ≠ some j := fun j hj h => by
            rcases hF4 j hj with h' | h'
            · exact HDi.out j h' h
            · have := owns_lt HOw.out j h
              omega
          have HG5 := Lib.hid hG4
          have HF5 := Lib.hid hF4'
          have HB5 := Lib.hid hB4
          have HO5 := Lib.hid ho4
          have HD5 := Lib.hid hd4
          clear hG4 hF4 hC4 hB4 hF4' ho4 hd4 hz hz3 d1 d2
          go_wp2_with fail
          go_roundw
          case rel => exact ⟨k + 1, F4, E', by omega, by go_num, HG5.out, HF5.out, HB5.out, HO5.out, HD5.out⟩
          case measure => simp [intOf]; omega
        · have h41 : ¬ ((k : Int) < 40) := by omega
          have hk1 : (k : Int) < (len2 : Int) := by omega
          have hU := gr_undo b q F' _ (L.length : Int) wr hG
          rw [(undo_back L E).1, (undo_back L E).2] at hU
          unfold GrEnds at hU
          have HU := Lib.hid hU
          clear hG hF hB hown hdis hU
          go_wp2_with fail
          go_fit HU.out
          rintro e w4 ⟨rfl, F4, hG4, hF4, hC4⟩
          have hz := HB.out.size
          have hB4 := HB.out.trans (hC4.below hz fun j hj hjF => by have := HF.out j hjF; omega)
          have ho4 : w4.ownsRow 0 61 2 vw W.length (edgeCells W) := owns_chg HOw.out hC4 fun j hj hjF => HDi.out j hjF (mem_ownL.1 hj)
          have hE4 := gr_edges b q F4 L w4 hG4 (tab_below HT.out hB4 (Nat.le_refl _))
          rw [HWq.out] at hE4
          have HE4 := Lib.hid hE4
          have HG5 := Lib.hid hG4
          have HB5 := Lib.hid hB4
          have HO5 := Lib.hid ho4
          clear hG4 hF4 hC4 hB4 ho4 hE4 hz
          go_wp2_with fail
          go_fit HE4.out
          rintro e w5 ⟨vx, rfl, hox, hB6⟩
          have hz5 := HB5.out.size
          have hG6 := HG5.out.below hB6 (Nat.le_refl _)
          have how : w5.ownsRow 0 61 2 vw W.length (edgeCells W) := owns_of_heap HO5.out fun j hj => hB6.block j (owns_lt HO5.out j hj)
          obtain ⟨ax, cx, rfl⟩ := owns_slice hox
          obtain ⟨aw, cw, rfl⟩ := owns_slice how
          have hSE := sameE_any ax aw W.length cx W.length cw W W w5 (owns_zero hox) how
          unfold SameEEnds at hSE
          rw [sameE_self] at hSE
          have HSE := Lib.hid hSE
          have HB6 := Lib.hid (HB5.out.trans (hB6.mono hz5))
          have HG6 := Lib.hid hG6
          clear hG6 how hox hSE hB6 hz5
          go_wp2_with fail
          go_fit HSE.out
          rintro e w6 ⟨rfl, hS6⟩
          have HMk := Lib.hid (gr_mark b q F4 L w6 (HG6.out.frame fun j _ => hS6.at j))
          have HB7 := Lib.hid (HB6.out.trans hS6.below)
          clear hS6
          go_wp2_with fail
          go_fit HMk.out
          rintro e w' ⟨rfl, rfl⟩
          go_wp2_with fail
          go_ret
          exact ⟨rfl, HB7.out⟩
      · obtain rfl : k = len2 := by omega
        have hU := gr_undo b q F' _ (L.length : Int) wr hG
        rw [(undo_back L E).1, (undo_back L E).2] at hU
        unfold GrEnds at hU
        have HU := Lib.hid hU
        clear hG hF hB hown hdis hU
        go_wp2_with fail
        go_fit HU.out
        rintro e w4 ⟨rfl, F4, hG4, hF4, hC4⟩
        have hz := HB.out.size
        have hB4 := HB.out.trans (hC4.below hz fun j hj hjF => by have := HF.out j hjF; omega)
        have ho4 : w4.ownsRow 0 61 2 vw W.length (edgeCells W) := owns_chg HOw.out hC4 fun j hj hjF => HDi.out j hjF (mem_ownL.1 hj)
        have hE4 := gr_edges b q F4 L w4 hG4 (tab_below HT.out hB4 (Nat.le_refl _))
        rw [HWq.out] at hE4
        have HE4 := Lib.hid hE4
        have HG5 := Lib.hid hG4
        have HB5 := Lib.hid hB4
        have HO5 := Lib.hid ho4
        clear hG4 hF4 hC4 hB4 ho4 hE4 hz
        go_wp2_with fail
        go_fit HE4.out
        rintro e w5 ⟨vx, rfl, hox, hB6⟩
        have hz5 := HB5.out.size
        have hG6 := HG5.out.below hB6 (Nat.le_refl _)
        have how : w5.ownsRow 0 61 2 vw W.length (edgeCells W) := owns_of_heap HO5.out fun j hj => hB6.block j (owns_lt HO5.out j hj)
        obtain ⟨ax, cx, rfl⟩ := owns_slice hox
        obtain ⟨aw, cw, rfl⟩ := owns_slice how
        have hSE := sameE_any ax aw W.length cx W.length cw W W w5 (owns_zero hox) how
        unfold SameEEnds at hSE
        rw [sameE_self] at hSE
        have HSE := Lib.hid hSE
        have HB6 := Lib.hid (HB5.out.trans (hB6.mono hz5))
        have HG6 := Lib.hid hG6
        clear hG6 how hox hSE hB6 hz5
        go_wp2_with fail
        go_fit HSE.out
        rintro e w6 ⟨rfl, hS6⟩
        have HMk := Lib.hid (gr_mark b q F4 L w6 (HG6.out.frame fun j _ => hS6.at j))
        have HB7 := Lib.hid (HB6.out.trans hS6.below)
        clear hS6
        go_wp2_with fail
        go_fit HMk.out
        rintro e w' ⟨rfl, rfl⟩
        go_wp2_with fail
        go_ret
        exact ⟨rfl, HB7.out⟩
  · have HB3 := Lib.hid (HB2.out.trans (hB3.mono HB2.out.size))
    clear hB3 hno
    go_wp2_with fail
    go_ret
    exact ⟨rfl, HB3.out⟩
end Go.Proofs.YtafdijcolponjaaDoor

namespace Go.Proofs.YtafdijcolponjaaDoor
open Go.RowKit

/-- A row of edges that is appended to: its own, or full. -/
def RowE (w : World) (v : Value) (L : List (Nat × Nat)) : Prop :=
  w.ownsRow 0 61 2 v L.length (edgeCells L) ∨
  ∃ g cs, v = .slice (some ⟨g, 0, none⟩) L.length L.length ∧ w.heap[g]? = some (.cells cs 61 (0, 0)) ∧ L.length ≤ maxLen ∧ cs.toList.take (L.length * 2) = edgeCells L

theorem RowE.lt {w : World} {v : Value} {L : List (Nat × Nat)} (h : RowE w v L) : ∀ k, v.ownBlock = some k → k < w.heap.size := by
  rcases h with h | ⟨g, cs, rfl, hg, -⟩
  · exact owns_lt h
  · intro k hk; cases hk; exact lt_of_block hg
theorem RowE.frame {w w' : World} {v : Value} {L : List (Nat × Nat)} (h : RowE w v L) (hb : ∀ k, v.ownBlock = some k → w'.heap[k]? = w.heap[k]?) : RowE w' v L := by
  rcases h with h | ⟨g, cs, rfl, hg, h⟩
  · exact .inl (owns_of_heap h hb)
  · exact .inr ⟨g, cs, rfl, (hb g rfl).trans hg, h⟩
theorem RowE.form {w : World} {v : Value} {L : List (Nat × Nat)} (h : RowE w v L) : ∃ ad c, v = .slice ad L.length c ∧ L.length ≤ c ∧ c ≤ 9223372036854775807 ∧ (ad = none → L.length = 0 ∧ c = 0) ∧
    ∀ i, i < L.length → ∃ g, ad = some ⟨g, 0, none⟩ ∧ w.cell? ⟨g, i * 2, none⟩ = some (.int .i64 ((L.getD i (0, 0)).1 : Int)) ∧ w.cell? ⟨g, i * 2 + 1, none⟩ = some (.int .i64 ((L.getD i (0, 0)).2 : Int)) := by
  rcases h with h | ⟨g, cs, rfl, hg, hm, ht⟩
  · rcases owns_shape h with ⟨rfl, h0⟩ | ⟨g, cap, rfl, hc, hm⟩
    · exact ⟨none, 0, by rw [h0], by omega, by omega, fun _ => ⟨h0, rfl⟩, fun i hi => by omega⟩
    · unfold maxLen at hm
      refine ⟨_, cap, rfl, hc, by omega, (fun e => by cases e), fun i hi => ?_⟩
      exact edges_at h hi
  · unfold maxLen at hm
    refine ⟨_, _, rfl, Nat.le_refl _, by omega, (fun e => by cases e), fun i hi => ⟨g, rfl, ?_⟩⟩
    have h1 := edgeCells_at L i hi
    rw [← ht, List.getElem?_take, List.getElem?_take, if_pos (by omega), if_pos (by omega)] at h1
    exact ⟨cell_at (i * 2) hg (by simpa using h1.1), cell_at (i * 2 + 1) hg (by simpa using h1.2)⟩

/-- The document's graph at block r; F: its blocks. -/
def RefG (w : World) (r : Nat) (F : List Nat) (n : Nat) (L : List (Nat × Nat)) : Prop :=
  ∃ v, w.heap[r]? = some (.cells #[.int .i64 n, v] 71 (0, 0)) ∧ RowE w v L ∧ F = r :: ownL v ∧ F.Nodup
theorem RefG.lt {w : World} {r n : Nat} {F : List Nat} {L : List (Nat × Nat)} (h : RefG w r F n L) : ∀ k ∈ F, k < w.heap.size := by
  obtain ⟨v, h1, h2, rfl, -⟩ := h
  intro k hk
  rcases List.mem_cons.1 hk with rfl | hk
  · exact lt_of_block h1
  · exact h2.lt k (mem_ownL.1 hk)
theorem RefG.frame {w w' : World} {r n : Nat} {F : List Nat} {L : List (Nat × Nat)} (h : RefG w r F n L) (hb : ∀ k ∈ F, w'.heap[k]? = w.heap[k]?) : RefG w' r F n L := by
  obtain ⟨v, h1, h2, rfl, h3⟩ := h
  exact ⟨v, (hb r (by simp)).trans h1, h2.frame fun k hk => hb k (by simp [mem_ownL.2 hk]), rfl, h3⟩
theorem RefG.mem {w : World} {r n : Nat} {F : List Nat} {L : List (Nat × Nat)} (h : RefG w r F n L) : r ∈ F := by
  obtain ⟨v, h1, h2, rfl, -⟩ := h; simp

theorem hasR_at {L : List (Nat × Nat)} {k : Nat} (hk : k < L.length) {a z : Int} (h1 : ((L.getD k (0, 0)).1 : Int) = a) (h2 : ((L.getD k (0, 0)).2 : Int) = z) : hasR L a z = true := by
  have e : L.getD k (0, 0) = L[k] := by rw [List.getD_eq_getElem?_getD, List.getElem?_eq_getElem hk]; rfl
  rw [e] at h1 h2
  exact hasR_iff.2 ⟨L[k], List.getElem_mem hk, h1, h2⟩
theorem hasR_none {L : List (Nat × Nat)} {a z : Int} (h : ∀ j, j < L.length → ¬ (((L.getD j (0, 0)).1 : Int) = a ∧ ((L.getD j (0, 0)).2 : Int) = z)) : hasR L a z = false := by
  rw [Bool.eq_false_iff]
  intro ht
  obtain ⟨e, he, h1, h2⟩ := hasR_iff.1 ht
  obtain ⟨k, hk, rfl⟩ := List.getElem_of_mem he
  have e : L.getD k (0, 0) = L[k] := by rw [List.getD_eq_getElem?_getD, List.getElem?_eq_getElem hk]; rfl
  exact h k hk (by rw [e]; exact ⟨h1, h2⟩)

def RHasRel (w : World) (L : List (Nat × Nat)) (a z : Int) (i : Value) (wr : World) : Prop :=
  ∃ k : Nat, k ≤ L.length ∧ i = .int .i64 k ∧ (∀ j, j < k → ¬ (((L.getD j (0, 0)).1 : Int) = a ∧ ((L.getD j (0, 0)).2 : Int) = z)) ∧ w = wr

theorem rghas_any (r n : Nat) (F : List Nat) (L : List (Nat × Nat)) (a z : Int) (w : World) (h : RefG w r F n L) :
    Calls Tryd.prog 56 #[.pointer (some ⟨r, 0, none⟩), .int .i64 a, .int .i64 z] w fun e w' => e = .returned (.bool (hasR L a z)) ∧ w = w' := by
  obtain ⟨v, h1, h2, -, -⟩ := h
  obtain ⟨ad, c, rfl, hc, hm, -, hat⟩ := h2.form
  have c1 : w.cell? ⟨r, 1, none⟩ = some (.slice ad L.length c) := cell_at 1 h1 rfl
  have HA := Lib.hid hat
  clear h1 h2 hat
  go_enter Tryd.func56, Tryd.ntmps56
  go_wp2_with fail
  go_loopw [7] (fun i wr => RHasRel w L a z i wr) (fun i _ => L.length - (intOf i).toNat)
  case atStart => exact ⟨0, Nat.zero_le _, rfl, fun j hj => absurd hj (Nat.not_lt_zero j), rfl⟩
  case round =>
    obtain ⟨k, hk, rfl, hno, rfl⟩ := hrel
    have HNo := Lib.hid hno
    clear hno
    by_cases hlt : k < L.length
    · obtain ⟨g, rfl, d1, d2⟩ := HA.out k hlt
      have HAt := Lib.hid (fun h1 h2 => hasR_at hlt (a := a) (z := z) h1 h2)
      have HNx : Hid (∀ j, j < k + 1 → j ≠ k → ¬ (((L.getD j (0, 0)).1 : Int) = a ∧ ((L.getD j (0, 0)).2 : Int) = z)) := fun j hj hne => HNo.out j (by omega)
      generalize hx : L.getD k (0, 0) = x at *
      have HX := Lib.hid hx
      clear hx
      obtain ⟨x, y⟩ := x
      have hk0 : (0 : Int) ≤ (k : Int) := by omega
      have hk1 : (k : Int) < (L.length : Int) := by omega
      by_cases e1 : (x : Int) = a
      · by_cases e2 : (y : Int) = z
        · have HR := Lib.hid (HAt.out e1 e2)
          have e1' : ((x : Int) == a) = true := by simpa using e1
          have e2' : ((y : Int) == z) = true := by simpa using e2
          clear e1 e2
          go_wp2_with fail
          go_ret
          exact ⟨ret_bool HR.out.symm, rfl⟩
        · have HE := Lib.hid e2
          have e1' : ((x : Int) == a) = true := by simpa using e1
          have e2' : ((y : Int) == z) = false := by simpa using e2
          clear e1 e2
          go_wp2_with fail
          go_roundw
          case rel =>
            refine ⟨k + 1, by omega, by go_num, fun j hj => ?_, rfl⟩
            by_cases hjk : j = k
            · subst hjk; rw [HX.out]; exact fun h => HE.out h.2
            · exact HNx.out j hj hjk
          case measure => simp [intOf]; omega
      · have HE := Lib.hid e1
        have e1' : ((x : Int) == a) = false := by simpa using e1
        clear e1
        go_wp2_with fail
        go_roundw
        case rel =>
          refine ⟨k + 1, by omega, by go_num, fun j hj => ?_, rfl⟩
          by_cases hjk : j = k
          · subst hjk; rw [HX.out]; exact fun h => HE.out h.1
          · exact HNx.out j hj hjk
        case measure => simp [intOf]; omega
    · obtain rfl : k = L.length := by omega
      go_wp2_with fail
      go_ret
      exact ⟨ret_bool (hasR_none HNo.out).symm, rfl⟩
end Go.Proofs.YtafdijcolponjaaDoor

namespace Go.Proofs.YtafdijcolponjaaDoor
open Go.RowKit

/-- What a call leaves of the document's graph. -/
def RGEnds (r : Nat) (F : List Nat) (v : Value) (n : Nat) (L : List (Nat × Nat)) (w : World) (e : Ending) (w' : World) : Prop :=
  e = .returned v ∧ ∃ F', RefG w' r F' n L ∧ (∀ k ∈ F', k ∈ F ∨ w.heap.size ≤ k) ∧ Chg (· ∈ F) w w'
theorem rg_idle {r : Nat} {F : List Nat} {v : Value} {n : Nat} {L : List (Nat × Nat)} {w : World} (h : RefG w r F n L) : RGEnds r F v n L w (.returned v) w :=
  ⟨rfl, F, h, fun _ hk => .inl hk, Chg.refl _ _⟩

theorem rgput_no (r n : Nat) (F : List Nat) (L : List (Nat × Nat)) (a z : Int) (w : World) (h : RefG w r F n L) (hin : ¬ (inG n a = true ∧ inG n z = true)) :
    Calls Tryd.prog 53 #[.pointer (some ⟨r, 0, none⟩), .int .i64 a, .int .i64 z] w (RGEnds r F (two false 2) n L w) := by
  have HR := Lib.hid h
  obtain ⟨v, h1, -, -, -⟩ := h
  have c0 : w.cell? ⟨r, 0, none⟩ = some (.int .i64 n) := cell_at 0 h1 rfl
  have hin' : ¬ ((0 ≤ a ∧ a < (n : Int)) ∧ (0 ≤ z ∧ z < (n : Int))) := fun h => hin ⟨decide_eq_true h.1, decide_eq_true h.2⟩
  clear h1 hin
  by_cases q1 : a < 0
  · clear hin'
    go_enter Tryd.func53, Tryd.ntmps53
    go_wp2_with fail
    go_ret2
    exact rg_idle HR.out
  · by_cases q2 : z < 0
    · clear hin'
      go_enter Tryd.func53, Tryd.ntmps53
      go_wp2_with fail
      go_ret2
      exact rg_idle HR.out
    · by_cases q3 : (n : Int) ≤ a
      · clear hin'
        go_enter Tryd.func53, Tryd.ntmps53
        go_wp2_with fail
        go_ret2
        exact rg_idle HR.out
      · have q4 : (n : Int) ≤ z := by omega
        clear hin'
        go_enter Tryd.func53, Tryd.ntmps53
        go_wp2_with fail
        go_ret2
        exact rg_idle HR.out

theorem rgput_has (r n : Nat) (F : List Nat) (L : List (Nat × Nat)) (a z : Int) (w : World) (h : RefG w r F n L) (ha : 0 ≤ a ∧ a < (n : Int)) (hz : 0 ≤ z ∧ z < (n : Int)) (hh : hasR L a z = true) :
    Calls Tryd.prog 53 #[.pointer (some ⟨r, 0, none⟩), .int .i64 a, .int .i64 z] w (RGEnds r F (two false 0) n L w) := by
  have HR := Lib.hid h
  have hH := rghas_any r n F L a z w h
  rw [hh] at hH
  have HH := Lib.hid hH
  obtain ⟨v, h1, -, -, -⟩ := h
  have c0 : w.cell? ⟨r, 0, none⟩ = some (.int .i64 n) := cell_at 0 h1 rfl
  have q1 : ¬ (a < 0) := by omega
  have q2 : ¬ (z < 0) := by omega
  have q3 : ¬ ((n : Int) ≤ a) := by omega
  have q4 : ¬ ((n : Int) ≤ z) := by omega
  clear h1 hH hh ha hz
  go_enter Tryd.func53, Tryd.ntmps53
  go_wp2_with fail
  go_fit HH.out
  rintro e w' ⟨rfl, rfl⟩
  go_wp2_with fail
  go_ret2
  exact rg_idle HR.out

/-- The graph behind an append's store. -/
theorem rgput_done {w w1 w2 : World} {r n g c i j : Nat} {F : List Nat} {L : List (Nat × Nat)} {v : Value} (h1 : w.heap[r]? = some (.cells #[.int .i64 n, v] 71 (0, 0))) (hF : F = r :: ownL v) (hN : F.Nodup)
    (o : Obj) (hw1 : w1 = w.alloc o) (hgrow : w1.grownBy w2 v.ownBlock) (hat : v.ownBlock = some g ∨ w.heap.size < g)
    (hown : w2.ownsRow 0 61 2 (.slice (some ⟨g, 0, none⟩) (L.length + 1) c) (L.length + 1) (edgeCells L ++ [.int .i64 (i : Int), .int .i64 (j : Int)])) :
    ∃ F', RefG (w2.setCell ⟨r, 1, none⟩ (.slice (some ⟨g, 0, none⟩) (L.length + 1) c)) r F' n (L ++ [(i, j)]) ∧ (∀ k ∈ F', k ∈ F ∨ w.heap.size ≤ k) ∧ Chg (· ∈ F) w (w2.setCell ⟨r, 1, none⟩ (.slice (some ⟨g, 0, none⟩) (L.length + 1) c)) := by
  have hrw := lt_of_block h1
  rw [hF] at hN
  simp only [List.nodup_cons] at hN
  have hrv : v.ownBlock ≠ some r := fun h => hN.1 (mem_ownL.2 h)
  have hgr : g ≠ r := by
    rintro rfl
    rcases hat with h | h
    · exact hrv h
    · omega
  have hb2 : w2.heap[r]? = w.heap[r]? := (hgrow.block r (by rw [hw1]; simp; omega) (fun e => hrv e.symm)).trans (by rw [hw1]; exact heap_alloc_lt hrw)
  have e1 : (L ++ [(i, j)]).length = L.length + 1 := by simp
  refine ⟨r :: [g], ⟨.slice (some ⟨g, 0, none⟩) (L.length + 1) c, ?_, ?_, rfl, by simp [Ne.symm hgr]⟩, ?_, ?_⟩
  · have := heap_set 1 (.slice (some ⟨g, 0, none⟩) (L.length + 1) c) (hb2.trans h1)
    rw [this]; rfl
  · left
    rw [e1, edgeCells_append]
    exact owns_of_heap hown fun k hk => by cases hk; exact heap_set_ne 1 _ hgr
  · intro k hk
    rw [hF]
    simp only [List.mem_cons, List.not_mem_nil, or_false] at hk ⊢
    rcases hk with hk | hk
    · exact .inl (.inl hk)
    · subst hk
      rcases hat with h | h
      · exact .inl (.inr (mem_ownL.2 h))
      · right; omega
  · have hc : Chg (· ∈ F) w w1 := by rw [hw1]; exact (Chg.refl _ _).alloc _
    exact (hc.trans (chg_grown hgrow fun k hk => by rw [hF]; exact List.mem_cons_of_mem _ (mem_ownL.2 hk))).setCell (.inl (by rw [hF]; simp)) _

set_option maxHeartbeats 1000000 in
theorem rgput_new (r n : Nat) (F : List Nat) (L : List (Nat × Nat)) (i j : Nat) (w : World) (h : RefG w r F n L) (ha : i < n) (hz : j < n) (hh : hasR L i j = false) (hlen : L.length ≤ 1099511627776) :
    Calls Tryd.prog 53 #[.pointer (some ⟨r, 0, none⟩), .int .i64 i, .int .i64 j] w (RGEnds r F (two true 0) n (L ++ [(i, j)]) w) := by
  have hH := rghas_any r n F L i j w h
  rw [hh] at hH
  have HH := Lib.hid hH
  obtain ⟨v, h1, h2, hF, hN⟩ := h
  have c0 : w.cell? ⟨r, 0, none⟩ = some (.int .i64 n) := cell_at 0 h1 rfl
  have c1 : w.cell? ⟨r, 1, none⟩ = some v := cell_at 1 h1 rfl
  have fb := free_at 1 h1
  have q1 : ¬ ((i : Int) < 0) := by omega
  have q2 : ¬ ((j : Int) < 0) := by omega
  have q3 : ¬ ((n : Int) ≤ (i : Int)) := by omega
  have q4 : ¬ ((n : Int) ≤ (j : Int)) := by omega
  have H1 := Lib.hid h1
  have H2 := Lib.hid h2
  have HF := Lib.hid hF
  have HN := Lib.hid hN
  have hrw := lt_of_block h1
  have hrv : v.ownBlock ≠ some r := fun h => by rw [hF] at hN; exact (List.nodup_cons.1 hN).1 (mem_ownL.2 h)
  obtain ⟨i0, hie, hz0, hz2, hz3⟩ := info_parts infoEdge
  have HM : Hid (L.length + 1 ≤ maxLen ∧ (L.length + 1) * 16 ≤ 140737488355328) := by
    show _ ∧ _
    unfold maxLen; omega
  clear h1 hH hh ha hz hF hN
  rcases h2 with ho | ⟨g0, cs, rfl, hg, hm, ht⟩
  · have HO := Lib.hid ho
    clear ho
    go_enter Tryd.func53, Tryd.ntmps53
    go_wp2_with fail
    go_fit HH.out
    rintro e w' ⟨rfl, rfl⟩
    go_wp2_with (first | (at_builtin; go_loud (refine wpList_append_lies _ rfl _ _ 53 rfl 0 61 i0 (.agg #[.int .i64 0, .int .i64 0]) 2 16 Tryd.underlying53 hie hz0 hz2 hz3 rfl (by decide) v L.length (edgeCells L) rfl (HO.out.alloc _) ⟨w.heap.size, 0, none⟩ 1 1 [.int .i64 i, .int .i64 j] rfl rfl (edge_new w _ _ _) (edge_cell _ _) (by decide) HM.out.1 HM.out.2 (Nat.zero_le _) (w.heap.size + 1) (by simp) ?_)) | fail)
    intro g c w3 hown3 hgrow hat hg3
    have cb3 : w3.cell? ⟨r, 1, none⟩ = some v := (World.cell?_of_block (a := ⟨r, 1, none⟩) ((hgrow.block r (by simp; omega) (fun e => hrv e.symm)).trans (heap_alloc_lt hrw))).trans c1
    have fb3 : w3.frozen? ⟨r, 1, none⟩ = false := (World.frozen?_of_block (a := ⟨r, 1, none⟩) ((hgrow.block r (by simp; omega) (fun e => hrv e.symm)).trans (heap_alloc_lt hrw))).trans fb
    have HD := Lib.hid (rgput_done H1.out HF.out HN.out _ rfl hgrow (hat.imp id (fun h => by omega)) hown3)
    clear hown3 hgrow hat hg3
    go_wp2_with fail
    go_ret2
    exact ⟨rfl, HD.out⟩
  · have HC : Hid (∀ b, (some (⟨g0, 0, none⟩ : Addr)) = some b → ∀ k u, (edgeCells L)[k]? = some u → (w.alloc (.cells #[.int .i64 i, .int .i64 j] 61)).cell? (b.add k) = some u) := by
      intro b hb k u hk
      cases hb
      have hadd : (⟨g0, 0, none⟩ : Addr).add k = ⟨g0, k, none⟩ := by unfold Addr.add; split <;> simp_all
      rw [hadd]
      refine cell_alloc (cell_at k hg ?_)
      have hkl := (List.getElem?_eq_some_iff.1 hk).1
      rw [edgeCells_len] at hkl
      rw [← ht, List.getElem?_take, if_pos hkl] at hk
      simpa using hk
    clear hg hm ht
    go_enter Tryd.func53, Tryd.ntmps53
    go_wp2_with fail
    go_fit HH.out
    rintro e w' ⟨rfl, rfl⟩
    go_wp2_with (first | (at_builtin; go_loud (refine wpList_append_grows _ rfl _ _ 53 rfl 61 i0 (.agg #[.int .i64 0, .int .i64 0]) 2 16 Tryd.underlying53 hie hz0 hz2 hz3 rfl (by decide) (some ⟨g0, 0, none⟩) L.length L.length (edgeCells L) rfl (fun e => by cases e) (edgeCells_len L) HC.out ⟨w.heap.size, 0, none⟩ 1 1 [.int .i64 i, .int .i64 j] rfl rfl (edge_new w _ _ _) (edge_cell _ _) (by omega) HM.out.1 HM.out.2 ?_)) | fail)
    intro v3 w3 hown3 hgrow
    obtain ⟨g, c, rfl, hgb, hgw3⟩ := hown3.form (by omega)
    have hgb' : w.heap.size < g := by
      have e : (w.alloc (.cells #[.int .i64 i, .int .i64 j] 61)).heap.size = w.heap.size + 1 := by simp
      omega
    have hgrow' : (w.alloc (.cells #[.int .i64 i, .int .i64 j] 61)).grownBy w3 (Value.slice (some ⟨g0, 0, none⟩) L.length L.length).ownBlock := ⟨hgrow.os, hgrow.tape, hgrow.output, hgrow.size, fun k hk _ => hgrow.block k hk (fun e => by cases e)⟩
    have cb3 : w3.cell? ⟨r, 1, none⟩ = some (.slice (some ⟨g0, 0, none⟩) L.length L.length) := (World.cell?_of_block (a := ⟨r, 1, none⟩) ((hgrow.block r (by simp; omega) (fun e => by cases e)).trans (heap_alloc_lt hrw))).trans c1
    have fb3 : w3.frozen? ⟨r, 1, none⟩ = false := (World.frozen?_of_block (a := ⟨r, 1, none⟩) ((hgrow.block r (by simp; omega) (fun e => by cases e)).trans (heap_alloc_lt hrw))).trans fb
    have HD := Lib.hid (rgput_done H1.out HF.out HN.out _ rfl hgrow' (.inr hgb') (owns_zero hown3))
    clear hown3 hgrow hgrow' hgb hgb' hgw3
    go_wp2_with fail
    go_ret2
    exact ⟨rfl, HD.out⟩

theorem rg_put (r n : Nat) (F : List Nat) (L : List (Nat × Nat)) (a z : Int) (w : World) (h : RefG w r F n L) (hlen : L.length ≤ 1099511627776) :
    Calls Tryd.prog 53 #[.pointer (some ⟨r, 0, none⟩), .int .i64 a, .int .i64 z] w (RGEnds r F (two (putV n L a z).1 (putV n L a z).2) n (putL n L a z) w) := by
  unfold putV putL
  by_cases hin : inG n a = true ∧ inG n z = true
  · rw [if_pos hin, if_pos hin]
    have ha := of_decide_eq_true hin.1
    have hz := of_decide_eq_true hin.2
    cases hh : hasR L a z with
    | true =>
      rw [if_pos rfl, if_pos rfl]
      exact rgput_has r n F L a z w h ha hz hh
    | false =>
      rw [if_neg (by simp), if_neg (by simp)]
      obtain ⟨i, rfl⟩ := Int.eq_ofNat_of_zero_le ha.1
      obtain ⟨j, rfl⟩ := Int.eq_ofNat_of_zero_le hz.1
      exact rgput_new r n F L i j w h (by omega) (by omega) hh hlen
  · rw [if_neg hin, if_neg hin]
    exact rgput_no r n F L a z w h hin
end Go.Proofs.YtafdijcolponjaaDoor

namespace Go.Proofs.YtafdijcolponjaaDoor
open Go.RowKit

theorem RowE.take {w : World} {ad : Option Addr} {c : Nat} {L : List (Nat × Nat)} (h : RowE w (.slice ad L.length c) L) {m : Nat} (hm : m ≤ L.length) : RowE w (.slice ad m m) (L.take m) := by
  have hl : (L.take m).length = m := by rw [List.length_take]; omega
  have he : edgeCells (L.take m) = (edgeCells L).take (m * 2) := by
    have h2 : edgeCells L = edgeCells (L.take m) ++ edgeCells (L.drop m) := by
      unfold edgeCells
      rw [← List.flatMap_append, List.take_append_drop]
    rw [h2, List.take_left' (by rw [edgeCells_len, hl])]
  rcases h with h | ⟨g, cs, hv, hg, hx, ht⟩
  · obtain ⟨h1, h2⟩ := h
    rcases h2 with ⟨hv, h0⟩ | ⟨g, cap, cur, hv, -, hh, hn, hcap, hsz, htake⟩
    · simp only [Value.slice.injEq] at hv
      obtain ⟨rfl, -, rfl⟩ := hv
      have h00 : m = 0 := by omega
      subst h00
      exact .inl ⟨by simp [edgeCells], .inl ⟨rfl, by simp⟩⟩
    · cases hv
      refine .inr ⟨g, cur, by rw [hl], hh, by rw [hl]; omega, ?_⟩
      rw [hl, he, ← htake, List.take_take, Nat.min_eq_left (by omega)]
  · cases hv
    refine .inr ⟨g, cs, by rw [hl], hg, by rw [hl]; omega, ?_⟩
    rw [hl, he, ← ht, List.take_take, Nat.min_eq_left (by omega)]

theorem rg_undo (r n : Nat) (F : List Nat) (L : List (Nat × Nat)) (z : Int) (w : World) (h : RefG w r F n L) :
    Calls Tryd.prog 54 #[.pointer (some ⟨r, 0, none⟩), .int .i64 z] w (RGEnds r F (.int .i64 (undoC L z)) n (undoL L z) w) := by
  have HR := Lib.hid h
  obtain ⟨v, h1, h2, hF, hN⟩ := h
  have H2 := Lib.hid h2
  obtain ⟨ad, c, rfl, hc, hm, hnil, -⟩ := h2.form
  have c1 : w.cell? ⟨r, 1, none⟩ = some (.slice ad L.length c) := cell_at 1 h1 rfl
  have fb := free_at 1 h1
  unfold undoC undoL
  by_cases hz : 0 ≤ z ∧ z ≤ (L.length : Int)
  · rw [if_pos hz, if_pos hz]
    obtain ⟨m, rfl⟩ := Int.eq_ofNat_of_zero_le hz.1
    have hml : m ≤ L.length := by omega
    rw [Int.toNat_natCast]
    have H1 := Lib.hid h1
    have HF := Lib.hid hF
    have HN := Lib.hid hN
    have q1 : ¬ ((m : Int) < 0) := by omega
    have q2 : ¬ ((L.length : Int) < (m : Int)) := by omega
    have q3 : (0 : Int) ≤ (m : Int) := by omega
    have q4 : (m : Int) ≤ (c : Int) := by omega
    have HNl := Lib.hid hnil
    clear h1 h2 hF hN hz hnil
    cases ad with
    | none =>
      obtain ⟨e1, e2⟩ := HNl.out rfl
      subst e2
      rw [e1] at c1
      have e3 : m = 0 := by omega
      subst e3
      go_enter Tryd.func54, Tryd.ntmps54
      go_wp2_with fail
      go_ret
      refine ⟨rfl, F, ⟨.slice none 0 0, ?_, .inl ⟨rfl, .inl ⟨rfl, rfl⟩⟩, HF.out, HN.out⟩, fun _ hk => .inl hk, (Chg.refl _ _).setCell (.inl (by rw [HF.out]; simp)) _⟩
      have := heap_set 1 (.slice none 0 0) H1.out
      rw [this]; rfl
    | some x =>
      go_enter Tryd.func54, Tryd.ntmps54
      go_wp2_with fail
      go_ret
      have hd := HF.out
      have hn := HN.out
      rw [hd] at hn
      refine ⟨rfl, F, ⟨.slice (some x) m m, ?_, ?_, hd, by rw [hd]; exact hn⟩, fun k hk => .inl hk, (Chg.refl _ _).setCell (.inl (by rw [hd]; simp)) _⟩
      · have := heap_set 1 (.slice (some x) m m) H1.out
        rw [this]; rfl
      · refine (H2.out.take hml).frame fun k hk => heap_set_ne 1 _ (fun e => ?_)
        subst e
        exact (List.nodup_cons.1 hn).1 (mem_ownL.2 hk)
  · rw [if_neg hz, if_neg hz]
    have HZ := Lib.hid hz
    clear h1 h2 hF hN hnil
    by_cases q1 : z < 0
    · clear hz
      go_enter Tryd.func54, Tryd.ntmps54
      go_wp2_with fail
      go_ret
      exact rg_idle HR.out
    · have q2 : (L.length : Int) < z := by omega
      clear hz
      go_enter Tryd.func54, Tryd.ntmps54
      go_wp2_with fail
      go_ret
      exact rg_idle HR.out

theorem filter_succ (p : Nat → Bool) (k : Nat) : (List.range (k + 1)).filter p = (List.range k).filter p ++ (if p k = true then [k] else []) := by
  rw [List.range_succ, List.filter_append]
  congr 1
  cases h : p k <;> simp [h]
def RListRel (w : World) (n : Nat) (p : Nat → Bool) (v i : Value) (wr : World) : Prop :=
  ∃ k : Nat, k ≤ n ∧ i = .int .i64 k ∧ wr.ownsRow w.heap.size 3 1 v ((List.range k).filter p).length (intl (natI ((List.range k).filter p))) ∧ Below w.heap.size w wr
theorem filter_len (p : Nat → Bool) (k : Nat) : ((List.range k).filter p).length ≤ k := by
  have := List.length_filter_le p (List.range k)
  simpa using this

theorem rg_next (r n : Nat) (F : List Nat) (L : List (Nat × Nat)) (a : Int) (w : World) (h : RefG w r F n L) (hn : n ≤ 500) :
    Calls Tryd.prog 58 #[.pointer (some ⟨r, 0, none⟩), .int .i64 a] w (ListEnds (nextR n L a) w) := by
  have HR := Lib.hid h
  obtain ⟨i0, hi, hz0, hz1, hz2⟩ := info_parts infoInt
  clear h
  unfold nextR
  have hp : ∃ p : Nat → Bool, ∀ k, p k = hasR L a k := ⟨_, fun _ => rfl⟩
  have he : ∃ p : Nat → Bool, p = fun (k : Nat) => hasR L a k := ⟨_, rfl⟩
  clear hp
  obtain ⟨p, hp⟩ := he
  rw [← hp]
  have HP := Lib.hid hp
  clear hp
  have hown := World.ownsRow_made (base := w.heap.size) (e := 3) (size := 1) w #[] 0 (Nat.le_refl _) (by decide) rfl
  have HO := Lib.hid hown
  clear hown
  go_enter Tryd.func58, Tryd.ntmps58
  go_wp2_with fail
  go_loopw [5, 6] (fun v i wr => RListRel w n p v i wr) (fun _ i _ => n - (intOf i).toNat)
  case atStart => exact ⟨0, Nat.zero_le _, rfl, HO.out, (Below.refl _ _).alloc (Nat.le_refl _) _⟩
  case round =>
    clear HO
    obtain ⟨k, hk, rfl, hown, hB⟩ := hrel
    have hR2 := HR.out.frame (w' := wr) fun q hq => hB.block q (HR.out.lt q hq)
    have HH := rghas_any r n F L a k wr hR2
    obtain ⟨v, h1, -⟩ := hR2
    have c0 : wr.cell? ⟨r, 0, none⟩ = some (.int .i64 n) := cell_at 0 h1 rfl
    have HS := Lib.hid (filter_succ p k)
    have HL := filter_len p k
    have hpk : p k = hasR L a k := by rw [HP.out]
    have hk0 : (0 : Int) ≤ (k : Int) := by omega
    clear h1
    by_cases hlt : k < n
    · have hk1 : (k : Int) < (n : Int) := by omega
      rw [← hpk] at HH
      generalize (List.range k).filter p = l at *
      have HO := Lib.hid hown
      have HB := Lib.hid hB
      have HHh := Lib.hid HH
      have hb := hB.size
      have HM : Hid (l.length + 1 ≤ maxLen ∧ (l.length + 1) * 8 ≤ 140737488355328) := by
        show _ ∧ _
        unfold maxLen; omega
      clear hown hB HH hpk
      cases hq : p k with
      | true =>
        rw [hq, if_pos rfl] at HS
        rw [hq] at HHh
        clear hq
        have hb2 : Hid (∀ o, w.heap.size ≤ (wr.alloc o).heap.size) := fun o => by simp; omega
        go_wp2_with fail
        go_fit HHh.out
        rintro e w' ⟨rfl, rfl⟩
        go_wp2_with (first | (at_builtin; go_loud (refine wpList_append_own _ rfl _ _ 22 rfl w.heap.size 3 i0 (.int .i64 0) 1 8 Tryd.underlying22 hi hz0 hz1 hz2 rfl (by decide) _ l.length (intl (natI l)) rfl (HO.out.alloc _) ⟨wr.heap.size, 0, none⟩ 1 1 [_] rfl rfl (one_new wr _ _) (one_cell _ _) HM.out.1 HM.out.2 (hb2.out _) ?_)) | fail)
        intro v' w1 hown1 hgrow hnn
        have HO1 := Lib.hid hown1
        have HG := Lib.hid hgrow
        clear hnn hown1 hgrow
        go_wp2_with fail
        go_roundw
        case rel =>
          refine ⟨k + 1, by omega, by go_num, ?_, (HB.out.alloc HB.out.size _).grown HG.out (hb2.out _) (fun q hq => (World.ownsRow.lt HO.out q hq).1)⟩
          rw [HS.out]
          have e : intl (natI (l ++ [k])) = intl (natI l) ++ [Value.int .i64 (k : Int)] := by simp [intl, natI]
          rw [e, List.length_append]
          exact HO1.out
        case measure => simp [intOf]; omega
      | false =>
        rw [hq, if_neg (by simp), List.append_nil] at HS
        rw [hq] at HHh
        clear hq
        go_wp2_with fail
        go_fit HHh.out
        rintro e w' ⟨rfl, rfl⟩
        go_wp2_with fail
        go_roundw
        case rel => exact ⟨k + 1, by omega, by go_num, by rw [HS.out]; exact HO.out, HB.out⟩
        case measure => simp [intOf]; omega
    · have e : k = n := by omega
      subst e
      have HO := Lib.hid hown
      have HB := Lib.hid hB
      clear hown hB HH hpk
      go_wp2_with fail
      go_ret
      exact ⟨_, rfl, HO.out, HB.out⟩

theorem rg_back (r n : Nat) (F : List Nat) (L : List (Nat × Nat)) (a : Int) (w : World) (h : RefG w r F n L) (hn : n ≤ 500) :
    Calls Tryd.prog 60 #[.pointer (some ⟨r, 0, none⟩), .int .i64 a] w (ListEnds (backR n L a) w) := by
  have HR := Lib.hid h
  obtain ⟨i0, hi, hz0, hz1, hz2⟩ := info_parts infoInt
  clear h
  unfold backR
  have hp : ∃ p : Nat → Bool, ∀ k, p k = hasR L k a := ⟨_, fun _ => rfl⟩
  have he : ∃ p : Nat → Bool, p = fun (k : Nat) => hasR L k a := ⟨_, rfl⟩
  clear hp
  obtain ⟨p, hp⟩ := he
  rw [← hp]
  have HP := Lib.hid hp
  clear hp
  have hown := World.ownsRow_made (base := w.heap.size) (e := 3) (size := 1) w #[] 0 (Nat.le_refl _) (by decide) rfl
  have HO := Lib.hid hown
  clear hown
  go_enter Tryd.func60, Tryd.ntmps60
  go_wp2_with fail
  go_loopw [5, 6] (fun v i wr => RListRel w n p v i wr) (fun _ i _ => n - (intOf i).toNat)
  case atStart => exact ⟨0, Nat.zero_le _, rfl, HO.out, (Below.refl _ _).alloc (Nat.le_refl _) _⟩
  case round =>
    clear HO
    obtain ⟨k, hk, rfl, hown, hB⟩ := hrel
    have hR2 := HR.out.frame (w' := wr) fun q hq => hB.block q (HR.out.lt q hq)
    have HH := rghas_any r n F L k a wr hR2
    obtain ⟨v, h1, -⟩ := hR2
    have c0 : wr.cell? ⟨r, 0, none⟩ = some (.int .i64 n) := cell_at 0 h1 rfl
    have HS := Lib.hid (filter_succ p k)
    have HL := filter_len p k
    have hpk : p k = hasR L k a := by rw [HP.out]
    have hk0 : (0 : Int) ≤ (k : Int) := by omega
    clear h1
    by_cases hlt : k < n
    · have hk1 : (k : Int) < (n : Int) := by omega
      rw [← hpk] at HH
      generalize (List.range k).filter p = l at *
      have HO := Lib.hid hown
      have HB := Lib.hid hB
      have HHh := Lib.hid HH
      have hb := hB.size
      have HM : Hid (l.length + 1 ≤ maxLen ∧ (l.length + 1) * 8 ≤ 140737488355328) := by
        show _ ∧ _
        unfold maxLen; omega
      clear hown hB HH hpk
      cases hq : p k with
      | true =>
        rw [hq, if_pos rfl] at HS
        rw [hq] at HHh
        clear hq
        have hb2 : Hid (∀ o, w.heap.size ≤ (wr.alloc o).heap.size) := fun o => by simp; omega
        go_wp2_with fail
        go_fit HHh.out
        rintro e w' ⟨rfl, rfl⟩
        go_wp2_with (first | (at_builtin; go_loud (refine wpList_append_own _ rfl _ _ 22 rfl w.heap.size 3 i0 (.int .i64 0) 1 8 Tryd.underlying22 hi hz0 hz1 hz2 rfl (by decide) _ l.length (intl (natI l)) rfl (HO.out.alloc _) ⟨wr.heap.size, 0, none⟩ 1 1 [_] rfl rfl (one_new wr _ _) (one_cell _ _) HM.out.1 HM.out.2 (hb2.out _) ?_)) | fail)
        intro v' w1 hown1 hgrow hnn
        have HO1 := Lib.hid hown1
        have HG := Lib.hid hgrow
        clear hnn hown1 hgrow
        go_wp2_with fail
        go_roundw
        case rel =>
          refine ⟨k + 1, by omega, by go_num, ?_, (HB.out.alloc HB.out.size _).grown HG.out (hb2.out _) (fun q hq => (World.ownsRow.lt HO.out q hq).1)⟩
          rw [HS.out]
          have e : intl (natI (l ++ [k])) = intl (natI l) ++ [Value.int .i64 (k : Int)] := by simp [intl, natI]
          rw [e, List.length_append]
          exact HO1.out
        case measure => simp [intOf]; omega
      | false =>
        rw [hq, if_neg (by simp), List.append_nil] at HS
        rw [hq] at HHh
        clear hq
        go_wp2_with fail
        go_fit HHh.out
        rintro e w' ⟨rfl, rfl⟩
        go_wp2_with fail
        go_roundw
        case rel => exact ⟨k + 1, by omega, by go_num, by rw [HS.out]; exact HO.out, HB.out⟩
        case measure => simp [intOf]; omega
    · have e : k = n := by omega
      subst e
      have HO := Lib.hid hown
      have HB := Lib.hid hB
      clear hown hB HH hpk
      go_wp2_with fail
      go_ret
      exact ⟨_, rfl, HO.out, HB.out⟩

end Go.Proofs.YtafdijcolponjaaDoor

namespace Go.Proofs.YtafdijcolponjaaDoor
open Go.RowKit

def REdgeOut (w : World) (n : Nat) (L : List (Nat × Nat)) (v i : Value) (wr : World) : Prop :=
  ∃ k : Nat, k ≤ n ∧ i = .int .i64 k ∧ wr.ownsRow w.heap.size 61 2 v (edgesR n L k).length (edgeCells (edgesR n L k)) ∧ Below w.heap.size w wr

set_option maxRecDepth 20000 in
theorem rg_edges (r n : Nat) (F : List Nat) (L : List (Nat × Nat)) (w : World) (h : RefG w r F n L) (hn : n ≤ 500) :
    Calls Tryd.prog 61 #[.pointer (some ⟨r, 0, none⟩)] w (EdgeEnds (edgesR n L n) w) := by
  have HR := Lib.hid h
  clear h
  have hown := World.ownsRow_made (base := w.heap.size) (e := 61) (size := 2) w #[] 0 (Nat.le_refl _) (by decide) rfl
  have HO := Lib.hid hown
  clear hown
  go_enter Tryd.func61, Tryd.ntmps61
  go_wp2_with fail
  go_loopw [3, 4] (fun v i wr => REdgeOut w n L v i wr) (fun _ i _ => n - (intOf i).toNat)
  case atStart => exact ⟨0, by omega, rfl, HO.out, (Below.refl _ _).alloc (Nat.le_refl _) _⟩
  case round =>
    clear HO
    obtain ⟨k, hk, rfl, hown, hB⟩ := hrel
    obtain ⟨wA, rfl⟩ : ∃ x, x = wr := ⟨_, rfl⟩
    obtain ⟨vA, rfl⟩ : ∃ x, x = u3 := ⟨_, rfl⟩
    have hR2 := HR.out.frame (w' := wA) fun q hq => hB.block q (HR.out.lt q hq)
    have hA := rg_next r n F L k wA hR2 hn
    obtain ⟨v, h1, -⟩ := hR2
    have c0 : wA.cell? ⟨r, 0, none⟩ = some (.int .i64 n) := cell_at 0 h1 rfl
    clear h1
    by_cases hlt : k < n
    · unfold ListEnds at hA
      have HA := Lib.hid hA
      have HEL := Lib.hid (edgesR_succ n L k)
      have HLn := Lib.hid (edgesR_len n L k)
      have HO := Lib.hid hown
      have HB := Lib.hid hB
      have hll := nextR_len n L k
      have hkn : k * n ≤ 250000 := by
        have := Nat.mul_le_mul (show k ≤ 500 by omega) hn
        omega
      generalize nextR n L k = l at *
      have HLl := Lib.hid hll
      generalize edgesR n L k = E at *
      have hk0 : (0 : Int) ≤ (k : Int) := by omega
      have hk1 : (k : Int) < (n : Int) := by omega
      clear hown hB hA hll
      go_wp2_with fail
      go_fit HA.out
      rintro e w1 ⟨v2, rfl, hown2, hB2⟩
      obtain ⟨ad2, c2, rfl⟩ := owns_slice hown2
      have hsz := HB.out.size
      have hs2 := hB2.size
      have HB2 := Lib.hid (HB.out.trans (hB2.mono hsz))
      have HO2 := Lib.hid hown2
      have hx : ∀ q, vA.ownBlock = some q → (Value.slice ad2 l.length c2).ownBlock ≠ some q := fun q hq h2 => by
        have a1 := owns_lt HO.out q hq
        have a2 := (World.ownsRow.lt hown2 q h2).1
        omega
      have HX := Lib.hid hx
      have HO1 := Lib.hid (owns_of_heap HO.out fun q hq => hB2.block q (owns_lt HO.out q hq))
      clear hown2 hB2 hx
      have hl63 : (l.length : Int) ≤ 9223372036854775807 := by have := HLl.out; omega
      go_wp2_with fail
      go_loopw [3, 6] (fun v i wr2 => EdgeIn w E k l wA.heap.size (.slice ad2 l.length c2) v i wr2) (fun _ i _ => l.length - (intOf i).toNat)
      case atStart =>
        exact ⟨0, by omega, rfl, by simpa using HO1.out, HB2.out, HO2.out, HX.out⟩
      case round =>
        clear HO HO1 HX HB HB2 HO2 c0
        obtain ⟨j, hj, rfl, hown, hB, hown2, hx⟩ := hrel
        by_cases hlt2 : j < l.length
        · obtain ⟨g2, cc, hv, hc2, hm2⟩ : ∃ g cap, Value.slice ad2 l.length c2 = .slice (some ⟨g, 0, none⟩) l.length cap ∧ l.length ≤ cap ∧ cap ≤ maxLen := by
            rcases owns_shape hown2 with ⟨_, h0⟩ | h
            · omega
            · exact h
          cases hv
          have hy : ((intl (natI l))[j]?) = some (.int .i64 (l.getD j 0 : Nat)) := by simp [intl, natI, hlt2]
          have cy : wr.cell? ⟨g2, j, none⟩ = _ := (hown2.cellAt j (by omega)).trans hy
          have hst : E ++ (l.take (j + 1)).map (fun y => (k, y)) = (E ++ (l.take j).map (fun y => (k, y))) ++ [(k, l.getD j 0)] := by
            rw [List.take_add_one, List.map_append, List.append_assoc]
            simp [hlt2]
          have HM : Hid ((E ++ (l.take j).map (fun y => (k, y))).length + 1 ≤ maxLen ∧ ((E ++ (l.take j).map (fun y => (k, y))).length + 1) * 16 ≤ 140737488355328) := by
            have h1 := HLn.out
            have h2 := HLl.out
            have h3 : ((l.take j).map (fun y => (k, y))).length ≤ l.length := by simp; omega
            show _ ∧ _
            rw [List.length_append]
            unfold maxLen; omega
          have HS := Lib.hid hst
          have HO := Lib.hid hown
          have HB := Lib.hid hB
          have HO2 := Lib.hid hown2
          have HX := Lib.hid hx
          have hj0 : (0 : Int) ≤ (j : Int) := by omega
          have hj1 : (j : Int) < (l.length : Int) := by omega
          obtain ⟨i0, hie, hz0, hz2, hz3⟩ := info_parts infoEdge
          have hsz := hB.size
          clear hst hown hB hown2 hx hy hc2 hm2
          generalize E ++ (l.take j).map (fun y => (k, y)) = E1 at *
          generalize l.getD j 0 = y at *
          go_wp2_with (first | (at_builtin; go_loud (refine wpList_append_lies _ rfl _ _ 53 rfl w.heap.size 61 i0 (.agg #[.int .i64 0, .int .i64 0]) 2 16 Tryd.underlying53 hie hz0 hz2 hz3 rfl (by decide) u3 E1.length (edgeCells E1) rfl (HO.out.alloc _) ⟨wr.heap.size, 0, none⟩ 1 1 [.int .i64 k, .int .i64 y] rfl rfl (edge_new wr _ _ _) (edge_cell _ _) (by decide) HM.out.1 HM.out.2 (by simp; omega) (wr.heap.size + 1) (by simp) ?_)) | fail)
          intro g c w3 hown3 hgrow hat hg3
          have HO3 := Lib.hid hown3
          have HGr := Lib.hid hgrow
          have HAt := Lib.hid hat
          clear hown3 hgrow hat
          go_wp2_with fail
          go_roundw
          case rel =>
            refine ⟨j + 1, by omega, by go_num, ?_, ?_, ?_, ?_⟩
            · rw [HS.out, List.length_append, edgeCells_append]
              exact HO3.out
            · exact (HB.out.alloc hsz _).grown HGr.out (by simp; omega) (fun q hq => (World.ownsRow.lt HO.out q hq).1)
            · exact owns_of_heap HO2.out fun q hq => by
                have hlt := owns_lt HO2.out q hq
                exact (HGr.out.block q (by simp; omega) (fun e => HX.out q e.symm hq)).trans (heap_alloc_lt hlt)
            · intro q hq h2
              cases hq
              have hlt : g < wr.heap.size := owns_lt HO2.out _ h2
              rcases HAt.out with h | h
              · exact HX.out _ h h2
              · omega
          case measure => simp [intOf]; omega
        · obtain rfl : j = l.length := by omega
          have HO := Lib.hid hown
          have HB := Lib.hid hB
          clear hown hB hown2 hx
          go_wp2_with fail
          go_roundw
          case rel =>
            refine ⟨k + 1, by omega, by go_num, ?_, HB.out⟩
            have h := HO.out
            rw [List.take_length] at h
            rw [HEL.out]
            exact h
          case measure => simp [intOf]; omega
    · have e : k = n := by omega
      subst e
      have HO := Lib.hid hown
      have HB := Lib.hid hB
      clear hown hB hA
      go_wp2_with fail
      go_ret
      exact ⟨_, rfl, HO.out, HB.out⟩

/-- A graph of the document that is new, wholly. -/
def RGNew (n : Nat) (L : List (Nat × Nat)) (w : World) (e : Ending) (w' : World) : Prop :=
  ∃ r F, e = .returned (.pointer (some ⟨r, 0, none⟩)) ∧ RefG w' r F n L ∧ (∀ k ∈ F, w.heap.size ≤ k) ∧ Below w.heap.size w w'
def ROfRel (w : World) (r n : Nat) (z : Nat → Nat → Int) (m : Nat) (i : Value) (wr : World) : Prop :=
  ∃ (k : Nat) (F : List Nat), k ≤ m ∧ i = .int .i64 k ∧ RefG wr r F n (ofZ n z k) ∧ (∀ q ∈ F, w.heap.size ≤ q) ∧ Below w.heap.size w wr

set_option maxRecDepth 20000 in
theorem rg_of (n : Nat) (ad : Option Addr) (m c : Nat) (z : Nat → Nat → Int) (w : World) (h : EdgesIn w ad m z) (hm : m ≤ 1000000) :
    Calls Tryd.prog 52 #[.int .i64 n, .slice ad m c] w (RGNew n (ofZ n z m) w) := by
  have HE := Lib.hid h
  clear h
  go_enter Tryd.func52, Tryd.ntmps52
  go_wp2_with fail
  obtain ⟨r, hr⟩ : ∃ r, r = w.heap.size := ⟨_, rfl⟩
  have hG : RefG (w.alloc (.cells #[.int .i64 n, .slice none 0 0] 71)) r [r] n [] := by
    rw [hr]; exact ⟨_, heap_new _ _, .inl ⟨rfl, .inl ⟨rfl, rfl⟩⟩, rfl, by simp⟩
  have HG := Lib.hid hG
  have HRr := Lib.hid hr
  clear hG
  rw [← hr]
  clear hr
  go_loopw [6] (fun i wr => ROfRel w r n z m i wr) (fun i _ => m - (intOf i).toNat)
  case atStart => exact ⟨0, [r], Nat.zero_le _, rfl, HG.out, by have := HRr.out; simp; omega, (Below.refl _ _).alloc (Nat.le_refl _) _⟩
  case round =>
    clear HG
    obtain ⟨k, F, hk, rfl, hG, hF, hB⟩ := hrel
    have HG := Lib.hid hG
    have HF := Lib.hid hF
    have HB := Lib.hid hB
    by_cases hlt : k < m
    · obtain ⟨g, rfl, hg, hc⟩ := (HE.out.below hB (Nat.le_refl _)).2 (by omega)
      obtain ⟨c1, c2⟩ := hc k hlt
      have HZ : Hid (ofZ n z (k + 1) = putL n (ofZ n z k) (z k 0) (z k 1)) := by show _ = _; rfl
      have hlen := ofZ_len n z k
      generalize z k 0 = x at *
      generalize z k 1 = y at *
      generalize ofZ n z k = L at *
      have HC1 := Lib.hid c1
      have HC2 := Lib.hid c2
      have hk0 : (0 : Int) ≤ (k : Int) := by omega
      have hk1 : (k : Int) < (m : Int) := by omega
      clear hG hF hB hc hg c1 c2
      go_wp2_with fail
      refine region_tail 11 (by kernel_rfl) (by kernel_rfl) fun w3 hS => ?_
      have d1 := hS.cell HC1.out
      have d2 := hS.cell HC2.out
      have hP := rg_put r n F L x y w3 (HG.out.frame fun j _ => hS.at j) (by omega)
      have HP := Lib.hid hP
      have HS := Lib.hid hS
      generalize putV n L x y = pv at *
      unfold RGEnds two at HP
      clear hP hS
      simp only [List.take_succ_cons, List.take_zero, List.drop_succ_cons, List.drop_zero]
      repeat still_step
      refine wpStill_nil ?_
      go_wp2_with fail
      go_fit HP.out
      rintro e w4 ⟨rfl, F4, hG4, hF4, hC4⟩
      have hz := HB.out.size
      have hz3 : w3.heap.size = wr.heap.size := by rw [HS.out.heap]
      have hB4 := HB.out.trans (HS.out.below.trans (hC4.below (by omega) fun j hj hjF => by have := HF.out j hjF; omega))
      have hF4' : ∀ j ∈ F4, w.heap.size ≤ j := fun j hj => by
        rcases hF4 j hj with h | h
        · exact HF.out j h
        · omega
      have HG5 := Lib.hid hG4
      have HF5 := Lib.hid hF4'
      have HB5 := Lib.hid hB4
      clear hG4 hF4 hC4 hB4 hF4' hz hz3 d1 d2
      go_wp2_with fail
      go_roundw
      case rel => exact ⟨k + 1, F4, by omega, by go_num, by rw [HZ.out]; exact HG5.out, HF5.out, HB5.out⟩
      case measure => simp [intOf]; omega
    · have e : k = m := by omega
      subst e
      clear hG hF hB
      go_wp2_with fail
      go_ret
      exact ⟨r, F, rfl, HG.out, HF.out, HB.out⟩

def MayRel (w : World) (n : Nat) (z : Nat → Nat → Int) (m : Nat) (i : Value) (wr : World) : Prop :=
  ∃ k : Nat, k ≤ m ∧ i = .int .i64 k ∧ mayE n z k = true ∧ w = wr

theorem rg_may (n : Int) (ad : Option Addr) (m c : Nat) (z : Nat → Nat → Int) (w : World) (h : EdgesIn w ad m z) :
    Calls Tryd.prog 51 #[.int .i64 n, .slice ad m c] w fun e w' => e = .returned (.bool (ofB n z m)) ∧ w = w' := by
  have hm0 := h.1
  unfold ofB
  by_cases hn : 0 ≤ n ∧ n ≤ 500
  · rw [decide_eq_true hn, Bool.true_and]
    obtain ⟨q, rfl⟩ := Int.eq_ofNat_of_zero_le hn.1
    rw [Int.toNat_natCast]
    have HE := Lib.hid h
    have n1 : ¬ ((q : Int) < 0) := by omega
    have n2 : ¬ (500 < (q : Int)) := by omega
    clear h hn
    go_enter Tryd.func51, Tryd.ntmps51
    go_wp2_with fail
    go_loopw [5] (fun i wr => MayRel w q z m i wr) (fun i _ => m - (intOf i).toNat)
    case atStart => exact ⟨0, Nat.zero_le _, rfl, rfl, rfl⟩
    case round =>
      obtain ⟨k, hk, rfl, hmay, rfl⟩ := hrel
      by_cases hlt : k < m
      · obtain ⟨g, rfl, hg, hc⟩ := HE.out.2 (by omega)
        obtain ⟨c1, c2⟩ := hc k hlt
        have HM := Lib.hid (mayE_succ q z k)
        have HNo := Lib.hid (fun h => mayE_no (n := q) (z := z) (i := k) h hlt)
        have HMay := Lib.hid hmay
        generalize z k 0 = x at *
        generalize z k 1 = y at *
        have hk0 : (0 : Int) ≤ (k : Int) := by omega
        have hk1 : (k : Int) < (m : Int) := by omega
        clear hc hg hmay
        by_cases hx : (0 ≤ x ∧ x < (q : Int)) ∧ (0 ≤ y ∧ y < (q : Int))
        · have HIn : Hid ((inG q x && inG q y) = true) := by show _ = _; unfold inG; rw [decide_eq_true hx.1, decide_eq_true hx.2]; rfl
          have q1 : ¬ (x < 0) := by omega
          have q2 : ¬ (y < 0) := by omega
          have q3 : ¬ ((q : Int) ≤ x) := by omega
          have q4 : ¬ ((q : Int) ≤ y) := by omega
          clear hx
          go_wp2_with fail
          go_roundw
          case rel => exact ⟨k + 1, by omega, by go_num, by rw [HM.out, HMay.out, HIn.out]; rfl, rfl⟩
          case measure => simp [intOf]; omega
        · have HIn : Hid ((inG q x && inG q y) = false) := by
            show _ = _
            rw [Bool.and_eq_false_iff]
            unfold inG
            by_cases h1 : 0 ≤ x ∧ x < (q : Int)
            · right; exact decide_eq_false (fun h2 => hx ⟨h1, h2⟩)
            · left; exact decide_eq_false h1
          have HD : Hid (mayE q z m = false) := HNo.out HIn.out
          by_cases q1 : x < 0
          · clear hx
            go_wp2_with fail
            go_ret
            exact ⟨ret_bool HD.out.symm, rfl⟩
          · by_cases q2 : y < 0
            · clear hx
              go_wp2_with fail
              go_ret
              exact ⟨ret_bool HD.out.symm, rfl⟩
            · by_cases q3 : (q : Int) ≤ x
              · clear hx
                go_wp2_with fail
                go_ret
                exact ⟨ret_bool HD.out.symm, rfl⟩
              · have q4 : (q : Int) ≤ y := by omega
                clear hx
                go_wp2_with fail
                go_ret
                exact ⟨ret_bool HD.out.symm, rfl⟩
      · have e : k = m := by omega
        subst e
        have HMay := Lib.hid hmay
        clear hmay
        go_wp2_with fail
        go_ret
        exact ⟨ret_bool HMay.out.symm, rfl⟩
  · rw [decide_eq_false hn, Bool.false_and]
    by_cases n1 : n < 0
    · clear hn h
      go_enter Tryd.func51, Tryd.ntmps51
      go_wp2_with fail
      go_ret
      exact ⟨rfl, rfl⟩
    · have n2 : 500 < n := by omega
      clear hn h
      go_enter Tryd.func51, Tryd.ntmps51
      go_wp2_with fail
      go_ret
      exact ⟨rfl, rfl⟩
end Go.Proofs.YtafdijcolponjaaDoor

namespace Go.Proofs.YtafdijcolponjaaDoor
open Go.RowKit

theorem chg_new {w0 w w' : World} {F F' : List Nat} (hB : Below w0.heap.size w0 w) (hF : ∀ k ∈ F, w0.heap.size ≤ k) (hF' : ∀ k ∈ F', k ∈ F ∨ w.heap.size ≤ k) (hC : Chg (· ∈ F) w w') :
    Below w0.heap.size w0 w' ∧ ∀ k ∈ F', w0.heap.size ≤ k := by
  have hz := hB.size
  refine ⟨hB.trans (hC.below hz fun j hj hjF => by have := hF j hjF; omega), fun k hk => ?_⟩
  rcases hF' k hk with h | h
  · exact hF k h
  · omega

/-- Both graphs in memory, and a block X of the round's own. -/
structure GX (w0 : World) (b r q X : Nat) (o : Option Obj) (F G : List Nat) (L M : List (Nat × Nat)) (wr : World) : Prop where
  gr : GrAt wr b F q L
  rf : RefG wr r G q M
  dis : ∀ k ∈ F, k ∉ G
  fb : ∀ k ∈ F, w0.heap.size ≤ k
  gb : ∀ k ∈ G, w0.heap.size ≤ k
  bel : Below w0.heap.size w0 wr
  xo : ∀ u, o = some u → wr.heap[X]? = some u ∧ X ∉ F ∧ X ∉ G

theorem GX.graph {w0 : World} {b r q X : Nat} {o : Option Obj} {F G : List Nat} {L M L' : List (Nat × Nat)} {wr w' : World} {v : Value} {e : Ending} (h : GX w0 b r q X o F G L M wr) (he : GrEnds b F v q L' wr e w') :
    e = .returned v ∧ ∃ F', GX w0 b r q X o F' G L' M w' := by
  obtain ⟨gr, rf, dis, fb, gb, bel, hxo⟩ := h
  obtain ⟨rfl, F', hG, hF, hC⟩ := he
  obtain ⟨hB, hF4⟩ := chg_new bel fb hF hC
  refine ⟨rfl, F', hG, rf.frame fun k hk => hC.block k (rf.lt k hk) (fun hf => dis k hf hk), fun k hk hg => ?_, hF4, gb, hB, fun u hu => ?_⟩
  · rcases hF k hk with e | e
    · exact dis k e hg
    · have := rf.lt k hg; omega
  · obtain ⟨xo, xf, xg⟩ := hxo u hu
    have hX := lt_of_block xo
    refine ⟨(hC.block X hX xf).trans xo, fun hx => ?_, xg⟩
    rcases hF X hx with e | e
    · exact xf e
    · omega
theorem GX.ref {w0 : World} {b r q X : Nat} {o : Option Obj} {F G : List Nat} {L M M' : List (Nat × Nat)} {wr w' : World} {v : Value} {e : Ending} (h : GX w0 b r q X o F G L M wr) (he : RGEnds r G v q M' wr e w') :
    e = .returned v ∧ ∃ G', GX w0 b r q X o F G' L M' w' := by
  obtain ⟨gr, rf, dis, fb, gb, bel, hxo⟩ := h
  obtain ⟨rfl, G', hR, hG, hC⟩ := he
  obtain ⟨hB, hG4⟩ := chg_new bel gb hG hC
  refine ⟨rfl, G', gr.frame fun k hk => hC.block k (gr.lt k hk) (fun hg => dis k hk hg), hR, fun k hk hg => ?_, fb, hG4, hB, fun u hu => ?_⟩
  · rcases hG k hg with e | e
    · exact dis k hk e
    · have := gr.lt k hk; omega
  · obtain ⟨xo, xf, xg⟩ := hxo u hu
    have hX := lt_of_block xo
    refine ⟨(hC.block X hX xg).trans xo, xf, fun hx => ?_⟩
    rcases hG X hx with e | e
    · exact xg e
    · omega
theorem GX.below {w0 : World} {b r q X : Nat} {o : Option Obj} {F G : List Nat} {L M : List (Nat × Nat)} {wr w' : World} (h : GX w0 b r q X o F G L M wr) (hB : Below wr.heap.size wr w') : GX w0 b r q X o F G L M w' := by
  obtain ⟨gr, rf, dis, fb, gb, bel, hxo⟩ := h
  refine ⟨gr.below hB (Nat.le_refl _), rf.frame fun k hk => hB.block k (rf.lt k hk), dis, fb, gb, bel.trans (hB.mono bel.size), fun u hu => ?_⟩
  obtain ⟨xo, xf, xg⟩ := hxo u hu
  exact ⟨(hB.block X (lt_of_block xo)).trans xo, xf, xg⟩
theorem GX.same {w0 : World} {b r q X : Nat} {o : Option Obj} {F G : List Nat} {L M : List (Nat × Nat)} {wr w' : World} (h : GX w0 b r q X o F G L M wr) (hS : Same wr w') : GX w0 b r q X o F G L M w' := h.below hS.below
theorem GX.drew {w0 : World} {b r q X : Nat} {o : Option Obj} {F G : List Nat} {L M : List (Nat × Nat)} {wr : World} (h : GX w0 b r q X o F G L M wr) : GX w0 b r q X o F G L M wr.drew := h.same (Same.refl wr).drew
theorem GX.alloc {w0 : World} {b r q X : Nat} {o : Option Obj} {F G : List Nat} {L M : List (Nat × Nat)} {wr : World} (h : GX w0 b r q X o F G L M wr) (o' : Obj) : GX w0 b r q wr.heap.size (some o') F G L M (wr.alloc o') := by
  obtain ⟨gr, rf, dis, fb, gb, bel, -⟩ := h
  refine ⟨gr.alloc o', rf.frame fun k hk => heap_alloc_lt (rf.lt k hk), dis, fb, gb, bel.alloc bel.size _, fun u hu => ?_⟩
  cases hu
  refine ⟨heap_new _ _, fun hx => ?_, fun hx => ?_⟩
  · have := gr.lt _ hx; omega
  · have := rf.lt _ hx; omega

def GPlayRel (w0 : World) (b r q m : Nat) (i : Value) (wr : World) : Prop :=
  ∃ (k : Nat) (F G : List Nat) (L : List (Nat × Nat)), k ≤ m ∧ i = .int .i64 k ∧ ∃ X o, GX w0 b r q X o F G L L wr
/-- Behind a switch's arm: both have gone on, and answered the same. -/
def GPlayCut (w0 : World) (b r q X : Nat) (o : Option Obj) (ok : Value) (wr : World) : Prop :=
  ∃ (F G : List Nat) (L : List (Nat × Nat)), ok = .bool true ∧ GX w0 b r q X o F G L L wr

/-- A list that a call made, as SameInts reads it. -/
theorem src_list {w : World} {base n : Nat} {v : Value} {l : List Int} (h : w.ownsRow base 3 1 v n (intl l)) : ∃ ad c, v = .slice ad n c ∧ Src w ad n c 1 (intl l) := by
  rcases owns_shape h with ⟨rfl, h0⟩ | ⟨g, c, rfl, -, -⟩
  · subst h0
    have hl : l = [] := by have := h.1; simpa [intl] using this
    subst hl
    exact ⟨none, 0, rfl, rfl, fun _ => ⟨rfl, rfl⟩, Nat.le_refl _, by unfold maxLen; omega, fun x hx => (by cases hx), fun x hx => by simp [intl] at hx⟩
  · exact ⟨_, c, rfl, src_owned h⟩

theorem rowS_of_owns {w : World} {base m c : Nat} {ad : Option Addr} {z : Nat → Nat → Int} (h : w.ownsRow base 61 2 (.slice ad m c) m (cellsZ z m)) (hw : ∀ i, i < m → ∀ j, j < 2 → (Lit.int .i64 (z i j)).wf = true) : IsRowS 2 w ad m c z := by
  rcases owns_shape h with ⟨hv, h0⟩ | ⟨g, cap, hv, hc, hm⟩
  · simp only [Value.slice.injEq] at hv
    obtain ⟨rfl, rfl, rfl⟩ := hv
    exact .inl ⟨rfl, rfl, rfl⟩
  · cases hv
    refine .inr ⟨_, rfl, hc, hm, fun i hi j hj => ⟨?_, hw i hi j hj⟩⟩
    have hadd : (⟨g, 0, none⟩ : Addr).add (i * 2 + j) = ⟨g, i * 2 + j, none⟩ := by unfold Addr.add; split <;> simp_all
    rw [hadd, h.cellAt (i * 2 + j) (by omega), cellsZ_get (by omega)]
    rw [show (i * 2 + j) / 2 = i by omega, show (i * 2 + j) % 2 = j by omega]
theorem rowS_wf {m : Nat} {w : World} {a : Option Addr} {len cap : Nat} {zs : Nat → Nat → Int} (h : IsRowS m w a len cap zs) : ∀ i, i < len → ∀ j, j < m → (Lit.int .i64 (zs i j)).wf = true := by
  intro i hi j hj
  rcases h with ⟨-, h0, -⟩ | ⟨x, -, -, -, hc⟩
  · omega
  · exact (hc i hi j hj).2
theorem fewN_few (len : Nat) : fewN (fewN len) = fewN len := Nat.min_eq_left (Nat.min_le_right _ _)
end Go.Proofs.YtafdijcolponjaaDoor

namespace Go.Proofs.YtafdijcolponjaaDoor
open Go.RowKit

def Enters (g : Nat) : Prop := ∀ args w, (callFunc g args).run Tryd.prog w = .ok (.enter g args) w
def AskEnds (w : World) (b : Bool) (e : Ending) (w' : World) : Prop := e = .returned (.bool b) ∧ Below w.heap.size w w'
def IdxFEnds (m : Nat) (p : Nat → Bool) (w : World) (e : Ending) (w' : World) : Prop :=
  Below w.heap.size w w' ∧ ((∃ k : Nat, k < m ∧ p k = true ∧ (∀ j, j < k → p j = false) ∧ e = .returned (.int .i64 k)) ∨ ((∀ j, j < m → p j = false) ∧ e = .returned (.int .i64 (-1))))
def IdxFRel (w : World) (m : Nat) (p : Nat → Bool) (i : Value) (wr : World) : Prop :=
  ∃ k : Nat, k ≤ m ∧ i = .int .i64 k ∧ Below w.heap.size w wr ∧ ∀ j, j < k → p j = false

theorem indexE_any (g : Nat) (lb : Array Value) (p : Nat → Bool) (eg : Enters g) (ad : Option Addr) (m c : Nat) (z : Nat → Nat → Int) (w : World) (hE : EdgesIn w ad m z)
    (hp : ∀ W i, i < m → Below w.heap.size w W → Calls Tryd.prog g (#[.agg #[.int .i64 (z i 0), .int .i64 (z i 1)]] ++ lb) W (AskEnds w (p i))) :
    Calls Tryd.prog 109 #[.slice ad m c, .func (.func g) #[] lb] w (IdxFEnds m p w) := by
  have hm := hE.1
  have HE := Lib.hid hE
  have HP := Lib.hid hp
  unfold Enters at eg
  clear hE hp
  go_enter Tryd.func109, Tryd.ntmps109
  go_wp2_with fail
  go_loopw [8] (fun i wr => IdxFRel w m p i wr) (fun i _ => m - (intOf i).toNat)
  case atStart => exact ⟨0, Nat.zero_le _, rfl, Below.refl _ _, fun j hj => absurd hj (Nat.not_lt_zero j)⟩
  case round =>
    obtain ⟨k, hk, rfl, hB, hall⟩ := hrel
    obtain ⟨wa, rfl⟩ : ∃ x, x = wr := ⟨_, rfl⟩
    have HAll := Lib.hid hall
    have HB := Lib.hid hB
    have HE2 := Lib.hid (HE.out.below hB (Nat.le_refl _))
    clear hall hB
    by_cases hlt : k < m
    · obtain ⟨g1, rfl, hg, hc⟩ := HE2.out.2 (by omega)
      obtain ⟨e0, e1⟩ := hc k hlt
      have hk0 : (0 : Int) ≤ (k : Int) := by omega
      have hk1 : (k : Int) < (m : Int) := by omega
      have hq := HP.out wa k hlt HB.out
      clear hc
      generalize z k 0 = x at *
      generalize z k 1 = y at *
      cases hpk : p k with
      | true =>
        rw [hpk] at hq
        have HQ := Lib.hid hq
        have HK := Lib.hid hpk
        clear hq hpk
        go_wp2_with (go_at_fn g; refine HQ.out.mono ?_; rintro e w' ⟨rfl, hb'⟩)
        have HB' := Lib.hid hb'
        clear hb'
        go_ret
        exact ⟨HB'.out, .inl ⟨k, hlt, HK.out, HAll.out, rfl⟩⟩
      | false =>
        rw [hpk] at hq
        have HQ := Lib.hid hq
        have HK := Lib.hid hpk
        clear hq hpk
        go_wp2_with (go_at_fn g; refine HQ.out.mono ?_; rintro e w' ⟨rfl, hb'⟩)
        have HB' := Lib.hid hb'
        clear hb'
        go_roundw
        case rel =>
          refine ⟨k + 1, hlt, by go_num, HB'.out, fun j hj => ?_⟩
          by_cases hjk : j < k
          · exact HAll.out j hjk
          · obtain rfl : j = k := by omega
            exact HK.out
        case measure => simp [intOf]; omega
    · obtain rfl : k = m := by omega
      go_wp2_with fail
      go_ret
      exact ⟨HB.out, .inr ⟨HAll.out, rfl⟩⟩

theorem any_idx {m : Nat} {p : Nat → Bool} {k : Nat} (hk : k < m) (h : p k = true) : (List.range m).any p = true := List.any_eq_true.2 ⟨k, List.mem_range.2 hk, h⟩
theorem any_none {m : Nat} {p : Nat → Bool} (h : ∀ j, j < m → p j = false) : (List.range m).any p = false := by
  rw [Bool.eq_false_iff]
  intro ht
  obtain ⟨k, hk, hpk⟩ := List.any_eq_true.1 ht
  rw [h k (List.mem_range.1 hk)] at hpk; cases hpk

theorem containsE_any (g : Nat) (lb : Array Value) (p : Nat → Bool) (eg : Enters g) (ad : Option Addr) (m c : Nat) (z : Nat → Nat → Int) (w : World) (hE : EdgesIn w ad m z)
    (hp : ∀ W i, i < m → Below w.heap.size w W → Calls Tryd.prog g (#[.agg #[.int .i64 (z i 0), .int .i64 (z i 1)]] ++ lb) W (AskEnds w (p i))) :
    Calls Tryd.prog 92 #[.slice ad m c, .func (.func g) #[] lb] w (AskEnds w ((List.range m).any p)) := by
  have HI := Lib.hid (indexE_any g lb p eg ad m c z w hE hp)
  clear hE hp
  go_enter Tryd.func92, Tryd.ntmps92
  go_wp2_with fail
  go_fit HI.out
  rintro e w' ⟨hB, (⟨k, hk, hpk, -, rfl⟩ | ⟨hall, rfl⟩)⟩
  · have HB := Lib.hid hB
    have HA := Lib.hid (any_idx hk hpk)
    have hk0 : (0 : Int) ≤ (k : Int) := by omega
    clear hB hpk
    go_wp2_with fail
    go_ret
    exact ⟨ret_bool HA.out.symm, HB.out⟩
  · have HB := Lib.hid hB
    have HA := Lib.hid (any_none hall)
    clear hB hall
    go_wp2_with fail
    go_ret
    exact ⟨ret_bool HA.out.symm, HB.out⟩
end Go.Proofs.YtafdijcolponjaaDoor
