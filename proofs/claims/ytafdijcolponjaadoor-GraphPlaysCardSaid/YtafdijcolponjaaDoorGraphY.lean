/- Both graphs in memory, apart from each other; what GraphPlays' walk carries. No program is walked here; no condition but those in each statement. -/
import Derived.Test.YtafdijcolponjaaDoorGraphW
import Derived.Test.YtafdijcolponjaaDoorGraphS
namespace Go.Proofs.YtafdijcolponjaaDoor
open Go.RowKit

theorem chg_new {w0 w w' : World} {F F' : List Nat} (hB : Below w0.heap.size w0 w) (hF : ∀ k ∈ F, w0.heap.size ≤ k) (hF' : ∀ k ∈ F', k ∈ F ∨ w.heap.size ≤ k) (hC : Chg (· ∈ F) w w') :
    Below w0.heap.size w0 w' ∧ ∀ k ∈ F', w0.heap.size ≤ k := by
  have hz := hB.size
  refine ⟨hB.trans (hC.below hz fun j hj hjF => by have := hF j hjF; omega), fun k hk => ?_⟩
  rcases hF' k hk with h | h
  · exact hF k h
  · omega

/-- Both graphs in memory, and a block X of the round's own. -/
structure GX (w0 : World) (b r q X : Nat) (o : Option Obj) (F G : List Nat) (L M : List (Nat × Nat)) (wr : World) : Prop where
  gr : GrAt wr b F q L
  rf : RefG wr r G q M
  dis : ∀ k ∈ F, k ∉ G
  fb : ∀ k ∈ F, w0.heap.size ≤ k
  gb : ∀ k ∈ G, w0.heap.size ≤ k
  bel : Below w0.heap.size w0 wr
  xo : ∀ u, o = some u → wr.heap[X]? = some u ∧ X ∉ F ∧ X ∉ G

theorem GX.graph {w0 : World} {b r q X : Nat} {o : Option Obj} {F G : List Nat} {L M L' : List (Nat × Nat)} {wr w' : World} {v : Value} {e : Ending} (h : GX w0 b r q X o F G L M wr) (he : GrEnds b F v q L' wr e w') :
    e = .returned v ∧ ∃ F', GX w0 b r q X o F' G L' M w' := by
  obtain ⟨gr, rf, dis, fb, gb, bel, hxo⟩ := h
  obtain ⟨rfl, F', hG, hF, hC⟩ := he
  obtain ⟨hB, hF4⟩ := chg_new bel fb hF hC
  refine ⟨rfl, F', hG, rf.frame fun k hk => hC.block k (rf.lt k hk) (fun hf => dis k hf hk), fun k hk hg => ?_, hF4, gb, hB, fun u hu => ?_⟩
  · rcases hF k hk with e | e
    · exact dis k e hg
    · have := rf.lt k hg; omega
  · obtain ⟨xo, xf, xg⟩ := hxo u hu
    have hX := lt_of_block xo
    refine ⟨(hC.block X hX xf).trans xo, fun hx => ?_, xg⟩
    rcases hF X hx with e | e
    · exact xf e
    · omega
theorem GX.ref {w0 : World} {b r q X : Nat} {o : Option Obj} {F G : List Nat} {L M M' : List (Nat × Nat)} {wr w' : World} {v : Value} {e : Ending} (h : GX w0 b r q X o F G L M wr) (he : RGEnds r G v q M' wr e w') :
    e = .returned v ∧ ∃ G', GX w0 b r q X o F G' L M' w' := by
  obtain ⟨gr, rf, dis, fb, gb, bel, hxo⟩ := h
  obtain ⟨rfl, G', hR, hG, hC⟩ := he
  obtain ⟨hB, hG4⟩ := chg_new bel gb hG hC
  refine ⟨rfl, G', gr.frame fun k hk => hC.block k (gr.lt k hk) (fun hg => dis k hk hg), hR, fun k hk hg => ?_, fb, hG4, hB, fun u hu => ?_⟩
  · rcases hG k hg with e | e
    · exact dis k hk e
    · have := gr.lt k hk; omega
  · obtain ⟨xo, xf, xg⟩ := hxo u hu
    have hX := lt_of_block xo
    refine ⟨(hC.block X hX xg).trans xo, xf, fun hx => ?_⟩
    rcases hG X hx with e | e
    · exact xg e
    · omega
theorem GX.below {w0 : World} {b r q X : Nat} {o : Option Obj} {F G : List Nat} {L M : List (Nat × Nat)} {wr w' : World} (h : GX w0 b r q X o F G L M wr) (hB : Below wr.heap.size wr w') : GX w0 b r q X o F G L M w' := by
  obtain ⟨gr, rf, dis, fb, gb, bel, hxo⟩ := h
  refine ⟨gr.below hB (Nat.le_refl _), rf.frame fun k hk => hB.block k (rf.lt k hk), dis, fb, gb, bel.trans (hB.mono bel.size), fun u hu => ?_⟩
  obtain ⟨xo, xf, xg⟩ := hxo u hu
  exact ⟨(hB.block X (lt_of_block xo)).trans xo, xf, xg⟩
theorem GX.same {w0 : World} {b r q X : Nat} {o : Option Obj} {F G : List Nat} {L M : List (Nat × Nat)} {wr w' : World} (h : GX w0 b r q X o F G L M wr) (hS : Same wr w') : GX w0 b r q X o F G L M w' := h.below hS.below
theorem GX.drew {w0 : World} {b r q X : Nat} {o : Option Obj} {F G : List Nat} {L M : List (Nat × Nat)} {wr : World} (h : GX w0 b r q X o F G L M wr) : GX w0 b r q X o F G L M wr.drew := h.same (Same.refl wr).drew
theorem GX.alloc {w0 : World} {b r q X : Nat} {o : Option Obj} {F G : List Nat} {L M : List (Nat × Nat)} {wr : World} (h : GX w0 b r q X o F G L M wr) (o' : Obj) : GX w0 b r q wr.heap.size (some o') F G L M (wr.alloc o') := by
  obtain ⟨gr, rf, dis, fb, gb, bel, -⟩ := h
  refine ⟨gr.alloc o', rf.frame fun k hk => heap_alloc_lt (rf.lt k hk), dis, fb, gb, bel.alloc bel.size _, fun u hu => ?_⟩
  cases hu
  refine ⟨heap_new _ _, fun hx => ?_, fun hx => ?_⟩
  · have := gr.lt _ hx; omega
  · have := rf.lt _ hx; omega

def GPlayRel (w0 : World) (b r q m : Nat) (i : Value) (wr : World) : Prop :=
  ∃ (k : Nat) (F G : List Nat) (L : List (Nat × Nat)), k ≤ m ∧ i = .int .i64 k ∧ ∃ X o, GX w0 b r q X o F G L L wr
/-- Behind a switch's arm: both have gone on, and answered the same. -/
def GPlayCut (w0 : World) (b r q X : Nat) (o : Option Obj) (ok : Value) (wr : World) : Prop :=
  ∃ (F G : List Nat) (L : List (Nat × Nat)), ok = .bool true ∧ GX w0 b r q X o F G L L wr

/-- A list that a call made, as SameInts reads it. -/
theorem src_list {w : World} {base n : Nat} {v : Value} {l : List Int} (h : w.ownsRow base 3 1 v n (intl l)) : ∃ ad c, v = .slice ad n c ∧ Src w ad n c 1 (intl l) := by
  rcases owns_shape h with ⟨rfl, h0⟩ | ⟨g, c, rfl, -, -⟩
  · subst h0
    have hl : l = [] := by have := h.1; simpa [intl] using this
    subst hl
    exact ⟨none, 0, rfl, rfl, fun _ => ⟨rfl, rfl⟩, Nat.le_refl _, by unfold maxLen; omega, fun x hx => (by cases hx), fun x hx => by simp [intl] at hx⟩
  · exact ⟨_, c, rfl, src_owned h⟩

theorem rowS_of_owns {w : World} {base m c : Nat} {ad : Option Addr} {z : Nat → Nat → Int} (h : w.ownsRow base 61 2 (.slice ad m c) m (cellsZ z m)) (hw : ∀ i, i < m → ∀ j, j < 2 → (Lit.int .i64 (z i j)).wf = true) : IsRowS 2 w ad m c z := by
  rcases owns_shape h with ⟨hv, h0⟩ | ⟨g, cap, hv, hc, hm⟩
  · simp only [Value.slice.injEq] at hv
    obtain ⟨rfl, rfl, rfl⟩ := hv
    exact .inl ⟨rfl, rfl, rfl⟩
  · cases hv
    refine .inr ⟨_, rfl, hc, hm, fun i hi j hj => ⟨?_, hw i hi j hj⟩⟩
    have hadd : (⟨g, 0, none⟩ : Addr).add (i * 2 + j) = ⟨g, i * 2 + j, none⟩ := by unfold Addr.add; split <;> simp_all
    rw [hadd, h.cellAt (i * 2 + j) (by omega), cellsZ_get (by omega)]
    rw [show (i * 2 + j) / 2 = i by omega, show (i * 2 + j) % 2 = j by omega]
theorem rowS_wf {m : Nat} {w : World} {a : Option Addr} {len cap : Nat} {zs : Nat → Nat → Int} (h : IsRowS m w a len cap zs) : ∀ i, i < len → ∀ j, j < m → (Lit.int .i64 (zs i j)).wf = true := by
  intro i hi j hj
  rcases h with ⟨-, h0, -⟩ | ⟨x, -, -, -, hc⟩
  · omega
  · exact (hc i hi j hj).2
theorem fewN_few (len : Nat) : fewN (fewN len) = fewN len := Nat.min_eq_left (Nat.min_le_right _ _)
end Go.Proofs.YtafdijcolponjaaDoor
