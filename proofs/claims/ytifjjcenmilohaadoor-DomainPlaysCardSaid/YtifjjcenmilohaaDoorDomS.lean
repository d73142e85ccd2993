/- What DomainPlays' walk carries. No program is walked here but Begin and Undo, as told by what was; no condition but those in each statement. -/
import Derived.Test.YtifjjcenmilohaaDoorDomR
namespace Go.Proofs.YtifjjcenmilohaaDoor
open Go.RowKit

theorem ok_more {T : TM} {N M : Nat} (h : T.ok N) (hle : N ≤ M) : T.ok M := ⟨h.ml, h.mc, h.ms, h.cc, Nat.le_trans h.cl hle⟩
theorem few_few (l : List Int) : fewD (fewD l) = fewD l := by
  unfold fewD
  rw [List.take_take, List.length_take]
  congr 1
  unfold fewK
  split <;> split <;> omega
theorem rbegin_any (r : Nat) (G sz X : List Nat) (T : TM) (N : Nat) (R : List (List Bool)) (hs : List KeptR) (w : World) (h : DRef w r G R hs) (hD : DRel sz X T R hs) (hk : T.ok N) (hn : sz.length ≤ 200) :
    Calls Tryd.prog 17 #[.pointer (some ⟨r, 0, none⟩)] w (fun e w' => ∃ hs', DRel sz X (beginF T).2 R hs' ∧ RDEnds r G (.int .i64 (beginF T).1) R hs' w e w') := by
  have hsz := hD.size
  have hml := hk.ml
  have hR : RowsOk R := by rw [hD.now]; exact rowsX_ok hD.ok hn
  unfold beginF
  by_cases hm : T.marks.length = 1000
  · rw [if_pos hm]
    exact (rbegin_full r G R hs w h (by omega)).mono fun e w' he => ⟨hs, hD, he⟩
  · rw [if_neg hm]
    exact (rbegin_some r G R hs w h hR (by omega)).mono fun e w' ⟨k, hkk, he⟩ => ⟨hs ++ [k], drel_begin hD hkk, he⟩
theorem rundo_any (r : Nat) (G sz X : List Nat) (T : TM) (N : Nat) (R : List (List Bool)) (hs : List KeptR) (w : World) (h : DRef w r G R hs) (hD : DRel sz X T R hs) (hk : T.ok N) :
    Calls Tryd.prog 19 #[.pointer (some ⟨r, 0, none⟩)] w (fun e w' => ∃ X' R' hs', DRel sz X' (undoF T).2 R' hs' ∧ RDEnds r G (.int .i64 (undoF T).1) R' hs' w e w') := by
  have hsz := hD.size
  have hml := hk.ml
  by_cases hm : T.marks = []
  · have h0 : hs = [] := List.eq_nil_of_length_eq_zero (by rw [hsz, hm]; rfl)
    subst h0
    have hu : undoF T = (3, T) := by unfold undoF; rw [if_pos hm]
    rw [hu]
    exact (rundo_none r G R w h).mono fun e w' he => ⟨X, R, [], hD, he⟩
  · have hu : undoF T = (0, ⟨back (T.ch.drop (T.marks.getLastD 0)) T.cells, T.ch.take (T.marks.getLastD 0), T.marks.dropLast⟩) := by unfold undoF; rw [if_neg hm]
    rw [hu]
    have hne : hs ≠ [] := by
      rintro rfl
      exact hm (List.eq_nil_of_length_eq_zero hsz.symm)
    obtain ⟨hs', k, rfl⟩ : ∃ hs' k, hs = hs' ++ [k] := ⟨hs.dropLast, hs.getLast hne, (List.dropLast_concat_getLast hne).symm⟩
    obtain ⟨X', hX'⟩ := drel_undo hD hk hm
    have hl : hs'.length ≤ 1000 := by simp at hsz; omega
    exact (rundo_some r G R hs' k w h hl).mono fun e w' he => ⟨X', k.2.1, hs', hX', he⟩

theorem chg_newD {w0 W W' : World} {F F' : List Nat} (bel : Below w0.heap.size w0 W) (lF : ∀ k ∈ F, w0.heap.size ≤ k) (hF : ∀ k ∈ F', k ∈ F ∨ W.heap.size ≤ k) (hC : Chg (· ∈ F) W W') :
    Below w0.heap.size w0 W' ∧ ∀ k ∈ F', w0.heap.size ≤ k := by
  have hz := bel.size
  refine ⟨bel.trans (hC.below hz fun k hk hf => by have := lF k hf; omega), fun k hk => ?_⟩
  rcases hF k hk with h | h
  · exact lF k h
  · omega

/-- The domain, the document's domain, and the round's call, in memory, apart. -/
structure DX (w0 : World) (d r p : Nat) (o : Option Obj) (F G sz : List Nat) (T : TM) (R : List (List Bool)) (hs : List KeptR) (W : World) : Prop where
  dom : DomAt W d F sz T
  ref : DRef W r G R hs
  dis : ∀ k ∈ F, k ∉ G
  lF : ∀ k ∈ F, w0.heap.size ≤ k
  lG : ∀ k ∈ G, w0.heap.size ≤ k
  bel : Below w0.heap.size w0 W
  xo : ∀ u, o = some u → W.heap[p]? = some u ∧ p ∉ F ∧ p ∉ G
variable {w0 W W' : World} {d r p : Nat} {o : Option Obj} {F G sz : List Nat} {T T' : TM} {R R' : List (List Bool)} {hs hs' : List KeptR} {v : Value} {e : Ending}
theorem DX.goD (h : DX w0 d r p o F G sz T R hs W) (he : DEnds d F v sz T' W e W') : e = .returned v ∧ ∃ F', DX w0 d r p o F' G sz T' R hs W' := by
  obtain ⟨rfl, F', hD, hF, hC⟩ := he
  obtain ⟨hB, hl⟩ := chg_newD h.bel h.lF hF hC
  refine ⟨rfl, F', hD, h.ref.frame (fun k hk => hC.block k (h.ref.lt k hk) (fun hf => h.dis k hf hk)) hC.size, fun k hk hg => ?_, hl, h.lG, hB, fun u hu => ?_⟩
  · rcases hF k hk with e | e
    · exact h.dis k e hg
    · have := h.ref.lt k hg; omega
  · obtain ⟨x1, x2, x3⟩ := h.xo u hu
    have hp := lt_of_block x1
    refine ⟨(hC.block p hp x2).trans x1, fun hx => ?_, x3⟩
    rcases hF p hx with e | e
    · exact x2 e
    · omega
theorem DX.goR (h : DX w0 d r p o F G sz T R hs W) (he : RDEnds r G v R' hs' W e W') : e = .returned v ∧ ∃ G', DX w0 d r p o F G' sz T R' hs' W' := by
  obtain ⟨rfl, G', hD, hF, hC⟩ := he
  obtain ⟨hB, hl⟩ := chg_newD h.bel h.lG hF hC
  refine ⟨rfl, G', h.dom.frame (fun k hk => hC.block k (h.dom.lt k hk) (fun hf => h.dis k hk hf)), hD, fun k hk hg => ?_, h.lF, hl, hB, fun u hu => ?_⟩
  · rcases hF k hg with e | e
    · exact h.dis k hk e
    · have := h.dom.lt k hk; omega
  · obtain ⟨x1, x2, x3⟩ := h.xo u hu
    have hp := lt_of_block x1
    refine ⟨(hC.block p hp x3).trans x1, x2, fun hx => ?_⟩
    rcases hF p hx with e | e
    · exact x3 e
    · omega
theorem DX.below (h : DX w0 d r p o F G sz T R hs W) (hB : Below W.heap.size W W') : DX w0 d r p o F G sz T R hs W' :=
  ⟨h.dom.below hB (Nat.le_refl _), h.ref.below hB (Nat.le_refl _), h.dis, h.lF, h.lG, h.bel.trans (hB.mono h.bel.size), fun u hu => ⟨(hB.block p (lt_of_block (h.xo u hu).1)).trans (h.xo u hu).1, (h.xo u hu).2⟩⟩
theorem DX.same (h : DX w0 d r p o F G sz T R hs W) (hS : Same W W') : DX w0 d r p o F G sz T R hs W' := h.below hS.below
theorem DX.drew (h : DX w0 d r p o F G sz T R hs W) : DX w0 d r p o F G sz T R hs W.drew := h.same (Same.refl W).drew
theorem DX.alloc (h : DX w0 d r p o F G sz T R hs W) (o' : Obj) : DX w0 d r W.heap.size (some o') F G sz T R hs (W.alloc o') := by
  refine ⟨h.dom.alloc o', h.ref.below ((Below.refl _ _).alloc (Nat.le_refl _) o') (Nat.le_refl _), h.dis, h.lF, h.lG, h.bel.alloc h.bel.size _, fun u hu => ?_⟩
  cases hu
  refine ⟨heap_new _ _, fun hx => ?_, fun hx => ?_⟩
  · have := h.dom.lt _ hx; omega
  · have := h.ref.lt _ hx; omega

def DPlayRel (w0 : World) (d r m : Nat) (sz : List Nat) (i : Value) (wr : World) : Prop :=
  ∃ (k p : Nat) (o : Option Obj) (F G X : List Nat) (T : TM) (R : List (List Bool)) (hs : List KeptR), k ≤ m ∧ k ≤ 60 ∧ i = .int .i64 k ∧ DX w0 d r p o F G sz T R hs wr ∧ DRel sz X T R hs ∧ T.ok k
def DPlayCut (w0 : World) (d r p k : Nat) (o : Option Obj) (sz : List Nat) (ok : Value) (wr : World) : Prop :=
  ∃ (F G X : List Nat) (T : TM) (R : List (List Bool)) (hs : List KeptR), ok = .bool true ∧ DX w0 d r p o F G sz T R hs wr ∧ DRel sz X T R hs ∧ T.ok (k + 1)
end Go.Proofs.YtifjjcenmilohaaDoor
