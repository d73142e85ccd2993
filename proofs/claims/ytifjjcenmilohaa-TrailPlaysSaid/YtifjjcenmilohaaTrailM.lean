/- The program's trail and the document's go together: each call on both answers the same. Conditions: at most 1000 cells, changes as in each statement. -/
import Derived.Test.YtifjjcenmilohaaTrailJ
import Derived.Test.YtifjjcenmilohaaTrailL
namespace Go.Proofs.Ytifjjcenmilohaa
open Go.RowKit

/-- The document's trail says the same as the program's. -/
structure RRel (n : Nat) (T : TM) (now : List Int) (hs : List Kept) : Prop where
  cells : T.cells = now
  len : T.cells.length = n
  kept : hs.map (fun h => h.2.2) = T.marks.map fun m => back (T.ch.drop m) T.cells

theorem RRel.size {n : Nat} {T : TM} {now : List Int} {hs : List Kept} (h : RRel n T now hs) : hs.length = T.marks.length := by
  have := congrArg List.length h.kept
  simpa using this

def PEnds (r : Nat) (G : List Nat) (n : Nat) (v : Value) (T : TM) (w : World) (e : Ending) (w' : World) : Prop :=
  ∃ now hs, RRel n T now hs ∧ REnds r G n v now hs w e w'

theorem rrel_set {n N : Nat} {T : TM} {now : List Int} {hs : List Kept} (h : RRel n T now hs) (hk : T.ok N) {c : Nat} (hc : c < n) (v : Int) : RRel n (T.set c v) (now.set c v) hs := by
  refine ⟨by simp [TM.set, h.cells], by simp [TM.set, h.len], ?_⟩
  rw [h.kept]
  show T.marks.map _ = T.marks.map _
  refine List.map_congr_left fun m hm => ?_
  have hml : ¬ T.marks.length = 0 := by intro e; rw [List.eq_nil_of_length_eq_zero e] at hm; simp at hm
  simp only [TM.set, hml, if_false]
  rw [List.drop_append_of_le_length (hk.mc m hm), back_append]
  congr 1
  have hl : c < T.cells.length := by rw [h.len]; exact hc
  simp only [back, List.foldr_cons, List.foldr_nil, List.set_set]
  refine (List.ext_getElem (by simp) fun i h1 h2 => ?_)
  rw [List.getElem_set]
  split
  · rename_i e; subst e; simp [List.getD, hl]
  · rfl

theorem pset_any (r : Nat) (G : List Nat) (n N : Nat) (T : TM) (now : List Int) (hs : List Kept) (c v : Int) (w : World) (h : RefAt w r G n now hs) (hR : RRel n T now hs) (hk : T.ok N) :
    Calls Try.prog 9 #[.pointer (some ⟨r, 0, none⟩), .int .i64 c, .int .i64 v] w (PEnds r G n (.int .i64 (setF T c v).1) (setF T c v).2 w) := by
  have hl := hR.len
  by_cases hc : 0 ≤ c ∧ c < n
  · obtain ⟨h0, h1⟩ := hc
    unfold setF
    rw [if_pos (TM.has_yes h0 (by rw [hl]; exact h1))]
    obtain ⟨k, rfl⟩ := Int.eq_ofNat_of_zero_le h0
    rw [Int.toNat_natCast]
    exact (ref_set_yes r G n now hs k v w h (by omega)).mono fun e w' he => ⟨_, _, rrel_set hR hk (by omega) v, he⟩
  · unfold setF
    rw [if_neg (by rw [TM.has_no (by rw [hl]; omega)]; simp)]
    exact (ref_set_no r G n now hs c v w h (by omega)).mono fun e w' he => ⟨_, _, hR, he⟩

theorem pbegin_any (r : Nat) (G : List Nat) (n N : Nat) (T : TM) (now : List Int) (hs : List Kept) (w : World) (h : RefAt w r G n now hs) (hR : RRel n T now hs) (hk : T.ok N) (hn : n ≤ 1000) :
    Calls Try.prog 11 #[.pointer (some ⟨r, 0, none⟩)] w (PEnds r G n (.int .i64 (beginF T).1) (beginF T).2 w) := by
  have hs' := hR.size
  have hml := hk.ml
  unfold beginF
  by_cases hm : T.marks.length = 1000
  · rw [if_pos hm]
    exact (ref_begin_full r G n now hs w h (by omega)).mono fun e w' he => ⟨_, _, hR, he⟩
  · rw [if_neg hm]
    refine (ref_begin r G n now hs w h (by omega) hn).mono fun e w' ⟨k, hkk, he⟩ => ⟨_, _, ⟨hR.cells, hR.len, ?_⟩, he⟩
    simp only [List.map_append, hR.kept, List.map_cons, List.map_nil]
    rw [List.drop_length, hkk, ← hR.cells]
    rfl

theorem hs_split {hs : List Kept} {a : List (List Int)} {x : List Int} (h : hs.map (fun h => h.2.2) = a ++ [x]) :
    ∃ hs' k, hs = hs' ++ [k] ∧ hs'.map (fun h => h.2.2) = a ∧ k.2.2 = x := by
  have hne : hs ≠ [] := by rintro rfl; simp at h
  refine ⟨hs.dropLast, hs.getLast hne, (List.dropLast_concat_getLast hne).symm, ?_, ?_⟩
  · have := congrArg List.dropLast h
    rw [List.dropLast_concat, ← List.map_dropLast] at this
    exact this
  · rw [← List.dropLast_concat_getLast hne, List.map_append] at h
    have := (List.append_inj' h rfl).2
    simpa using this

theorem pend_any (r : Nat) (G : List Nat) (n N : Nat) (T : TM) (now : List Int) (hs : List Kept) (u : Bool) (w : World) (h : RefAt w r G n now hs) (hR : RRel n T now hs) (hk : T.ok N) :
    Calls Try.prog 13 #[.pointer (some ⟨r, 0, none⟩), .bool u] w
      (PEnds r G n (.int .i64 (if u then undoF T else keepF T).1) (if u then undoF T else keepF T).2 w) := by
  have hsz := hR.size
  have hml := hk.ml
  by_cases hm : T.marks = []
  · have h0 : hs = [] := List.eq_nil_of_length_eq_zero (by rw [hsz, hm]; rfl)
    subst h0
    have hu : undoF T = (3, T) := by unfold undoF; rw [if_pos hm]
    have hke : keepF T = (3, T) := by unfold keepF; rw [if_pos hm]
    rw [hu, hke]
    exact (ref_end_none r G n now u w h).mono fun e w' he => ⟨now, [], by cases u <;> exact hR, by cases u <;> exact he⟩
  · have hsp := last_split hm
    have hkept := hR.kept
    have hmem : T.marks.getLastD 0 ∈ T.marks := by
      have : T.marks.getLastD 0 ∈ T.marks.dropLast ++ [T.marks.getLastD 0] := by simp
      rwa [← hsp] at this
    have hpw := hk.ms
    rw [hsp] at hkept hpw
    rw [List.map_append] at hkept
    rw [List.pairwise_append] at hpw
    obtain ⟨hs', k, rfl, h1, h2⟩ := hs_split hkept
    have hlen' : hs'.length ≤ 1000 := by simp at hsz; omega
    have hu : undoF T = (0, ⟨back (T.ch.drop (T.marks.getLastD 0)) T.cells, T.ch.take (T.marks.getLastD 0), T.marks.dropLast⟩) := by unfold undoF; rw [if_neg hm]
    have hke : keepF T = (0, { T with marks := T.marks.dropLast }) := by unfold keepF; rw [if_neg hm]
    refine (ref_end r G n now hs' k u w h hlen').mono fun e w' he => ⟨if u then k.2.2 else now, hs', ?_, ?_⟩
    · cases u with
      | true =>
        simp only [if_true, hu]
        refine ⟨h2.symm, by simp [back_length, hR.len], ?_⟩
        rw [h1]
        refine List.map_congr_left fun m hmm => ?_
        have hle := hpw.2.2 m hmm _ (List.mem_singleton.2 rfl)
        rw [← back_append]
        congr 1
        have hlc := hk.mc _ hmem
        conv => lhs; rw [← List.take_append_drop (T.marks.getLastD 0) T.ch]
        rw [List.drop_append_of_le_length (by simp only [List.length_take]; omega)]
      | false =>
        simp only [hke, Bool.false_eq_true, if_false]
        exact ⟨hR.cells, hR.len, h1⟩
    · cases u with
      | true => simp only [if_true, hu] at he ⊢; exact he
      | false => simp only [hke, Bool.false_eq_true, if_false] at he ⊢; exact he
end Go.Proofs.Ytifjjcenmilohaa
