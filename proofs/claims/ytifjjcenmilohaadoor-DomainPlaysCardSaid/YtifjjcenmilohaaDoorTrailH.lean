/- The contracts of all calls on a trail that is none, and the walk of the chapter's example. No condition but those in each statement. -/
import Derived.Test.YtifjjcenmilohaaDoorTrailG
namespace Go.Proofs.YtifjjcenmilohaaDoor
open Go.RowKit

/-- A trail that is none: no pointer, or one to a trail that no call made. -/
def NoTrail (w : World) (p : Option Addr) : Prop :=
  p = none ∨ ∃ b, p = some ⟨b, 0, none⟩ ∧ w.heap[b]? = some (.cells #[.slice none 0 0, .slice none 0 0, .slice none 0 0, .bool false] 64 (0, 0))

theorem no_is (p : Option Addr) (w : World) (h : NoTrail w p) :
    Calls Tryd.prog 40 #[.pointer p] w fun e w' => e = .returned (.bool false) ∧ w = w' := by
  rcases h with rfl | ⟨b, rfl, h1⟩
  · go_enter Tryd.func40, Tryd.ntmps40
    go_wp2
    go_ret
    exact ⟨rfl, rfl⟩
  · have c3 : w.cell? ⟨b, 3, none⟩ = some (.bool false) := cell_at 3 h1 rfl
    clear h1
    go_enter Tryd.func40, Tryd.ntmps40
    go_wp2
    go_ret
    exact ⟨rfl, rfl⟩

theorem no_has (p : Option Addr) (c : Int) (w : World) (h : NoTrail w p) :
    Calls Tryd.prog 44 #[.pointer p, .int .i64 c] w fun e w' => e = .returned (.bool false) ∧ w = w' := by
  have his := Lib.hid (no_is p w h)
  clear h
  go_enter Tryd.func44, Tryd.ntmps44
  go_wp2_with fail
  refine his.out.mono ?_
  rintro e w' ⟨rfl, rfl⟩
  go_wp2_with fail
  go_ret
  exact ⟨rfl, rfl⟩

theorem no_set (p : Option Addr) (c v : Int) (w : World) (h : NoTrail w p) :
    Calls Tryd.prog 37 #[.pointer p, .int .i64 c, .int .i64 v] w fun e w' => e = .returned (.int .i64 4) ∧ w = w' := by
  have his := Lib.hid (no_is p w h)
  clear h
  go_enter Tryd.func37, Tryd.ntmps37
  go_wp2_with fail
  refine his.out.mono ?_
  rintro e w' ⟨rfl, rfl⟩
  go_wp2_with fail
  go_ret
  exact ⟨rfl, rfl⟩

theorem no_get (p : Option Addr) (c : Int) (w : World) (h : NoTrail w p) :
    Calls Tryd.prog 39 #[.pointer p, .int .i64 c] w fun e w' => e = .returned (.int .i64 0) ∧ w = w' := by
  have his := Lib.hid (no_has p c w h)
  clear h
  go_enter Tryd.func39, Tryd.ntmps39
  go_wp2_with fail
  refine his.out.mono ?_
  rintro e w' ⟨rfl, rfl⟩
  go_wp2_with fail
  go_ret
  exact ⟨rfl, rfl⟩

theorem no_begin (p : Option Addr) (w : World) (h : NoTrail w p) :
    Calls Tryd.prog 32 #[.pointer p] w fun e w' => e = .returned (.int .i64 4) ∧ w = w' := by
  have his := Lib.hid (no_is p w h)
  clear h
  go_enter Tryd.func32, Tryd.ntmps32
  go_wp2_with fail
  refine his.out.mono ?_
  rintro e w' ⟨rfl, rfl⟩
  go_wp2_with fail
  go_ret
  exact ⟨rfl, rfl⟩

theorem no_end (p : Option Addr) (w : World) (h : NoTrail w p) :
    Calls Tryd.prog 41 #[.pointer p] w fun e w' => e = .returned (.tuple #[.int .i64 0, .int .i64 4]) ∧ w = w' := by
  have his := Lib.hid (no_is p w h)
  clear h
  go_enter Tryd.func41, Tryd.ntmps41
  go_wp2_with fail
  refine his.out.mono ?_
  rintro e w' ⟨rfl, rfl⟩
  go_wp2_with fail
  go_ret2
  exact ⟨rfl, rfl⟩

theorem no_undo (p : Option Addr) (w : World) (h : NoTrail w p) :
    Calls Tryd.prog 34 #[.pointer p] w fun e w' => e = .returned (.int .i64 4) ∧ w = w' := by
  have his := Lib.hid (no_end p w h)
  clear h
  go_enter Tryd.func34, Tryd.ntmps34
  go_wp2_with fail
  refine his.out.mono ?_
  rintro e w' ⟨rfl, rfl⟩
  go_wp2_with fail
  go_ret
  exact ⟨rfl, rfl⟩

/-- Behind a change of a trail that the call made. -/
theorem TEnds.below {F F' : List Nat} {w0 w w' : World} (hB : Below w0.heap.size w0 w) (hF : ∀ k ∈ F, w0.heap.size ≤ k)
    (h : ∀ k ∈ F', k ∈ F ∨ w.heap.size ≤ k) (hC : Chg (· ∈ F) w w') : Below w0.heap.size w0 w' ∧ (∀ k ∈ F', w0.heap.size ≤ k) := by
  have hs := hB.size
  exact ⟨hB.trans (below_chg hC hs hF), fun k hk => by rcases h k hk with g | g; exact hF k g; omega⟩

/-- What the calls make of a trail, in one function each. -/
def setF (T : TM) (c v : Int) : Int × TM := if T.has c then (0, T.set c.toNat v) else (2, T)
def beginF (T : TM) : Int × TM := if T.marks.length = 1000 then (7, T) else (0, { T with marks := T.marks ++ [T.ch.length] })
def undoF (T : TM) : Int × TM :=
  if T.marks = [] then (3, T) else (0, ⟨back (T.ch.drop (T.marks.getLastD 0)) T.cells, T.ch.take (T.marks.getLastD 0), T.marks.dropLast⟩)
def keepF (T : TM) : Int × TM := if T.marks = [] then (3, T) else (0, { T with marks := T.marks.dropLast })

/-- What holds of every trail that calls have made: at most N changes. -/
structure TM.ok (T : TM) (N : Nat) : Prop where
  ml : T.marks.length ≤ 1000
  mc : ∀ m ∈ T.marks, m ≤ T.ch.length
  ms : T.marks.Pairwise (· ≤ ·)
  cc : ∀ x ∈ T.ch, x.1 < T.cells.length
  cl : T.ch.length ≤ N

theorem same_tends {b : Nat} {F : List Nat} {T : TM} {w : World} {v : Value} (h : TrailAt w b F T) : TEnds b F v T w (.returned v) w :=
  ⟨rfl, F, h, fun _ hk => .inl hk, Chg.refl _ _⟩

theorem set_any (b : Nat) (F : List Nat) (T : TM) (c v : Int) (w : World) (h : TrailAt w b F T) {N : Nat} (hk : T.ok N) (hN : N ≤ 1099511627776) :
    Calls Tryd.prog 37 #[.pointer (some ⟨b, 0, none⟩), .int .i64 c, .int .i64 v] w (TEnds b F (.int .i64 (setF T c v).1) (setF T c v).2 w) := by
  have hcl := hk.cl
  by_cases hc : 0 ≤ c ∧ c < T.cells.length
  · obtain ⟨h0, hl⟩ := hc
    unfold setF
    rw [if_pos (TM.has_yes h0 hl)]
    obtain ⟨n, rfl⟩ := Int.eq_ofNat_of_zero_le h0
    rw [Int.toNat_natCast]
    by_cases hm : T.marks = []
    · exact set_flat b F T n v w h (by omega) hm
    · exact set_deep b F T n v w h (by omega) (fun e => hm (List.eq_nil_of_length_eq_zero e)) (by omega)
  · unfold setF
    rw [if_neg (by rw [TM.has_no (by omega)]; simp)]
    exact (set_no b F T c v w h (by omega)).mono fun e w' ⟨he, hw⟩ => by subst he hw; exact same_tends h

theorem begin_any (b : Nat) (F : List Nat) (T : TM) (w : World) (h : TrailAt w b F T) {N : Nat} (hk : T.ok N) (hN : N ≤ 1099511627776) :
    Calls Tryd.prog 32 #[.pointer (some ⟨b, 0, none⟩)] w (TEnds b F (.int .i64 (beginF T).1) (beginF T).2 w) := by
  have hcl := hk.cl
  have hml := hk.ml
  unfold beginF
  by_cases hm : T.marks.length = 1000
  · rw [if_pos hm]
    exact (begin_full b F T w h hm).mono fun e w' ⟨he, hw⟩ => by subst he hw; exact same_tends h
  · rw [if_neg hm]
    exact begin_ok b F T w h (by omega) (by omega)

theorem last_split {l : List Nat} (h : l ≠ []) : l = l.dropLast ++ [l.getLastD 0] := by
  rw [List.getLastD_eq_getLast?, List.getLast?_eq_some_getLast h]
  exact (List.dropLast_concat_getLast h).symm

theorem undo_any (b : Nat) (F : List Nat) (T : TM) (w : World) (h : TrailAt w b F T) {N : Nat} (hk : T.ok N) (hN : N ≤ 1099511627776) :
    Calls Tryd.prog 34 #[.pointer (some ⟨b, 0, none⟩)] w (TEnds b F (.int .i64 (undoF T).1) (undoF T).2 w) := by
  have hcl := hk.cl
  unfold undoF
  by_cases hm : T.marks = []
  · rw [if_pos hm]
    exact (undo_none b F T w h hm).mono fun e w' ⟨he, hw⟩ => by subst he hw; exact same_tends h
  · rw [if_neg hm]
    have hs := last_split hm
    have hmem : T.marks.getLastD 0 ∈ T.marks := by
      have : T.marks.getLastD 0 ∈ T.marks.dropLast ++ [T.marks.getLastD 0] := by simp
      rwa [← hs] at this
    have h' : TrailAt w b F ⟨T.cells, T.ch, T.marks.dropLast ++ [T.marks.getLastD 0]⟩ := by rw [← hs]; exact h
    exact undo_some b F T.cells T.ch T.marks.dropLast (T.marks.getLastD 0) w h' (hk.mc _ hmem) hk.cc (by omega)

theorem ok_new (n : Nat) (N : Nat) : (⟨List.replicate n 0, [], []⟩ : TM).ok N :=
  ⟨by simp, by simp, by simp, by simp, by simp⟩

theorem ok_set {T : TM} {N : Nat} (h : T.ok N) (c v : Int) : (setF T c v).2.ok (N + 1) := by
  unfold setF
  split
  · rename_i hc
    have hc' : 0 ≤ c ∧ c < T.cells.length := of_decide_eq_true hc
    unfold TM.set
    by_cases hm : T.marks.length = 0
    · refine ⟨h.ml, ?_, h.ms, ?_, ?_⟩
      · intro m hmm
        have : T.marks = [] := List.eq_nil_of_length_eq_zero hm
        simp [this] at hmm
      · simp only [hm, if_true, List.length_set]; exact h.cc
      · simp only [hm, if_true]; exact Nat.le_succ_of_le h.cl
    · refine ⟨h.ml, ?_, h.ms, ?_, ?_⟩
      · intro m hmm
        have := h.mc m hmm
        simp only [hm, if_false, List.length_append, List.length_singleton]; omega
      · intro x hx
        simp only [hm, if_false, List.mem_append, List.mem_singleton] at hx
        simp only [List.length_set]
        rcases hx with hx | rfl
        · exact h.cc x hx
        · simp only; omega
      · have := h.cl
        simp only [hm, if_false, List.length_append, List.length_singleton]; omega
  · exact ⟨h.ml, h.mc, h.ms, h.cc, Nat.le_succ_of_le h.cl⟩

theorem ok_begin {T : TM} {N : Nat} (h : T.ok N) : (beginF T).2.ok N := by
  unfold beginF
  split
  · exact h
  · have := h.ml
    refine ⟨by simp; omega, ?_, ?_, h.cc, h.cl⟩
    · intro m hm
      simp only [List.mem_append, List.mem_singleton] at hm
      rcases hm with hm | rfl
      · exact h.mc m hm
      · exact Nat.le_refl _
    · rw [List.pairwise_append]
      exact ⟨h.ms, by simp, fun a ha b hb => by simp at hb; subst hb; exact h.mc a ha⟩

theorem mem_dropLast {l : List Nat} {x : Nat} (h : x ∈ l.dropLast) : x ∈ l := List.dropLast_subset l h

theorem ok_keep {T : TM} {N : Nat} (h : T.ok N) : (keepF T).2.ok N := by
  unfold keepF
  split
  · exact h
  · have := h.ml
    exact ⟨by simp; omega, fun m hm => h.mc m (mem_dropLast hm), h.ms.sublist (List.dropLast_sublist _), h.cc, h.cl⟩

theorem ok_undo {T : TM} {N : Nat} (h : T.ok N) : (undoF T).2.ok N := by
  unfold undoF
  split
  · exact h
  · rename_i hm
    have hml := h.ml
    have hcl := h.cl
    have hs := last_split hm
    have hmem : T.marks.getLastD 0 ∈ T.marks := by
      have : T.marks.getLastD 0 ∈ T.marks.dropLast ++ [T.marks.getLastD 0] := by simp
      rwa [← hs] at this
    have hle := h.mc _ hmem
    have hpw := h.ms
    rw [hs, List.pairwise_append] at hpw
    refine ⟨by simp; omega, ?_, h.ms.sublist (List.dropLast_sublist _), ?_, by simp; omega⟩
    · intro m hm'
      have := hpw.2.2 m hm' _ (List.mem_singleton.2 rfl)
      simp only [List.length_take]; omega
    · intro x hx
      simp only [back_length]
      exact h.cc x (List.mem_of_mem_take hx)

end Go.Proofs.YtifjjcenmilohaaDoor
