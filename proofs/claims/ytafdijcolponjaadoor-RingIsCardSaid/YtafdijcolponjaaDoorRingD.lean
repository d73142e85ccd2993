/- What a search back from a node tells step by step, in plain Lean; the contract of its inner test. Conditions: those in each statement. -/
import Derived.Test.YtafdijcolponjaaDoorRingC
namespace Go.Proofs.YtafdijcolponjaaDoor
open Go.RowKit

theorem snoc_ind {α : Type} {motive : List α → Prop} (nil : motive []) (snoc : ∀ l x, motive l → motive (l ++ [x])) (l : List α) : motive l := by
  rw [← List.reverse_reverse l]
  induction l.reverse with
  | nil => exact nil
  | cons x l ih => rw [List.reverse_cons]; exact snoc _ x ih
noncomputable def dS (L : List (Nat × Nat)) (t s a : Nat) : Int := if t ≤ a then (match distO L t s a with | some j => (j : Int) | none => -1) else -1
open Classical in
noncomputable def dM (L : List (Nat × Nat)) (t s : Nat) (P : List Nat) (a : Nat) : Int := if t ≤ a ∧ distO L t s a = none ∧ a ∈ P then (s : Int) else dS L t s a
noncomputable def dML (n : Nat) (L : List (Nat × Nat)) (t s : Nat) (P : List Nat) : List Int := (List.range n).map (dM L t s P)
noncomputable def nxF (L : List (Nat × Nat)) (t s : Nat) (P : List Nat) : List Nat := P.foldl (fun X a => if t < a ∧ distO L t s a = none ∧ a ∉ X then X ++ [a] else X) []
variable {L : List (Nat × Nat)} {t s n a : Nat} {P : List Nat}
theorem dML_len : (dML n L t s P).length = n := by simp [dML]
theorem dML_at (h : a < n) : (dML n L t s P).getD a 0 = dM L t s P a := by simp [dML, h]
theorem nxF_snoc : nxF L t s (P ++ [a]) = if t < a ∧ distO L t s a = none ∧ a ∉ nxF L t s P then nxF L t s P ++ [a] else nxF L t s P := by
  unfold nxF; rw [List.foldl_append]; rfl
theorem mem_nxF : ∀ (P : List Nat) (a : Nat), a ∈ nxF L t s P ↔ a ∈ P ∧ t < a ∧ distO L t s a = none := by
  intro P
  induction P using snoc_ind with
  | nil => intro a; simp [nxF]
  | snoc P x ih =>
    intro a
    rw [nxF_snoc, List.mem_append, List.mem_singleton]
    split
    · rename_i hc
      rw [List.mem_append, List.mem_singleton, ih]
      constructor
      · rintro (⟨h1, h2⟩ | rfl)
        · exact ⟨.inl h1, h2⟩
        · exact ⟨.inr rfl, hc.1, hc.2.1⟩
      · rintro ⟨h1 | rfl, h2⟩
        · exact .inl ⟨h1, h2⟩
        · exact .inr rfl
    · rename_i hc
      rw [ih]
      constructor
      · rintro ⟨h1, h2⟩; exact ⟨.inl h1, h2⟩
      · rintro ⟨h1 | rfl, h2⟩
        · exact ⟨h1, h2⟩
        · refine Classical.byContradiction fun hn => hc ⟨h2.1, h2.2, fun hm => hn ((ih a).1 hm)⟩
theorem dM_neg (hs : 1 ≤ s) : dM L t s P a < 0 ↔ (a < t ∨ (distO L t s a = none ∧ a ∉ P)) := by
  unfold dM dS
  by_cases hta : t ≤ a
  · cases hd : distO L t s a with
    | none =>
      by_cases hp : a ∈ P
      · rw [if_pos ⟨hta, rfl, hp⟩]
        constructor
        · intro h; omega
        · rintro (h | h)
          · omega
          · exact absurd hp h.2
      · rw [if_neg (fun h => hp h.2.2), if_pos hta]
        exact ⟨fun _ => .inr ⟨rfl, hp⟩, fun _ => by show (-1 : Int) < 0; omega⟩
    | some j =>
      rw [if_neg (fun h => by cases h.2.1), if_pos hta]
      constructor
      · intro h
        have h' : ((j : Nat) : Int) < 0 := h
        omega
      · rintro (h | h)
        · omega
        · cases h.1
  · rw [if_neg (fun h => hta h.1), if_neg hta]
    exact ⟨fun _ => .inl (by omega), fun _ => by omega⟩
theorem dM_snoc_set (hta : t ≤ a) (hd : distO L t s a = none) (ha : a < n) : (dML n L t s P).set a (s : Int) = dML n L t s (P ++ [a]) := by
  refine List.ext_getElem (by simp [dML]) fun i h1 h2 => ?_
  simp only [dML, List.getElem_set, List.getElem_map, List.getElem_range]
  unfold dM
  by_cases e : a = i
  · subst e
    rw [if_pos rfl, if_pos ⟨hta, hd, by simp⟩]
  · rw [if_neg e]
    have hm : i ∈ P ++ [a] ↔ i ∈ P := by simp [Ne.symm e]
    by_cases hp : t ≤ i ∧ distO L t s i = none ∧ i ∈ P
    · rw [if_pos hp, if_pos ⟨hp.1, hp.2.1, hm.2 hp.2.2⟩]
    · rw [if_neg hp, if_neg (fun h => hp ⟨h.1, h.2.1, hm.1 h.2.2⟩)]
theorem dM_snoc_same (h : ¬ (t ≤ a ∧ distO L t s a = none ∧ a ∉ P)) : dML n L t s (P ++ [a]) = dML n L t s P := by
  unfold dML
  refine List.map_congr_left fun i _ => ?_
  unfold dM
  by_cases hp : t ≤ i ∧ distO L t s i = none ∧ i ∈ P
  · rw [if_pos hp, if_pos ⟨hp.1, hp.2.1, by simp [hp.2.2]⟩]
  · rw [if_neg hp, if_neg]
    rintro ⟨h1, h2, h3⟩
    rcases List.mem_append.1 h3 with h3 | h3
    · exact hp ⟨h1, h2, h3⟩
    · have hia := List.mem_singleton.1 h3
      subst hia
      exact h ⟨h1, h2, fun hm => hp ⟨h1, h2, hm⟩⟩
theorem nxF_same (h : ¬ (t < a ∧ distO L t s a = none ∧ a ∉ P)) : nxF L t s (P ++ [a]) = nxF L t s P := by
  rw [nxF_snoc, if_neg]
  rintro ⟨h1, h2, h3⟩
  exact h ⟨h1, h2, fun hm => h3 ((mem_nxF P a).2 ⟨hm, h1, h2⟩)⟩
theorem nxF_new (h1 : t < a) (h2 : distO L t s a = none) (h3 : a ∉ P) : nxF L t s (P ++ [a]) = nxF L t s P ++ [a] := by
  rw [nxF_snoc, if_pos ⟨h1, h2, fun hm => h3 ((mem_nxF P a).1 hm).1⟩]
theorem dM_done {wait : List Nat} (hs : 1 ≤ s) (hw : ∀ b, b ∈ wait ↔ Front L t s b) (hP : ∀ a, a ∈ P ↔ ∃ b ∈ wait, (a, b) ∈ L) : dML n L t s P = (List.range n).map (dS L t (s + 1)) := by
  unfold dML
  refine List.map_congr_left fun i _ => ?_
  unfold dM
  by_cases hti : t ≤ i
  · cases hd : distO L t s i with
    | some j =>
      rw [if_neg (fun h => by cases h.2.1)]
      unfold dS
      rw [if_pos hti, if_pos hti, distO_succ_old hd, hd]
    | none =>
      have hl := front_lead hs hd
      by_cases hp : i ∈ P
      · rw [if_pos ⟨hti, rfl, hp⟩]
        obtain ⟨b, hb, he⟩ := (hP i).1 hp
        unfold dS
        rw [if_pos hti, distO_succ_new hd (hl.2 ⟨b, (hw b).1 hb, he⟩)]
      · rw [if_neg (fun h => hp h.2.2)]
        unfold dS
        rw [if_pos hti, if_pos hti, hd, distO_succ_none hd (fun h => by
          obtain ⟨b, hb, he⟩ := hl.1 h
          exact hp ((hP i).2 ⟨b, (hw b).2 hb, he⟩))]
  · rw [if_neg (fun h => hti h.1)]
    unfold dS
    rw [if_neg hti, if_neg hti]
theorem nxF_done {wait : List Nat} (hs : 1 ≤ s) (hw : ∀ b, b ∈ wait ↔ Front L t s b) (hP : ∀ a, a ∈ P ↔ ∃ b ∈ wait, (a, b) ∈ L) : ∀ a, a ∈ nxF L t s P ↔ Front L t (s + 1) a := by
  intro a
  obtain ⟨q, rfl⟩ : ∃ q, s = q + 1 := ⟨s - 1, by omega⟩
  rw [mem_nxF]
  show _ ↔ (t < a ∧ distO L t (q + 1) a = none ∧ Lead L t (q + 1) a)
  constructor
  · rintro ⟨h1, h2, h3⟩
    obtain ⟨b, hb, he⟩ := (hP a).1 h1
    exact ⟨h2, h3, (front_lead hs h3).2 ⟨b, (hw b).1 hb, he⟩⟩
  · rintro ⟨h1, h2, h3⟩
    obtain ⟨b, hb, he⟩ := (front_lead hs h2).1 h3
    exact ⟨(hP a).2 ⟨b, (hw b).2 hb, he⟩, h1, h2⟩
/-- How many nodes are not told yet. -/
noncomputable def unk (n : Nat) (L : List (Nat × Nat)) (t s : Nat) : Nat := ((List.range n).filter fun a => decide (t < a) && (distO L t s a).isNone).length
theorem unk_less (hL : ∀ e ∈ L, e.1 < n ∧ e.2 < n) (hs : 1 ≤ s) (h : Front L t (s + 1) a) : unk n L t (s + 1) + 1 ≤ unk n L t s := by
  obtain ⟨q, rfl⟩ : ∃ q, s = q + 1 := ⟨s - 1, by omega⟩
  obtain ⟨h1, h2, h3⟩ : t < a ∧ distO L t (q + 1) a = none ∧ Lead L t (q + 1) a := h
  have han := (h3.reach.lt hL).1
  unfold unk
  have hn : a ∉ (List.range n).filter fun a => decide (t < a) && (distO L t (q + 1 + 1) a).isNone := fun hm => by
    have := (List.mem_filter.1 hm).2
    rw [distO_succ_new h2 h3] at this
    simp at this
  have := len_le_of_sub (l := a :: (List.range n).filter fun a => decide (t < a) && (distO L t (q + 1 + 1) a).isNone) (m := (List.range n).filter fun a => decide (t < a) && (distO L t (q + 1) a).isNone)
    (List.nodup_cons.2 ⟨hn, List.Nodup.sublist List.filter_sublist List.nodup_range⟩) fun x hx => by
      rcases List.mem_cons.1 hx with rfl | hx
      · exact List.mem_filter.2 ⟨List.mem_range.2 han, by rw [decide_eq_true h1, h2]; rfl⟩
      · obtain ⟨m1, m2⟩ := List.mem_filter.1 hx
        rw [Bool.and_eq_true] at m2
        refine List.mem_filter.2 ⟨m1, ?_⟩
        rw [m2.1, Bool.true_and]
        cases hd : distO L t (q + 1) x with
        | none => rfl
        | some j => rw [distO_succ_old hd] at m2; cases m2.2
  simpa using this
theorem unk_mono : unk n L t (s + 1) ≤ unk n L t s := by
  unfold unk
  refine len_le_of_sub (List.Nodup.sublist List.filter_sublist List.nodup_range) fun x hx => ?_
  obtain ⟨m1, m2⟩ := List.mem_filter.1 hx
  rw [Bool.and_eq_true] at m2
  refine List.mem_filter.2 ⟨m1, ?_⟩
  rw [m2.1, Bool.true_and]
  cases hd : distO L t s x with
  | none => rfl
  | some j => rw [distO_succ_old hd] at m2; cases m2.2
theorem unk_le : unk n L t s ≤ n := by
  unfold unk
  have := List.length_filter_le (fun a => decide (t < a) && (distO L t s a).isNone) (List.range n)
  simpa using this
/-- At the end each node is told. -/
theorem dS_ends (hs : 1 ≤ s) (hf : ∀ b, ¬ Front L t s b) : DistIs n L t ((List.range n).map (dS L t s)) := by
  have hat : ∀ a, a < n → ((List.range n).map (dS L t s)).getD a 0 = dS L t s a := fun a ha => by simp [ha]
  refine ⟨by simp, fun a ha hta => ?_, fun a ha hta => ?_⟩
  · rw [hat a ha]
    unfold dS
    rw [if_neg (by omega)]
  · rw [hat a ha]
    unfold dS
    rw [if_pos hta]
    cases hd : distO L t s a with
    | none => exact .inl ⟨rfl, fun j hj => front_end hs hf j a hd hj⟩
    | some j =>
      obtain ⟨-, h2, h3⟩ := distO_some.1 hd
      exact .inr ⟨j, rfl, h2, h3⟩
theorem dM_rng (hs : 1 ≤ s) : -1 ≤ dM L t s P a ∧ dM L t s P a ≤ (s : Int) := by
  unfold dM dS
  split
  · omega
  · split
    · cases hd : distO L t s a with
      | none => show (-1 : Int) ≤ -1 ∧ (-1 : Int) ≤ _; omega
      | some j =>
        have := (distO_some.1 hd).1
        show (-1 : Int) ≤ (j : Int) ∧ (j : Int) ≤ _
        omega
    · omega
theorem dML_start : dML n L t 1 [] = List.replicate n (-1) := by
  refine List.ext_getElem (by simp [dML]) fun i h1 h2 => ?_
  simp only [dML, List.getElem_map, List.getElem_range, List.getElem_replicate]
  unfold dM dS
  rw [if_neg (by simp)]
  split
  · have : distO L t 1 i = none := distO_none.2 fun j hj hl => by have := hl.pos; omega
    rw [this]
  · rfl
theorem dML_next : dML n L t s [] = (List.range n).map (dS L t s) := by
  unfold dML
  refine List.map_congr_left fun i _ => ?_
  unfold dM
  rw [if_neg (by simp)]

theorem rin_any (bt pd g n a t : Nat) (d : List Int) (w : World) (hn : n ≤ 500) (ha : a < n) (ct : w.cell? ⟨bt, 0, none⟩ = some (.int .i64 t)) (cd : w.cell? ⟨pd, 0, none⟩ = some (.slice (some ⟨g, 0, none⟩) n n)) (hd : IntRow w g n d) :
    Calls Tryd.prog 112 #[.int .i64 a, .pointer (some ⟨bt, 0, none⟩), .pointer (some ⟨pd, 0, none⟩)] w fun e w' => e = .returned (.bool (decide (t < a) && decide (d.getD a 0 < 0))) ∧ w = w' := by
  have c0 := hd.cell ha
  have ha0 : (0 : Int) ≤ (a : Int) := by omega
  have ha1 : (a : Int) < (n : Int) := by omega
  generalize d.getD a 0 = x at *
  clear hd
  rcases Nat.lt_trichotomy t a with h | h | h
  · have h1 : (t : Int) ≤ (a : Int) := by omega
    have h2 : ((a : Int) != (t : Int)) = true := by simp; omega
    rw [decide_eq_true h]
    by_cases hx : x < 0
    · rw [decide_eq_true hx]
      go_enter Tryd.func112, Tryd.ntmps112
      go_wp2_with fail
      go_ret
      exact ⟨rfl, rfl⟩
    · rw [decide_eq_false hx]
      go_enter Tryd.func112, Tryd.ntmps112
      go_wp2_with fail
      go_ret
      exact ⟨rfl, rfl⟩
  · subst h
    have h2 : ((t : Int) != (t : Int)) = false := by simp
    rw [decide_eq_false (Nat.lt_irrefl t), Bool.false_and]
    by_cases hx : x < 0
    · go_enter Tryd.func112, Tryd.ntmps112
      go_wp2_with fail
      go_ret
      exact ⟨rfl, rfl⟩
    · go_enter Tryd.func112, Tryd.ntmps112
      go_wp2_with fail
      go_ret
      exact ⟨rfl, rfl⟩
  · have h1 : ¬ (t : Int) ≤ (a : Int) := by omega
    rw [decide_eq_false (by omega : ¬ t < a), Bool.false_and]
    go_enter Tryd.func112, Tryd.ntmps112
    go_wp2_with fail
    go_ret
    exact ⟨rfl, rfl⟩
end Go.Proofs.YtafdijcolponjaaDoor
