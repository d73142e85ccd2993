/- The program's domain and the document's say the same, in plain Lean. No program is walked here; no condition but those in each statement. -/
import Derived.Test.YtifjjcenmilohaaDoorDomP
import Derived.Test.YtifjjcenmilohaaDoorDomJ
namespace Go.Proofs.YtifjjcenmilohaaDoor
open Go.RowKit

def rowX (s x : Nat) : List Bool := (List.range s).map fun k => x.testBit k
def rowsX (sz X : List Nat) : List (List Bool) := (List.range sz.length).map fun i => rowX (sz.getD i 0) (X.getD i 0)
theorem rowX_len (s x : Nat) : (rowX s x).length = s := by simp [rowX]
theorem rowX_at {s x k : Nat} (h : k < s) : (rowX s x).getD k false = x.testBit k := by simp [rowX, h]
theorem rowsX_len (sz X : List Nat) : (rowsX sz X).length = sz.length := by simp [rowsX]
theorem rowsX_at {sz X : List Nat} {i : Nat} (h : i < sz.length) : (rowsX sz X).getD i [] = rowX (sz.getD i 0) (X.getD i 0) := by simp [rowsX, h]
theorem rowsX_ok {sz X : List Nat} {T : TM} (h : DOk sz X T) (hn : sz.length ≤ 200) : RowsOk (rowsX sz X) := by
  refine ⟨by rw [rowsX_len]; exact hn, fun i hi => ?_⟩
  rw [rowsX_len] at hi
  rw [rowsX_at hi, rowX_len]
  exact (h.rng i hi).1
theorem bitL_small {s x : Nat} (hs : s ≤ 60) (hx : x ≤ full s) : bitL x = (List.range s).filter fun i => x.testBit i := by
  unfold bitL
  rw [show (64 : Nat) = s + (64 - s) by omega, List.range_add, List.filter_append]
  have : ((List.range (64 - s)).map (s + ·)).filter (fun i => x.testBit i) = [] := by
    rw [List.filter_eq_nil_iff]
    intro a ha
    obtain ⟨i, _, rfl⟩ := List.mem_map.1 ha
    rw [bit_out hx (Nat.le_add_right s i)]; simp
  rw [this, List.append_nil]
theorem left_eq {sz X : List Nat} {T : TM} (h : DOk sz X T) (v : Int) : leftB (rowsX sz X) v = leftL sz X v := by
  unfold leftB leftL inR
  rw [rowsX_len]
  by_cases hv : 0 ≤ v ∧ v < (sz.length : Int)
  · rw [if_pos hv, decide_eq_true hv, if_pos rfl]
    have hi : v.toNat < sz.length := by omega
    obtain ⟨⟨_, h2⟩, _, h4⟩ := h.rng _ hi
    rw [rowsX_at hi, rowX_len, bitL_small h2 h4]
    refine List.filter_congr fun k hk => ?_
    rw [rowX_at (List.mem_range.1 hk)]
  · rw [if_neg hv, decide_eq_false hv, if_neg (by simp)]
theorem open_eq {sz X : List Nat} {T : TM} (h : DOk sz X T) : ropenL (rowsX sz X) = openL sz X := by
  unfold ropenL openL
  rw [rowsX_len]
  refine List.filter_congr fun v hv => ?_
  have hi := List.mem_range.1 hv
  unfold ropenB isOpen
  rw [left_eq h]
  have hl : (leftL sz X v).length ≠ 0 := by
    obtain ⟨⟨_, h2⟩, h3, h4⟩ := h.rng _ hi
    unfold leftL inR
    rw [decide_eq_true (by omega), if_pos rfl, Int.toNat_natCast]
    exact bitL_ne h3 (by have := full_lt _ h2; omega)
  generalize (leftL sz X v).length = n at *
  by_cases h1 : n = 1
  · subst h1; rfl
  · rw [decide_eq_true (by omega), decide_eq_false h1]; rfl
theorem there_eq (sz X : List Nat) (v k : Int) : thereB (rowsX sz X) v k = decide (mayC sz v k = 0) := by
  unfold thereB mayC inR
  rw [rowsX_len]
  by_cases hv : 0 ≤ v ∧ v < (sz.length : Int)
  · have hi : v.toNat < sz.length := by omega
    rw [decide_eq_true hv, Bool.true_and, rowsX_at hi, rowX_len]
    by_cases hk : 0 ≤ k ∧ k < (sz.getD v.toNat 0 : Int)
    · rw [decide_eq_true hk, if_pos ⟨rfl, hk⟩]; rfl
    · rw [decide_eq_false hk, if_neg (fun h => hk h.2)]; rfl
  · rw [decide_eq_false hv, Bool.false_and, if_neg (fun h => by cases h.1)]; rfl
theorem rowsX_set {sz X : List Nat} (hl : X.length = sz.length) {v : Nat} (hv : v < sz.length) (y : Nat) : rowsX sz (X.set v y) = (rowsX sz X).set v (rowX (sz.getD v 0) y) := by
  refine List.ext_getElem (by simp [rowsX]) fun i h1 h2 => ?_
  have hi : i < sz.length := by simpa [rowsX] using h1
  rw [List.getElem_set]
  by_cases h : v = i
  · subst h
    rw [if_pos rfl]
    simp only [rowsX, List.getElem_map, List.getElem_range]
    rw [List.getD_eq_getElem?_getD (l := X.set v y), List.getElem?_set_self (by omega)]
    rfl
  · rw [if_neg h]
    simp only [rowsX, List.getElem_map, List.getElem_range]
    rw [List.getD_eq_getElem?_getD (l := X.set v y), List.getElem?_set_ne h, ← List.getD_eq_getElem?_getD]
theorem rowX_drop {s x k : Nat} (hs : s ≤ 60) (hx : x ≤ full s) (hk : k < s) : rowX s (dropM x k) = (rowX s x).set k false := by
  have hf := full_lt _ hs
  refine List.ext_getElem (by simp [rowX]) fun i h1 h2 => ?_
  rw [List.getElem_set]
  simp only [rowX, List.getElem_map, List.getElem_range]
  rw [dropM_bit (by omega) (by omega)]
  by_cases h : k = i
  · subst h; simp
  · rw [if_neg h, decide_eq_false h]; simp
theorem rowX_only {s x k : Nat} (hb : x.testBit k = true) : rowX s (onlyM x k) = oneB s k := by
  unfold rowX oneB
  refine List.map_congr_left fun i _ => ?_
  rw [onlyM_bit]
  by_cases h : i = k
  · subst h; simp [hb]
  · rw [decide_eq_false h, decide_eq_false (Ne.symm h)]; simp
theorem filt_one {n k : Nat} (h : k < n) {p : Nat → Bool} (hp : ∀ i, p i = decide (i = k)) : (List.range n).filter p = [k] := by
  rw [show n = k + ((n - k - 1) + 1) by omega, List.range_add, List.filter_append, List.range_succ_eq_map, List.map_cons, List.filter_cons]
  have h1 : (List.range k).filter p = [] := by
    rw [List.filter_eq_nil_iff]
    intro a ha
    have := List.mem_range.1 ha
    rw [hp, decide_eq_false (by omega)]; simp
  have h2 : (((List.range (n - k - 1)).map Nat.succ).map (k + ·)).filter p = [] := by
    rw [List.filter_eq_nil_iff]
    intro a ha
    obtain ⟨b, hb, rfl⟩ := List.mem_map.1 ha
    obtain ⟨c, _, rfl⟩ := List.mem_map.1 hb
    rw [hp, decide_eq_false (by omega)]; simp
  rw [h1, h2, hp, Nat.add_zero, decide_eq_true rfl, if_pos rfl]; rfl
theorem drop_last {s x k : Nat} (hs : s ≤ 60) (hx : x ≤ full s) (h1 : 1 ≤ x) (hk : k < s) : ((bitL x).length = 1 ∧ (((bitL x).getD 0 0 : Nat) : Int) = (k : Int)) ↔ dropM x k = 0 := by
  have hf := full_lt _ hs
  constructor
  · rintro ⟨hl, hg⟩
    refine Nat.eq_of_testBit_eq fun i => ?_
    rw [dropM_bit (by omega) (by omega), Nat.zero_testBit]
    by_cases hki : k = i
    · rw [decide_eq_true hki]; simp
    · cases hb : x.testBit i with
      | false => rfl
      | true =>
        exfalso
        have hi : i < s := by
          rcases Nat.lt_or_ge i s with g | g
          · exact g
          · rw [bit_out hx g] at hb; cases hb
        have hm : i ∈ bitL x := by rw [bitL_small hs hx]; exact List.mem_filter.2 ⟨List.mem_range.2 hi, hb⟩
        match hL : bitL x, hl with
        | [a], _ =>
          rw [hL] at hm hg
          rw [List.mem_singleton] at hm
          subst hm
          simp at hg
          omega
  · intro hd
    have hbit : ∀ i, x.testBit i = decide (i = k) := by
      have hz : ∀ i, i ≠ k → x.testBit i = false := fun i hi => by
        have := congrArg (·.testBit i) hd
        simp only [dropM_bit (show x < 2 ^ 60 by omega) (show k < 60 by omega), Nat.zero_testBit, decide_eq_false (Ne.symm hi), Bool.not_false, Bool.and_true] at this
        exact this
      intro i
      by_cases hi : i = k
      · subst hi
        rw [decide_eq_true rfl]
        cases hb : x.testBit i with
        | true => rfl
        | false =>
          exfalso
          have : x = 0 := Nat.eq_of_testBit_eq fun j => by
            rw [Nat.zero_testBit]
            by_cases hj : j = i
            · subst hj; exact hb
            · exact hz j hj
          omega
      · rw [hz i hi, decide_eq_false hi]
    rw [bitL_small hs hx, filt_one hk hbit]
    exact ⟨rfl, rfl⟩
theorem drop_eq {sz X : List Nat} {T : TM} (h : DOk sz X T) (v k : Int) :
    dropR (rowsX sz X) v k = (actC sz v k (dropM (X.getD v.toNat 0) k.toNat), rowsX sz (actX sz X v k (dropM (X.getD v.toNat 0) k.toNat))) := by
  unfold dropR actC actX
  rw [there_eq, left_eq h]
  by_cases hm : mayC sz v k = 0
  · obtain ⟨⟨hv0, hv1⟩, hk0, hk1⟩ := mayC_yes hm
    have hi : v.toNat < sz.length := by omega
    obtain ⟨⟨_, h2⟩, h3, h4⟩ := h.rng _ hi
    have hkn : k.toNat < sz.getD v.toNat 0 := by omega
    have hkk : ((k.toNat : Nat) : Int) = k := by omega
    rw [decide_eq_true hm, if_pos rfl, if_pos hm]
    have hL : leftL sz X v = bitL (X.getD v.toNat 0) := by unfold leftL inR; rw [decide_eq_true ⟨hv0, hv1⟩, if_pos rfl]
    have hiff := drop_last h2 h4 h3 hkn
    rw [hkk] at hiff
    rw [hL]
    by_cases hd : dropM (X.getD v.toNat 0) k.toNat = 0
    · rw [if_pos (hiff.2 hd), if_pos hd, if_neg (fun h => h.2 hd)]
    · rw [if_neg (fun h => hd (hiff.1 h)), if_neg hd, if_pos ⟨hm, hd⟩, rowsX_set h.xl hi, rowX_drop h2 h4 hkn, rowsX_at hi]
  · rw [decide_eq_false hm, if_neg (by simp), if_neg hm, if_neg (fun h => hm h.1)]
theorem only_eq {sz X : List Nat} {T : TM} (h : DOk sz X T) (v k : Int) :
    onlyR (rowsX sz X) v k = (actC sz v k (onlyM (X.getD v.toNat 0) k.toNat), rowsX sz (actX sz X v k (onlyM (X.getD v.toNat 0) k.toNat))) := by
  unfold onlyR actC actX
  rw [there_eq]
  by_cases hm : mayC sz v k = 0
  · obtain ⟨⟨hv0, hv1⟩, hk0, hk1⟩ := mayC_yes hm
    have hi : v.toNat < sz.length := by omega
    have hkn : k.toNat < sz.getD v.toNat 0 := by omega
    rw [decide_eq_true hm, if_pos rfl, if_pos hm, rowsX_at hi, rowX_at hkn, rowX_len]
    have hiff : onlyM (X.getD v.toNat 0) k.toNat = 0 ↔ (X.getD v.toNat 0).testBit k.toNat = false := by
      constructor
      · intro h0
        have := congrArg (·.testBit k.toNat) h0
        simpa [onlyM_bit] using this
      · intro hb
        refine Nat.eq_of_testBit_eq fun i => ?_
        rw [onlyM_bit, Nat.zero_testBit]
        by_cases hki : k.toNat = i
        · subst hki; rw [hb]; rfl
        · rw [decide_eq_false hki]; simp
    cases hb : (X.getD v.toNat 0).testBit k.toNat with
    | false => rw [if_neg (by simp), if_pos (hiff.2 hb), if_neg (fun h => h.2 (hiff.2 hb))]
    | true =>
      have hne : onlyM (X.getD v.toNat 0) k.toNat ≠ 0 := fun h0 => by rw [hiff.1 h0] at hb; cases hb
      rw [if_pos rfl, if_neg hne, if_pos ⟨hm, hne⟩, rowsX_set h.xl hi, rowX_only hb]
  · rw [decide_eq_false hm, if_neg (by simp), if_neg hm, if_neg (fun h => hm h.1)]

/-- What the document kept is what Undo gives back. -/
structure DRel (sz X : List Nat) (T : TM) (R : List (List Bool)) (hs : List KeptR) : Prop where
  ok : DOk sz X T
  now : R = rowsX sz X
  kept : ∃ Xs : List (List Nat), hs.map (·.2.1) = Xs.map (rowsX sz) ∧ Xs.length = T.marks.length ∧ ∀ i, i < T.marks.length → DOk sz (Xs.getD i []) ⟨back (T.ch.drop (T.marks.getD i 0)) T.cells, [], []⟩
theorem DRel.size {sz X : List Nat} {T : TM} {R : List (List Bool)} {hs : List KeptR} (h : DRel sz X T R hs) : hs.length = T.marks.length := by
  obtain ⟨Xs, h1, h2, -⟩ := h.kept
  have := congrArg List.length h1
  simpa [h2] using this
theorem back_append' (c d : List (Nat × Int)) (cells : List Int) : back (c ++ d) cells = back c (back d cells) := by simp [back, List.foldr_append]
theorem back_set {T : TM} {N : Nat} (hk : T.ok N) {c : Nat} (hc : c < T.cells.length) (v : Int) {m : Nat} (hm : m ∈ T.marks) : back ((T.set c v).ch.drop m) (T.set c v).cells = back (T.ch.drop m) T.cells := by
  have hml : ¬ T.marks.length = 0 := by intro e; rw [List.eq_nil_of_length_eq_zero e] at hm; simp at hm
  simp only [TM.set, hml, if_false]
  rw [List.drop_append_of_le_length (hk.mc m hm), back_append']
  congr 1
  simp only [back, List.foldr_cons, List.foldr_nil, List.set_set]
  refine List.ext_getElem (by simp) fun i h1 h2 => ?_
  rw [List.getElem_set]
  split
  · rename_i e; subst e; simp [List.getD, hc]
  · rfl
theorem marks_act (sz : List Nat) (T : TM) (v k : Int) (x : Nat) : (actT sz T v k x).marks = T.marks := by
  unfold actT setT TM.set; split <;> rfl
theorem drel_act {sz X : List Nat} {T : TM} {R R' : List (List Bool)} {hs : List KeptR} {N : Nat} (h : DRel sz X T R hs) (hk : T.ok N) (v k : Int) (x : Nat) (hx : mayC sz v k = 0 → x ≤ full (sz.getD v.toNat 0)) (hR : R' = rowsX sz (actX sz X v k x)) :
    DRel sz (actX sz X v k x) (actT sz T v k x) R' hs := by
  refine ⟨dok_act h.ok v k x hx, hR, ?_⟩
  obtain ⟨Xs, h1, h2, h3⟩ := h.kept
  rw [marks_act]
  refine ⟨Xs, h1, h2, fun i hi => ?_⟩
  have h4 := h3 i hi
  have e : back ((actT sz T v k x).ch.drop (T.marks.getD i 0)) (actT sz T v k x).cells = back (T.ch.drop (T.marks.getD i 0)) T.cells := by
    unfold actT
    split
    · rename_i hh
      obtain ⟨⟨hv0, hv1⟩, -, -⟩ := mayC_yes hh.1
      have hmem : T.marks.getD i 0 ∈ T.marks := by simp [hi]
      exact back_set hk (by rw [h.ok.cl]; omega) _ hmem
    · rfl
  rw [e]; exact h4
theorem drel_begin {sz X : List Nat} {T : TM} {R : List (List Bool)} {hs : List KeptR} {k : KeptR} (h : DRel sz X T R hs) (hk : k.2.1 = R) : DRel sz X { T with marks := T.marks ++ [T.ch.length] } R (hs ++ [k]) := by
  refine ⟨h.ok.cells rfl, h.now, ?_⟩
  obtain ⟨Xs, h1, h2, h3⟩ := h.kept
  refine ⟨Xs ++ [X], by simp [h1, hk, h.now], by simp [h2], fun i hi => ?_⟩
  simp only [List.length_append, List.length_cons, List.length_nil] at hi
  by_cases hl : i < T.marks.length
  · have e1 : (Xs ++ [X]).getD i [] = Xs.getD i [] := by rw [List.getD_eq_getElem?_getD, List.getD_eq_getElem?_getD, List.getElem?_append_left (by omega)]
    have e2 : (T.marks ++ [T.ch.length]).getD i 0 = T.marks.getD i 0 := by rw [List.getD_eq_getElem?_getD, List.getD_eq_getElem?_getD, List.getElem?_append_left (by omega)]
    rw [e1]
    show DOk sz _ ⟨back (T.ch.drop ((T.marks ++ [T.ch.length]).getD i 0)) T.cells, [], []⟩
    rw [e2]; exact h3 i hl
  · obtain rfl : i = T.marks.length := by omega
    have e1 : (Xs ++ [X]).getD T.marks.length [] = X := by rw [← h2]; simp
    have e2 : (T.marks ++ [T.ch.length]).getD T.marks.length 0 = T.ch.length := by simp
    rw [e1]
    show DOk sz _ ⟨back (T.ch.drop ((T.marks ++ [T.ch.length]).getD T.marks.length 0)) T.cells, [], []⟩
    rw [e2, List.drop_length]
    exact h.ok.cells rfl
theorem drel_undo {sz X : List Nat} {T : TM} {R : List (List Bool)} {hs : List KeptR} {h0 : KeptR} {N : Nat} (h : DRel sz X T R (hs ++ [h0])) (hk : T.ok N) (hm : T.marks ≠ []) :
    ∃ X', DRel sz X' ⟨back (T.ch.drop (T.marks.getLastD 0)) T.cells, T.ch.take (T.marks.getLastD 0), T.marks.dropLast⟩ h0.2.1 hs := by
  have hsz := h.size
  obtain ⟨Xs, h1, h2, h3⟩ := h.kept
  simp only [List.length_append, List.length_cons, List.length_nil] at hsz
  have hX : Xs ≠ [] := by rintro rfl; simp at h2; exact hm (List.eq_nil_of_length_eq_zero h2.symm)
  have hXs : Xs = Xs.dropLast ++ [Xs.getLast hX] := (List.dropLast_concat_getLast hX).symm
  rw [hXs, List.map_append, List.map_append] at h1
  obtain ⟨e1, e2⟩ := List.append_inj' h1 rfl
  have e2' : h0.2.1 = rowsX sz (Xs.getLast hX) := by simpa using e2
  have hlast : T.marks.getD (T.marks.length - 1) 0 = T.marks.getLastD 0 := by
    rw [List.getLastD_eq_getLast?, List.getLast?_eq_getElem?, List.getD_eq_getElem?_getD]
  have hXlast : Xs.getD (T.marks.length - 1) [] = Xs.getLast hX := by
    rw [← h2, List.getLast_eq_getElem, List.getD_eq_getElem?_getD, List.getElem?_eq_getElem (by have := List.length_pos_iff.2 hX; omega)]
    rfl
  have hpos := List.length_pos_iff.2 hm
  have hq := h3 (T.marks.length - 1) (by omega)
  rw [hlast, hXlast] at hq
  have hmem : T.marks.getLastD 0 ∈ T.marks := by rw [← hlast]; simp [show T.marks.length - 1 < T.marks.length by omega]
  have hsp : T.marks = T.marks.dropLast ++ [T.marks.getLastD 0] := last_split hm
  have hpw := hk.ms
  rw [hsp, List.pairwise_append] at hpw
  refine ⟨Xs.getLast hX, hq.cells rfl, e2', Xs.dropLast, e1, by simp [h2], fun i hi => ?_⟩
  simp only [List.length_dropLast] at hi
  have f1 : Xs.dropLast.getD i [] = Xs.getD i [] := by
    rw [List.getD_eq_getElem?_getD, List.getD_eq_getElem?_getD, List.getElem?_dropLast, if_pos (by omega)]
  have f2 : T.marks.dropLast.getD i 0 = T.marks.getD i 0 := by
    rw [List.getD_eq_getElem?_getD, List.getD_eq_getElem?_getD, List.getElem?_dropLast, if_pos (by omega)]
  have hmi : T.marks.dropLast.getD i 0 ∈ T.marks.dropLast := by
    rw [List.getD_eq_getElem?_getD, List.getElem?_eq_getElem (by rw [List.length_dropLast]; exact hi)]
    exact List.getElem_mem _
  have hle := hpw.2.2 _ hmi _ (List.mem_singleton.2 rfl)
  have hlc := hk.mc _ hmem
  rw [f1]
  show DOk sz _ ⟨back ((T.ch.take (T.marks.getLastD 0)).drop (T.marks.dropLast.getD i 0)) (back (T.ch.drop (T.marks.getLastD 0)) T.cells), [], []⟩
  rw [← back_append']
  have e3 : (T.ch.take (T.marks.getLastD 0)).drop (T.marks.dropLast.getD i 0) ++ T.ch.drop (T.marks.getLastD 0) = T.ch.drop (T.marks.dropLast.getD i 0) := by
    conv => rhs; rw [← List.take_append_drop (T.marks.getLastD 0) T.ch]
    rw [List.drop_append_of_le_length (by simp only [List.length_take]; omega)]
  rw [e3, f2]
  exact h3 i (by omega)
end Go.Proofs.YtifjjcenmilohaaDoor
