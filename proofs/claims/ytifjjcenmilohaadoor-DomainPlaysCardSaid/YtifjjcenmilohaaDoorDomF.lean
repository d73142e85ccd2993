/- The contract of domain.New. No condition but those in each statement. -/
import Derived.Test.YtifjjcenmilohaaDoorDomE
import Derived.Laws.AppendOwnNone
namespace Go.Proofs.YtifjjcenmilohaaDoor
open Go.RowKit

theorem Src.belowAll {w w' : World} {a : Option Addr} {n cap : Nat} {l : List Int} (h : Src w a n cap 1 (intl l)) {B : Nat} (hb : Below B w w') (hB : w.heap.size ≤ B) : Src w' a n cap 1 (intl l) := by
  refine h.of_block fun ad had hne => hb.block _ ?_
  have hn : 0 < n := by omega
  obtain ⟨x, hx, hc⟩ := h.nth (i := 0) hn
  rw [had] at hx
  cases hx
  have := World.block_lt_of_cell? w _ hc
  have e : (ad.add 0).block = ad.block := by unfold Addr.add; split <;> rfl
  rw [e] at this
  omega

def szB (l : List Int) : Bool := decide (l.length ≤ 200) && l.all fun x => decide (1 ≤ x ∧ x ≤ 60)
def szN (l : List Int) : List Nat := l.map Int.toNat
def newT (l : List Int) : TM := ⟨List.replicate l.length 0, [], []⟩
theorem szN_len (l : List Int) : (szN l).length = l.length := by simp [szN]
theorem szB_rng {l : List Int} (h : szB l = true) : l.length ≤ 200 ∧ ∀ i, i < l.length → 1 ≤ l.getD i 0 ∧ l.getD i 0 ≤ 60 := by
  unfold szB at h
  rw [Bool.and_eq_true] at h
  refine ⟨of_decide_eq_true h.1, fun i hi => ?_⟩
  have e : l.getD i 0 = l[i] := by rw [List.getD_eq_getElem?_getD, List.getElem?_eq_getElem hi]; rfl
  rw [e]
  exact of_decide_eq_true (List.all_eq_true.1 h.2 _ (List.getElem_mem hi))
theorem szB_yes {l : List Int} (h0 : l.length ≤ 200) (h : ∀ i, i < l.length → 1 ≤ l.getD i 0 ∧ l.getD i 0 ≤ 60) : szB l = true := by
  unfold szB
  rw [Bool.and_eq_true]
  refine ⟨decide_eq_true h0, List.all_eq_true.2 fun x hx => ?_⟩
  obtain ⟨i, hi, rfl⟩ := List.getElem_of_mem hx
  have e : l.getD i 0 = l[i] := by rw [List.getD_eq_getElem?_getD, List.getElem?_eq_getElem hi]; rfl
  rw [← e]
  exact decide_eq_true (h i hi)
theorem szB_no {l : List Int} {i : Nat} (hi : i < l.length) (h : ¬ (1 ≤ l.getD i 0 ∧ l.getD i 0 ≤ 60)) : szB l = false := by
  rw [Bool.eq_false_iff]
  intro ht
  exact h ((szB_rng ht).2 i hi)
theorem szB_long {l : List Int} (h : ¬ l.length ≤ 200) : szB l = false := by
  rw [Bool.eq_false_iff]
  intro ht
  exact h (szB_rng ht).1
theorem szN_at {l : List Int} {i : Nat} (hi : i < l.length) : (szN l).getD i 0 = (l.getD i 0).toNat := by
  rw [List.getD_eq_getElem?_getD, List.getD_eq_getElem?_getD, szN, List.getElem?_map, List.getElem?_eq_getElem hi]; rfl
theorem nats_szN {l : List Int} (h : szB l = true) : nats (szN l) = intl l := by
  unfold nats szN intl
  rw [List.map_map]
  refine List.map_congr_left fun x hx => ?_
  unfold szB at h
  rw [Bool.and_eq_true] at h
  have := of_decide_eq_true (List.all_eq_true.1 h.2 x hx)
  show Value.int .i64 ((x.toNat : Nat) : Int) = _
  congr 1; omega
theorem dok_new {l : List Int} (h : szB l = true) : DOk (szN l) ((szN l).map full) (newT l) := by
  obtain ⟨-, hr⟩ := szB_rng h
  refine ⟨fun v hv => ?_, fun v hv => ?_, by simp [newT, szN_len], by simp⟩
  · rw [szN_len] at hv
    have h1 := hr v hv
    have e : ((szN l).map full).getD v 0 = full ((szN l).getD v 0) := by
      rw [List.getD_eq_getElem?_getD, List.getD_eq_getElem?_getD, List.getElem?_map, List.getElem?_eq_getElem (by rw [szN_len]; exact hv)]; rfl
    rw [e, szN_at hv]
    have h2 : 2 ^ 1 ≤ 2 ^ (l.getD v 0).toNat := Nat.pow_le_pow_right (by decide) (by omega)
    refine ⟨by omega, ?_, Nat.le_refl _⟩
    unfold full; omega
  · rw [szN_len] at hv
    have h1 := hr v hv
    have e : ((szN l).map full).getD v 0 = full ((szN l).getD v 0) := by
      rw [List.getD_eq_getElem?_getD, List.getD_eq_getElem?_getD, List.getElem?_map, List.getElem?_eq_getElem (by rw [szN_len]; exact hv)]; rfl
    rw [e, andN_full (by rw [szN_at hv]; omega)]
    simp [newT, hv]
theorem ok_newT (l : List Int) (N : Nat) : (newT l).ok N := ok_new l.length N

def DNewEnds (l : List Int) (w : World) (e : Ending) (w' : World) : Prop :=
  (szB l = true ∧ ∃ d F, e = .returned (.tuple #[.pointer (some ⟨d, 0, none⟩), .int .i64 0]) ∧ DomAt w' d F (szN l) (newT l) ∧ (∀ q ∈ F, w.heap.size ≤ q) ∧ Below w.heap.size w w') ∨
  (szB l = false ∧ e = .returned (.tuple #[.pointer none, .int .i64 2]) ∧ w = w')
def DNewRel (w : World) (l : List Int) (i : Value) (wr : World) : Prop :=
  ∃ k : Nat, k ≤ l.length ∧ i = .int .i64 k ∧ (∀ j, j < k → 1 ≤ l.getD j 0 ∧ l.getD j 0 ≤ 60) ∧ w = wr

theorem dom_made {w w2 w3 : World} {b : Nat} {Ft : List Nat} {l : List Int} {v : Value} (hB : Below w.heap.size w w2) (hT : TrailAt w2 b Ft (newT l)) (hF : ∀ q ∈ Ft, w.heap.size ≤ q) (hl : szB l = true)
    (hown : w3.ownsRow w2.heap.size 3 1 v l.length (intl l)) (hgrow : w2.grownBy w3 none) :
    ∃ F, DomAt (w3.alloc (.cells #[.pointer (some ⟨b, 0, none⟩), v] 47)) w3.heap.size F (szN l) (newT l) ∧ (∀ q ∈ F, w.heap.size ≤ q) ∧ Below w.heap.size w (w3.alloc (.cells #[.pointer (some ⟨b, 0, none⟩), v] 47)) := by
  have hz := hB.size
  have hz3 := hgrow.size
  have hT3 : TrailAt w3 b Ft (newT l) := hT.frame fun k hk => hgrow.block k (hT.lt k hk) (fun e => by cases e)
  have hTn : Ft.Nodup := by obtain ⟨_, _, _, _, _, _, _, _, _, h⟩ := hT; exact h
  refine ⟨w3.heap.size :: (ownL v ++ Ft), ⟨b, v, Ft, heap_new _ _, ?_, hT3.frame (fun k hk => heap_alloc_lt (hT3.lt k hk)), by simp [newT, szN_len], rfl, ?_⟩, ?_, ?_⟩
  · rw [szN_len, nats_szN hl]
    exact owns_zero (hown.alloc _)
  · simp only [List.nodup_cons, List.nodup_append, List.mem_append, not_or]
    refine ⟨⟨fun h => ?_, fun h => ?_⟩, ?_, hTn, ?_⟩
    · have := owns_lt hown _ (mem_ownL.1 h); omega
    · have := hT3.lt _ h; omega
    · unfold ownL; cases v.ownBlock <;> simp
    · rintro x hx y hy rfl
      have h1 := (World.ownsRow.lt hown x (mem_ownL.1 hx)).1
      have h2 := hT.lt x hy
      omega
  · intro q hq
    simp only [List.mem_cons, List.mem_append] at hq
    rcases hq with rfl | hq | hq
    · omega
    · have := (World.ownsRow.lt hown q (mem_ownL.1 hq)).1; omega
    · exact hF q hq
  · exact (hB.grown hgrow (by omega) (fun k hk => by cases hk)).alloc (by omega) _

theorem dnew_any (a : Option Addr) (len cap : Nat) (l : List Int) (w : World) (h : Src w a len cap 1 (intl l)) :
    Calls Tryd.prog 7 #[.slice a len cap] w (DNewEnds l w) := by
  have hl : l.length = len := by have := h.1; simpa [intl] using this
  have hcap := h.2.2.1
  have hx := h.2.2.2.1
  unfold maxLen at hx
  obtain ⟨i0, hi, hz0, hz1, hz2⟩ := info_parts infoInt
  have HS := Lib.hid h
  subst hl
  clear h
  by_cases h200 : l.length ≤ 200
  · have q1 : ¬ (200 < (l.length : Int)) := by omega
    go_enter Tryd.func7, Tryd.ntmps7
    go_wp2_with fail
    go_loopw [13] (fun i wr => DNewRel w l i wr) (fun i _ => l.length - (intOf i).toNat)
    case atStart => exact ⟨0, Nat.zero_le _, rfl, fun j hj => absurd hj (Nat.not_lt_zero j), rfl⟩
    case round =>
      obtain ⟨k, hk, rfl, hall, rfl⟩ := hrel
      have HA := Lib.hid hall
      clear hall
      by_cases hlt : k < l.length
      · obtain ⟨bb, oo, rfl, hc⟩ := HS.out.plain (by omega)
        have c0 := hc k hlt
        have HNo := Lib.hid (fun h => szB_no (l := l) hlt h)
        have HNx : Hid (∀ j, j < k + 1 → j ≠ k → 1 ≤ l.getD j 0 ∧ l.getD j 0 ≤ 60) := fun j hj hne => HA.out j (by omega)
        obtain ⟨y, hy⟩ : ∃ y, y = l.getD k 0 := ⟨_, rfl⟩
        rw [← hy] at c0 HNo
        have HY := Lib.hid hy
        have hk0 : (0 : Int) ≤ (k : Int) := by omega
        have hk1 : (k : Int) < (l.length : Int) := by omega
        clear hc hy
        by_cases y1 : y < 1
        · have HD := Lib.hid (HNo.out (fun h => by omega))
          go_wp2_with fail
          go_ret2
          exact .inr ⟨HD.out, rfl, rfl⟩
        · by_cases y2 : 60 < y
          · have HD := Lib.hid (HNo.out (fun h => by omega))
            go_wp2_with fail
            go_ret2
            exact .inr ⟨HD.out, rfl, rfl⟩
          · have HR : Hid (1 ≤ y ∧ y ≤ 60) := ⟨by omega, by omega⟩
            go_wp2_with fail
            go_roundw
            case rel =>
              refine ⟨k + 1, by omega, by go_num, fun j hj => ?_, rfl⟩
              by_cases hjk : j = k
              · subst hjk; rw [← HY.out]; exact HR.out
              · exact HNx.out j hj hjk
            case measure => simp [intOf]; omega
      · have e : k = l.length := by omega
        subst e
        have HZ := Lib.hid (szB_yes h200 HA.out)
        have HN := Lib.hid (new_ok l.length w (by omega))
        clear HA
        go_wp2_with fail
        go_fit HN.out
        rintro e w2 ⟨b, rfl, -, ⟨Ft, hT, hF⟩, hB⟩
        have hS2 := HS.out.belowAll hB (Nat.le_refl _)
        obtain ⟨s1, s2, s3, s4, s5, s6⟩ := hS2
        have HT := Lib.hid hT
        have HF := Lib.hid hF
        have HB := Lib.hid hB
        have S1 := Lib.hid s1
        have S5 := Lib.hid s5
        have S6 := Lib.hid s6
        have HM : Hid (0 + l.length ≤ maxLen ∧ (0 + l.length) * 8 ≤ 140737488355328) := by
          show _ ∧ _
          unfold maxLen; omega
        have HO := Lib.hid (World.ownsRow_nil w2 w2.heap.size 3 1)
        clear hT hF hB s1 s5 s6
        cases a with
        | none =>
          have hl0 : l.length = 0 := (s2 rfl).1
          have hl1 : l = [] := List.eq_nil_of_length_eq_zero hl0
          subst hl1
          have hc0 : cap = 0 := (s2 rfl).2
          subst hc0
          have HD := Lib.hid (dom_made (l := []) HB.out HT.out HF.out HZ.out (World.ownsRow_nil w2 w2.heap.size 3 1) ⟨rfl, rfl, rfl, Nat.le_refl _, fun _ _ _ => rfl⟩)
          clear s2 s3 s4
          go_wp2_with (first | (at_builtin; go_loud (refine wpList_append_own_none rfl _ _ _ rfl w2.heap.size 3 i0 1 Tryd.underlying22 hi _ 0 [] rfl HO.out rfl ?_)) | fail)
          go_ret2
          obtain ⟨F, q1, q2, q3⟩ := HD.out
          exact .inl ⟨HZ.out, _, F, rfl, q1, q2, q3⟩
        | some x =>
          clear s2 s3 s4
          go_wp2_with (first | (at_builtin; go_loud (refine wpList_append_own w2 rfl _ _ _ rfl w2.heap.size 3 i0 (.int .i64 0) 1 8 Tryd.underlying22 hi hz0 hz1 hz2 rfl (by decide) (.slice none 0 0) 0 [] rfl HO.out x l.length cap (intl l) rfl S1.out (S5.out x rfl) S6.out HM.out.1 HM.out.2 (Nat.le_refl _) ?_)) | fail)
          intro v' w3 hown hgrow hnn
          obtain ⟨ad3, c3, rfl⟩ := slice_form hown
          have HD := Lib.hid (dom_made HB.out HT.out HF.out HZ.out hown hgrow)
          clear hown hgrow hnn
          go_wp2_with fail
          go_ret2
          obtain ⟨F, q1, q2, q3⟩ := HD.out
          exact .inl ⟨HZ.out, _, F, rfl, q1, q2, q3⟩
  · have q1 : 200 < (l.length : Int) := by omega
    have HZ := Lib.hid (szB_long h200)
    clear h200
    go_enter Tryd.func7, Tryd.ntmps7
    go_wp2_with fail
    go_ret2
    exact .inr ⟨HZ.out, rfl, rfl⟩
end Go.Proofs.YtifjjcenmilohaaDoor
