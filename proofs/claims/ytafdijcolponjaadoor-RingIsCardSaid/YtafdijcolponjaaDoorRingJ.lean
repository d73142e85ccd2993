/- The contracts of the document's has, on and Least (rings). Conditions: a graph that may be. -/
import Derived.Test.YtafdijcolponjaaDoorRingI
namespace Go.Proofs.YtafdijcolponjaaDoor
open Go.RowKit

def hasZ (z : Nat → Nat → Int) (m : Nat) (a b : Int) : Bool := (List.range m).any fun i => decide (z i 0 = a) && decide (z i 1 = b)
theorem hasZ_ofZ {n : Nat} {z : Nat → Nat → Int} {m : Nat} (hM : mayE n z m = true) (a b : Int) : hasZ z m a b = hasR (ofZ n z m) a b := by
  rw [Bool.eq_iff_iff, hasR_iff]
  unfold hasZ
  rw [List.any_eq_true]
  constructor
  · rintro ⟨i, hi, h⟩
    rw [Bool.and_eq_true, decide_eq_true_iff, decide_eq_true_iff] at h
    have hb := mayE_at hM (List.mem_range.1 hi)
    refine ⟨((z i 0).toNat, (z i 1).toNat), (mem_ofZ hM _).2 ⟨i, List.mem_range.1 hi, ?_, ?_⟩, ?_, ?_⟩ <;> simp only [] <;> omega
  · rintro ⟨e, he, h1, h2⟩
    obtain ⟨i, hi, e1, e2⟩ := (mem_ofZ hM e).1 he
    exact ⟨i, List.mem_range.2 hi, by rw [Bool.and_eq_true, decide_eq_true_iff, decide_eq_true_iff]; exact ⟨by omega, by omega⟩⟩
def DHasRel (w : World) (z : Nat → Nat → Int) (m : Nat) (a b : Int) (i : Value) (wr : World) : Prop :=
  ∃ k : Nat, k ≤ m ∧ i = .int .i64 k ∧ w = wr ∧ ∀ j, j < k → (decide (z j 0 = a) && decide (z j 1 = b)) = false

set_option maxRecDepth 20000 in
set_option maxHeartbeats 1000000 in
theorem dhas_any (ad : Option Addr) (m c : Nat) (z : Nat → Nat → Int) (a b : Int) (w : World) (hE : EdgesIn w ad m z) :
    Calls Tryd.prog 107 #[.slice ad m c, .int .i64 a, .int .i64 b] w fun e w' => e = .returned (.bool (hasZ z m a b)) ∧ w = w' := by
  have hm := hE.1
  have HE := Lib.hid hE
  obtain ⟨r, hr⟩ : ∃ r, hasZ z m a b = r := ⟨_, rfl⟩
  rw [hr]
  have HR := Lib.hid hr
  clear hE hr
  go_enter Tryd.func107, Tryd.ntmps107
  go_wp2_with fail
  go_loopw [7] (fun i wr => DHasRel w z m a b i wr) (fun i _ => m - (intOf i).toNat)
  case atStart => exact ⟨0, Nat.zero_le _, rfl, rfl, fun j hj => absurd hj (Nat.not_lt_zero j)⟩
  case round =>
    obtain ⟨k, hk, rfl, rfl, hall⟩ := hrel
    have HAll := Lib.hid hall
    clear hall
    by_cases hlt : k < m
    · obtain ⟨g, rfl, hg, hc⟩ := HE.out.2 (by omega)
      obtain ⟨e0, e1⟩ := hc k hlt
      have hk0 : (0 : Int) ≤ (k : Int) := by omega
      have hk1 : (k : Int) < (m : Int) := by omega
      have HKr : Hid ((decide (z k 0 = a) && decide (z k 1 = b)) = true → r = true) := fun h => by
        rw [← HR.out]; exact List.any_eq_true.2 ⟨k, List.mem_range.2 hlt, h⟩
      have HNx : Hid ((decide (z k 0 = a) && decide (z k 1 = b)) = false → ∀ j, j < k + 1 → (decide (z j 0 = a) && decide (z j 1 = b)) = false) := fun h j hj => by
        by_cases hjk : j < k
        · exact HAll.out j hjk
        · obtain rfl : j = k := by omega
          exact h
      generalize z k 0 = x at *
      generalize z k 1 = y at *
      clear hc
      by_cases hx : x = a
      · have hxb : (x == a) = true := by simp [hx]
        by_cases hy : y = b
        · have hyb : (y == b) = true := by simp [hy]
          have HT := Lib.hid (HKr.out (by rw [decide_eq_true hx, decide_eq_true hy]; rfl))
          subst hx
          subst hy
          go_wp2_with fail
          go_ret
          exact ⟨ret_bool HT.out.symm, rfl⟩
        · have hyb : (y == b) = false := by rw [beq_eq_false_iff_ne]; exact hy
          have HT := Lib.hid (HNx.out (by rw [decide_eq_false hy, Bool.and_false]))
          go_wp2_with fail
          go_roundw
          case rel => exact ⟨k + 1, hlt, by go_num, rfl, HT.out⟩
          case measure => simp [intOf]; omega
      · have hxb : (x == a) = false := by rw [beq_eq_false_iff_ne]; exact hx
        have HT := Lib.hid (HNx.out (by rw [decide_eq_false hx, Bool.false_and]))
        go_wp2_with fail
        go_roundw
        case rel => exact ⟨k + 1, hlt, by go_num, rfl, HT.out⟩
        case measure => simp [intOf]; omega
    · obtain rfl : k = m := by omega
      have HF : Hid (r = false) := by
        show _ = _
        rw [← HR.out]
        exact any_none HAll.out
      go_wp2_with fail
      go_ret
      exact ⟨ret_bool HF.out.symm, rfl⟩

def SrcEnds (l : List Nat) (w : World) (e : Ending) (w' : World) : Prop :=
  ∃ ad c, e = .returned (.slice ad l.length c) ∧ Src w' ad l.length c 1 (intl (natI l)) ∧ Below w.heap.size w w'
theorem src_nil (w : World) : Src w none 0 0 1 (intl (natI [])) := by
  obtain ⟨ad, c, h1, h2⟩ := src_list (w := w) (base := 0) (n := 0) (v := .slice none 0 0) (l := natI []) owns_nil
  cases h1
  exact h2
theorem getLastD_at {l : List Nat} {p : Nat} (h : l.length = p + 1) : l.getLastD 0 = l.getD p 0 := by
  rw [List.getLastD_eq_getLast?, List.getLast?_eq_getElem?, h]
  simp [List.getD]
/-- What one more node leads to. -/
def onT (n : Nat) (L : List (Nat × Nat)) (t r : Nat) (head : List Nat) (b : Nat) : Option (List Nat) := if t < b ∧ (head.getLastD 0, b) ∈ L ∧ b ∉ head then (match onF n L t r (head ++ [b]) with | [] => none | x :: l => some (x :: l)) else none
theorem onF_succ (n : Nat) (L : List (Nat × Nat)) (t r : Nat) (head : List Nat) : onF n L t (r + 1) head = ((List.range n).findSome? (onT n L t r head)).getD [] := rfl
def OnRel (W : World) (n : Nat) (L : List (Nat × Nat)) (t r : Nat) (head : List Nat) (i : Value) (wr : World) : Prop :=
  ∃ b : Nat, t + 1 ≤ b ∧ b ≤ n ∧ i = .int .i64 b ∧ Below W.heap.size W wr ∧ ∀ j, j < b → onT n L t r head j = none

set_option maxRecDepth 20000 in
set_option maxHeartbeats 4000000 in
theorem on_any (n m c : Nat) (ad : Option Addr) (z : Nat → Nat → Int) (hn : n ≤ 500) (hM : mayE n z m = true) : ∀ (r t p many : Nat) (head : List Nat) (ah : Option Addr) (ch : Nat) (W : World), head.length = p + 1 → head.getD 0 0 = t → (∀ x ∈ head, x < n) → many = p + 1 + r → many ≤ 1000 → Src W ah (p + 1) ch 1 (intl (natI head)) → EdgesIn W ad m z →
    Calls Tryd.prog 105 #[.int .i64 n, .slice ad m c, .slice ah (p + 1) ch, .int .i64 many] W (SrcEnds (onF n (ofZ n z m) t r head) W)
  | 0, t, p, many, head, ah, ch, W, hl, ht, hx, hm, hm1, hs, hE => by
    obtain rfl : many = p + 1 := by omega
    obtain ⟨b1, o1, rfl, hc⟩ := hs.plain (by omega)
    have c0 := hc 0 (by omega)
    have cp := hc p (by omega)
    rw [natI_at, ht, Nat.add_zero] at c0
    rw [natI_at, ← getLastD_at hl] at cp
    have hh := dhas_any ad m c z (head.getLastD 0 : Nat) (t : Nat) W hE
    rw [hasZ_ofZ hM, hasR_nat] at hh
    have hon : onF n (ofZ n z m) t 0 head = if (head.getLastD 0, t) ∈ ofZ n z m then head else [] := rfl
    generalize head.getLastD 0 = la at *
    have hp0 : (0 : Int) ≤ (p : Int) := by omega
    have hp1 : (p : Int) < (p : Int) + 1 := by omega
    have hp2 : (0 : Int) < (p : Int) + 1 := by omega
    have HS := Lib.hid hs
    have HOn := Lib.hid hon
    have HLn := Lib.hid hl
    by_cases he : (la, t) ∈ ofZ n z m
    · rw [decide_eq_true he] at hh
      have HH := Lib.hid hh
      have HE := Lib.hid he
      clear hc hs hh hon hl he hE hm ht hx
      go_enter Tryd.func105, Tryd.ntmps105
      go_wp2_with fail
      go_fit HH.out
      rintro e w' ⟨rfl, rfl⟩
      go_wp2_with fail
      go_ret
      rw [HOn.out, if_pos HE.out]
      have h2 := HS.out
      rw [← HLn.out] at h2 ⊢
      exact ⟨_, _, rfl, h2, Below.refl _ _⟩
    · rw [decide_eq_false he] at hh
      have HH := Lib.hid hh
      have HE := Lib.hid he
      clear hc hs hh hon hl he hE hm ht hx
      go_enter Tryd.func105, Tryd.ntmps105
      go_wp2_with fail
      go_fit HH.out
      rintro e w' ⟨rfl, rfl⟩
      go_wp2_with fail
      go_ret
      rw [HOn.out, if_neg HE.out]
      exact ⟨none, 0, rfl, src_nil _, Below.refl _ _⟩
  | r + 1, t, p, many, head, ah, ch, W, hl, ht, hx, hm, hm1, hs, hE => by
    obtain ⟨i0, hi, hz0, hz1, hz2⟩ := info_parts infoInt
    obtain ⟨b1, o1, rfl, hc⟩ := hs.plain (by omega)
    have c0 := hc 0 (by omega)
    have cp := hc p (by omega)
    rw [natI_at, ht, Nat.add_zero] at c0
    rw [natI_at, ← getLastD_at hl] at cp
    have htn : t < n := by rw [← ht]; exact hx _ (by simp [List.getD, hl])
    have hp0 : (0 : Int) ≤ (p : Int) := by omega
    have hp3 : (p : Int) ≤ 1000 := by omega
    have hp1 : (p : Int) < (p : Int) + 1 := by omega
    have hp2 : (0 : Int) < (p : Int) + 1 := by omega
    have hne : ((p : Int) + 1 == (many : Int)) = false := by rw [beq_eq_false_iff_ne]; omega
    have HS := Lib.hid hs
    have HE := Lib.hid hE
    have HLn := Lib.hid hl
    have HHx := Lib.hid hx
    have HT := Lib.hid ht
    have HOn : Hid (onF n (ofZ n z m) t (r + 1) head = ((List.range n).findSome? (onT n (ofZ n z m) t r head)).getD []) := onF_succ _ _ _ _ _
    have HTs : Hid (∀ b, onT n (ofZ n z m) t r head b = if t < b ∧ (head.getLastD 0, b) ∈ ofZ n z m ∧ b ∉ head then (match onF n (ofZ n z m) t r (head ++ [b]) with | [] => none | x :: l => some (x :: l)) else none) := fun _ => rfl
    have HHas : Hid (∀ W' b, EdgesIn W' ad m z → Calls Tryd.prog 107 #[.slice ad m c, .int .i64 (head.getLastD 0 : Nat), .int .i64 (b : Nat)] W' fun e w' => e = .returned (.bool (decide ((head.getLastD 0, b) ∈ ofZ n z m))) ∧ W' = w') := fun W' b hE' => by
      have h := dhas_any ad m c z (head.getLastD 0 : Nat) (b : Nat) W' hE'
      rw [hasZ_ofZ hM, hasR_nat] at h
      exact h
    have HIh : Hid (∀ (b : Nat) (ah' : Option Addr) (ch' : Nat) (W' : World), b < n → Src W' ah' (p + 1 + 1) ch' 1 (intl (natI (head ++ [b]))) → EdgesIn W' ad m z → Calls Tryd.prog 105 #[.int .i64 n, .slice ad m c, .slice ah' (p + 1 + 1) ch', .int .i64 many] W' (SrcEnds (onF n (ofZ n z m) t r (head ++ [b])) W')) := fun b ah' ch' W' hb hs' hE' =>
      on_any n m c ad z hn hM r t (p + 1) many (head ++ [b]) ah' ch' W' (by rw [List.length_append, hl]; rfl) (by rw [← ht]; cases head with | nil => cases hl | cons x l => rfl) (fun x hx' => by
        rcases List.mem_append.1 hx' with h | h
        · exact hx x h
        · rw [List.mem_singleton.1 h]; exact hb) (by omega) hm1 hs' hE'
    generalize ofZ n z m = L at *
    generalize hla : head.getLastD 0 = la at *
    have HMm := Lib.hid hm
    clear hc hs hl hx hE hM ht hla hm
    go_enter Tryd.func105, Tryd.ntmps105
    go_wp2_with fail
    go_loopw [10] (fun i wr => OnRel W n L t r head i wr) (fun i _ => n - (intOf i).toNat)
    case atStart =>
      refine ⟨t + 1, Nat.le_refl _, htn, by go_num, Below.refl _ _, fun j hj => ?_⟩
      unfold onT
      rw [if_neg (fun h => by have := h.1; omega)]
    case round =>
      obtain ⟨b, hb1, hb2, rfl, hB, hall⟩ := hrel
      obtain ⟨wa, rfl⟩ : ∃ y, y = wr := ⟨_, rfl⟩
      have HAll := Lib.hid hall
      have HB := Lib.hid hB
      have hza := hB.size
      have hsa := HS.out.belowAll hB (Nat.le_refl _)
      have hEa := HE.out.below hB (Nat.le_refl _)
      have HSa := Lib.hid hsa
      have HEa := Lib.hid hEa
      clear hall
      by_cases hlt : b < n
      · have hbn : (b : Int) < (n : Int) := by omega
        have hha := HHas.out wa b hEa
        have HNo : Hid (onT n L t r head b = none → ∀ j, j < b + 1 → onT n L t r head j = none) := fun h j hj => by
          by_cases hjb : j < b
          · exact HAll.out j hjb
          · obtain rfl : j = b := by omega
            exact h
        by_cases hmem : (la, b) ∈ L
        · rw [decide_eq_true hmem] at hha
          have hin := hasint_any (some ⟨b1, o1, none⟩) (p + 1) ch (natI head) (b : Int) wa hsa
          have hmi : (b : Int) ∈ natI head ↔ b ∈ head := by
            constructor
            · intro h
              obtain ⟨y, hy, he⟩ := List.mem_map.1 h
              obtain rfl : y = b := Int.ofNat.inj he
              exact hy
            · intro h; exact List.mem_map.2 ⟨b, h, rfl⟩
          have HHa := Lib.hid hha
          by_cases hbh : b ∈ head
          · rw [decide_eq_true (hmi.2 hbh)] at hin
            have HIn := Lib.hid hin
            have HNx := Lib.hid (HNo.out (by rw [HTs.out, if_neg (fun h => h.2.2 hbh)]))
            clear hha hin hsa hEa hB hbh hmi hmem
            go_wp2_with fail
            go_fit HHa.out
            rintro e w' ⟨rfl, rfl⟩
            go_wp2_with fail
            go_fit HIn.out
            rintro e w' ⟨rfl, rfl⟩
            go_wp2_with fail
            go_roundw
            case rel => exact ⟨b + 1, by omega, hlt, by go_num, HB.out, HNx.out⟩
            case measure => simp [intOf]; omega
          · rw [decide_eq_false (fun h => hbh (hmi.1 h))] at hin
            have HIn := Lib.hid hin
            have HOt := Lib.hid ((HTs.out b).trans (if_pos ⟨by omega, hmem, hbh⟩))
            have HMk := Lib.hid (ints_any (some ⟨b1, o1, none⟩) (p + 1) ch _ wa hsa (by omega))
            clear hha hin hsa hEa hB hbh hmi hmem
            go_wp2_with fail
            go_fit HHa.out
            rintro e w' ⟨rfl, rfl⟩
            go_wp2_with fail
            go_fit HIn.out
            rintro e w' ⟨rfl, rfl⟩
            go_wp2_with fail
            go_fit HMk.out
            rintro e w6 ⟨g6, c6, rfl, hown6, hB6⟩
            have HO6 := Lib.hid hown6
            have hz6 := hB6.size
            have hgl6 := owns_lt hown6 g6 rfl
            have HE6 := Lib.hid (HEa.out.below hB6 (Nat.le_refl _))
            have HB6 := Lib.hid (HB.out.trans (hB6.mono hza))
            have HNew := Lib.hid (one_new w6 (b : Int) 3)
            have HM1 : Hid (p + 1 + 1 ≤ maxLen ∧ (p + 1 + 1) * 8 ≤ 140737488355328) := by
              show _ ∧ _
              have := HMm.out
              unfold maxLen; omega
            have hB6' := hB6
            clear hown6 hB6
            go_wp2_with (first | (at_builtin; go_loud (refine wpList_append_lies _ rfl _ _ 22 rfl wa.heap.size 3 i0 (.int .i64 0) 1 8 Tryd.underlying22 hi hz0 hz1 hz2 rfl (by decide) (.slice (some ⟨g6, 0, none⟩) (p + 1) c6) (p + 1) (intl (natI head)) rfl (HO6.out.alloc _) ⟨w6.heap.size, 0, none⟩ 1 1 [_] rfl rfl HNew.out (one_cell _ _) (by decide) HM1.out.1 HM1.out.2 (by simp; omega) (w6.heap.size + 1) (by simp) ?_)) | fail)
            intro g7 c7 w7 hown7 hgrow7 _ hg7
            rw [← intl_natI_snoc] at hown7
            obtain ⟨a7, c7', hv7, hs7⟩ := src_list hown7
            cases hv7
            have hB7 : Below wa.heap.size w6 w7 := ((Below.refl _ _).alloc (by omega) _).grown hgrow7 (by simp; omega) (fun q hq => (World.ownsRow.lt HO6.out q hq).1)
            have hEw6 : wa.heap.size ≤ w6.heap.size := hz6
            have HIr := HIh.out b (some ⟨g7, 0, none⟩) c7 w7 hlt hs7 (HEa.out.below (hB6'.trans hB7) (Nat.le_refl _))
            have hB7w := HB.out.trans ((hB6'.trans hB7).mono hza)
            generalize onF n L t r (head ++ [b]) = res at *
            have HIr := Lib.hid HIr
            have HB7 := Lib.hid hB7w
            have hz7 := hB7w.size
            clear hown7 hgrow7 hg7 hs7 hB7 hB7w hB6'
            go_wp2_with fail
            go_fit HIr.out
            rintro e w8 ⟨a8, c8, rfl, hs8, hB8⟩
            have HS8 := Lib.hid hs8
            have HB8 := Lib.hid (HB7.out.trans (hB8.mono hz7))
            clear hs8 hB8
            cases res with
            | nil =>
              have HNx := Lib.hid (HNo.out HOt.out)
              go_wp2_with fail
              go_roundw
              case rel => exact ⟨b + 1, by omega, hlt, by go_num, HB8.out, HNx.out⟩
              case measure => simp [intOf]; omega
            | cons y l =>
              have HF : Hid (onF n L t (r + 1) head = y :: l) := by
                show _ = _
                rw [HOn.out, findSome_first _ hlt HOt.out HAll.out]; rfl
              have hl1 : (0 : Int) < (((y :: l).length : Nat) : Int) := by simp only [List.length_cons]; omega
              generalize y :: l = res at *
              go_wp2_with fail
              go_ret
              rw [HF.out]
              exact ⟨_, _, rfl, HS8.out, HB8.out⟩
        · rw [decide_eq_false hmem] at hha
          have HHa := Lib.hid hha
          have HNx := Lib.hid (HNo.out (by rw [HTs.out, if_neg (fun h => hmem h.2.1)]))
          clear hha hsa hEa hB hmem
          go_wp2_with fail
          go_fit HHa.out
          rintro e w' ⟨rfl, rfl⟩
          go_wp2_with fail
          go_roundw
          case rel => exact ⟨b + 1, by omega, hlt, by go_num, HB.out, HNx.out⟩
          case measure => simp [intOf]; omega
      · obtain rfl : b = n := by omega
        have HF : Hid (onF b L t (r + 1) head = []) := by
          show _ = _
          rw [HOn.out, List.findSome?_eq_none_iff.2 (fun j hj => HAll.out j (List.mem_range.1 hj))]; rfl
        clear hsa hEa hB
        go_wp2_with fail
        go_ret
        rw [HF.out]
        exact ⟨none, 0, rfl, src_nil _, HB.out⟩
end Go.Proofs.YtafdijcolponjaaDoor
