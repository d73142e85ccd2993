/- The contracts of the document's Undo, Next, Back. No condition but those in each statement. -/
import Derived.Test.YtafdijcolponjaaDoorGraphU
namespace Go.Proofs.YtafdijcolponjaaDoor
open Go.RowKit

theorem RowE.take {w : World} {ad : Option Addr} {c : Nat} {L : List (Nat × Nat)} (h : RowE w (.slice ad L.length c) L) {m : Nat} (hm : m ≤ L.length) : RowE w (.slice ad m m) (L.take m) := by
  have hl : (L.take m).length = m := by rw [List.length_take]; omega
  have he : edgeCells (L.take m) = (edgeCells L).take (m * 2) := by
    have h2 : edgeCells L = edgeCells (L.take m) ++ edgeCells (L.drop m) := by
      unfold edgeCells
      rw [← List.flatMap_append, List.take_append_drop]
    rw [h2, List.take_left' (by rw [edgeCells_len, hl])]
  rcases h with h | ⟨g, cs, hv, hg, hx, ht⟩
  · obtain ⟨h1, h2⟩ := h
    rcases h2 with ⟨hv, h0⟩ | ⟨g, cap, cur, hv, -, hh, hn, hcap, hsz, htake⟩
    · simp only [Value.slice.injEq] at hv
      obtain ⟨rfl, -, rfl⟩ := hv
      have h00 : m = 0 := by omega
      subst h00
      exact .inl ⟨by simp [edgeCells], .inl ⟨rfl, by simp⟩⟩
    · cases hv
      refine .inr ⟨g, cur, by rw [hl], hh, by rw [hl]; omega, ?_⟩
      rw [hl, he, ← htake, List.take_take, Nat.min_eq_left (by omega)]
  · cases hv
    refine .inr ⟨g, cs, by rw [hl], hg, by rw [hl]; omega, ?_⟩
    rw [hl, he, ← ht, List.take_take, Nat.min_eq_left (by omega)]

theorem rg_undo (r n : Nat) (F : List Nat) (L : List (Nat × Nat)) (z : Int) (w : World) (h : RefG w r F n L) :
    Calls Tryd.prog 54 #[.pointer (some ⟨r, 0, none⟩), .int .i64 z] w (RGEnds r F (.int .i64 (undoC L z)) n (undoL L z) w) := by
  have HR := Lib.hid h
  obtain ⟨v, h1, h2, hF, hN⟩ := h
  have H2 := Lib.hid h2
  obtain ⟨ad, c, rfl, hc, hm, hnil, -⟩ := h2.form
  have c1 : w.cell? ⟨r, 1, none⟩ = some (.slice ad L.length c) := cell_at 1 h1 rfl
  have fb := free_at 1 h1
  unfold undoC undoL
  by_cases hz : 0 ≤ z ∧ z ≤ (L.length : Int)
  · rw [if_pos hz, if_pos hz]
    obtain ⟨m, rfl⟩ := Int.eq_ofNat_of_zero_le hz.1
    have hml : m ≤ L.length := by omega
    rw [Int.toNat_natCast]
    have H1 := Lib.hid h1
    have HF := Lib.hid hF
    have HN := Lib.hid hN
    have q1 : ¬ ((m : Int) < 0) := by omega
    have q2 : ¬ ((L.length : Int) < (m : Int)) := by omega
    have q3 : (0 : Int) ≤ (m : Int) := by omega
    have q4 : (m : Int) ≤ (c : Int) := by omega
    have HNl := Lib.hid hnil
    clear h1 h2 hF hN hz hnil
    cases ad with
    | none =>
      obtain ⟨e1, e2⟩ := HNl.out rfl
      subst e2
      rw [e1] at c1
      have e3 : m = 0 := by omega
      subst e3
      go_enter Tryd.func54, Tryd.ntmps54
      go_wp2_with fail
      go_ret
      refine ⟨rfl, F, ⟨.slice none 0 0, ?_, .inl ⟨rfl, .inl ⟨rfl, rfl⟩⟩, HF.out, HN.out⟩, fun _ hk => .inl hk, (Chg.refl _ _).setCell (.inl (by rw [HF.out]; simp)) _⟩
      have := heap_set 1 (.slice none 0 0) H1.out
      rw [this]; rfl
    | some x =>
      go_enter Tryd.func54, Tryd.ntmps54
      go_wp2_with fail
      go_ret
      have hd := HF.out
      have hn := HN.out
      rw [hd] at hn
      refine ⟨rfl, F, ⟨.slice (some x) m m, ?_, ?_, hd, by rw [hd]; exact hn⟩, fun k hk => .inl hk, (Chg.refl _ _).setCell (.inl (by rw [hd]; simp)) _⟩
      · have := heap_set 1 (.slice (some x) m m) H1.out
        rw [this]; rfl
      · refine (H2.out.take hml).frame fun k hk => heap_set_ne 1 _ (fun e => ?_)
        subst e
        exact (List.nodup_cons.1 hn).1 (mem_ownL.2 hk)
  · rw [if_neg hz, if_neg hz]
    have HZ := Lib.hid hz
    clear h1 h2 hF hN hnil
    by_cases q1 : z < 0
    · clear hz
      go_enter Tryd.func54, Tryd.ntmps54
      go_wp2_with fail
      go_ret
      exact rg_idle HR.out
    · have q2 : (L.length : Int) < z := by omega
      clear hz
      go_enter Tryd.func54, Tryd.ntmps54
      go_wp2_with fail
      go_ret
      exact rg_idle HR.out

theorem filter_succ (p : Nat → Bool) (k : Nat) : (List.range (k + 1)).filter p = (List.range k).filter p ++ (if p k = true then [k] else []) := by
  rw [List.range_succ, List.filter_append]
  congr 1
  cases h : p k <;> simp [h]
def RListRel (w : World) (n : Nat) (p : Nat → Bool) (v i : Value) (wr : World) : Prop :=
  ∃ k : Nat, k ≤ n ∧ i = .int .i64 k ∧ wr.ownsRow w.heap.size 3 1 v ((List.range k).filter p).length (intl (natI ((List.range k).filter p))) ∧ Below w.heap.size w wr
theorem filter_len (p : Nat → Bool) (k : Nat) : ((List.range k).filter p).length ≤ k := by
  have := List.length_filter_le p (List.range k)
  simpa using this

theorem rg_next (r n : Nat) (F : List Nat) (L : List (Nat × Nat)) (a : Int) (w : World) (h : RefG w r F n L) (hn : n ≤ 500) :
    Calls Tryd.prog 58 #[.pointer (some ⟨r, 0, none⟩), .int .i64 a] w (ListEnds (nextR n L a) w) := by
  have HR := Lib.hid h
  obtain ⟨i0, hi, hz0, hz1, hz2⟩ := info_parts infoInt
  clear h
  unfold nextR
  have hp : ∃ p : Nat → Bool, ∀ k, p k = hasR L a k := ⟨_, fun _ => rfl⟩
  have he : ∃ p : Nat → Bool, p = fun (k : Nat) => hasR L a k := ⟨_, rfl⟩
  clear hp
  obtain ⟨p, hp⟩ := he
  rw [← hp]
  have HP := Lib.hid hp
  clear hp
  have hown := World.ownsRow_made (base := w.heap.size) (e := 3) (size := 1) w #[] 0 (Nat.le_refl _) (by decide) rfl
  have HO := Lib.hid hown
  clear hown
  go_enter Tryd.func58, Tryd.ntmps58
  go_wp2_with fail
  go_loopw [5, 6] (fun v i wr => RListRel w n p v i wr) (fun _ i _ => n - (intOf i).toNat)
  case atStart => exact ⟨0, Nat.zero_le _, rfl, HO.out, (Below.refl _ _).alloc (Nat.le_refl _) _⟩
  case round =>
    clear HO
    obtain ⟨k, hk, rfl, hown, hB⟩ := hrel
    have hR2 := HR.out.frame (w' := wr) fun q hq => hB.block q (HR.out.lt q hq)
    have HH := rghas_any r n F L a k wr hR2
    obtain ⟨v, h1, -⟩ := hR2
    have c0 : wr.cell? ⟨r, 0, none⟩ = some (.int .i64 n) := cell_at 0 h1 rfl
    have HS := Lib.hid (filter_succ p k)
    have HL := filter_len p k
    have hpk : p k = hasR L a k := by rw [HP.out]
    have hk0 : (0 : Int) ≤ (k : Int) := by omega
    clear h1
    by_cases hlt : k < n
    · have hk1 : (k : Int) < (n : Int) := by omega
      rw [← hpk] at HH
      generalize (List.range k).filter p = l at *
      have HO := Lib.hid hown
      have HB := Lib.hid hB
      have HHh := Lib.hid HH
      have hb := hB.size
      have HM : Hid (l.length + 1 ≤ maxLen ∧ (l.length + 1) * 8 ≤ 140737488355328) := by
        show _ ∧ _
        unfold maxLen; omega
      clear hown hB HH hpk
      cases hq : p k with
      | true =>
        rw [hq, if_pos rfl] at HS
        rw [hq] at HHh
        clear hq
        have hb2 : Hid (∀ o, w.heap.size ≤ (wr.alloc o).heap.size) := fun o => by simp; omega
        go_wp2_with fail
        go_fit HHh.out
        rintro e w' ⟨rfl, rfl⟩
        go_wp2_with (first | (at_builtin; go_loud (refine wpList_append_own _ rfl _ _ 22 rfl w.heap.size 3 i0 (.int .i64 0) 1 8 Tryd.underlying22 hi hz0 hz1 hz2 rfl (by decide) _ l.length (intl (natI l)) rfl (HO.out.alloc _) ⟨wr.heap.size, 0, none⟩ 1 1 [_] rfl rfl (one_new wr _ _) (one_cell _ _) HM.out.1 HM.out.2 (hb2.out _) ?_)) | fail)
        intro v' w1 hown1 hgrow hnn
        have HO1 := Lib.hid hown1
        have HG := Lib.hid hgrow
        clear hnn hown1 hgrow
        go_wp2_with fail
        go_roundw
        case rel =>
          refine ⟨k + 1, by omega, by go_num, ?_, (HB.out.alloc HB.out.size _).grown HG.out (hb2.out _) (fun q hq => (World.ownsRow.lt HO.out q hq).1)⟩
          rw [HS.out]
          have e : intl (natI (l ++ [k])) = intl (natI l) ++ [Value.int .i64 (k : Int)] := by simp [intl, natI]
          rw [e, List.length_append]
          exact HO1.out
        case measure => simp [intOf]; omega
      | false =>
        rw [hq, if_neg (by simp), List.append_nil] at HS
        rw [hq] at HHh
        clear hq
        go_wp2_with fail
        go_fit HHh.out
        rintro e w' ⟨rfl, rfl⟩
        go_wp2_with fail
        go_roundw
        case rel => exact ⟨k + 1, by omega, by go_num, by rw [HS.out]; exact HO.out, HB.out⟩
        case measure => simp [intOf]; omega
    · have e : k = n := by omega
      subst e
      have HO := Lib.hid hown
      have HB := Lib.hid hB
      clear hown hB HH hpk
      go_wp2_with fail
      go_ret
      exact ⟨_, rfl, HO.out, HB.out⟩

theorem rg_back (r n : Nat) (F : List Nat) (L : List (Nat × Nat)) (a : Int) (w : World) (h : RefG w r F n L) (hn : n ≤ 500) :
    Calls Tryd.prog 60 #[.pointer (some ⟨r, 0, none⟩), .int .i64 a] w (ListEnds (backR n L a) w) := by
  have HR := Lib.hid h
  obtain ⟨i0, hi, hz0, hz1, hz2⟩ := info_parts infoInt
  clear h
  unfold backR
  have hp : ∃ p : Nat → Bool, ∀ k, p k = hasR L k a := ⟨_, fun _ => rfl⟩
  have he : ∃ p : Nat → Bool, p = fun (k : Nat) => hasR L k a := ⟨_, rfl⟩
  clear hp
  obtain ⟨p, hp⟩ := he
  rw [← hp]
  have HP := Lib.hid hp
  clear hp
  have hown := World.ownsRow_made (base := w.heap.size) (e := 3) (size := 1) w #[] 0 (Nat.le_refl _) (by decide) rfl
  have HO := Lib.hid hown
  clear hown
  go_enter Tryd.func60, Tryd.ntmps60
  go_wp2_with fail
  go_loopw [5, 6] (fun v i wr => RListRel w n p v i wr) (fun _ i _ => n - (intOf i).toNat)
  case atStart => exact ⟨0, Nat.zero_le _, rfl, HO.out, (Below.refl _ _).alloc (Nat.le_refl _) _⟩
  case round =>
    clear HO
    obtain ⟨k, hk, rfl, hown, hB⟩ := hrel
    have hR2 := HR.out.frame (w' := wr) fun q hq => hB.block q (HR.out.lt q hq)
    have HH := rghas_any r n F L k a wr hR2
    obtain ⟨v, h1, -⟩ := hR2
    have c0 : wr.cell? ⟨r, 0, none⟩ = some (.int .i64 n) := cell_at 0 h1 rfl
    have HS := Lib.hid (filter_succ p k)
    have HL := filter_len p k
    have hpk : p k = hasR L k a := by rw [HP.out]
    have hk0 : (0 : Int) ≤ (k : Int) := by omega
    clear h1
    by_cases hlt : k < n
    · have hk1 : (k : Int) < (n : Int) := by omega
      rw [← hpk] at HH
      generalize (List.range k).filter p = l at *
      have HO := Lib.hid hown
      have HB := Lib.hid hB
      have HHh := Lib.hid HH
      have hb := hB.size
      have HM : Hid (l.length + 1 ≤ maxLen ∧ (l.length + 1) * 8 ≤ 140737488355328) := by
        show _ ∧ _
        unfold maxLen; omega
      clear hown hB HH hpk
      cases hq : p k with
      | true =>
        rw [hq, if_pos rfl] at HS
        rw [hq] at HHh
        clear hq
        have hb2 : Hid (∀ o, w.heap.size ≤ (wr.alloc o).heap.size) := fun o => by simp; omega
        go_wp2_with fail
        go_fit HHh.out
        rintro e w' ⟨rfl, rfl⟩
        go_wp2_with (first | (at_builtin; go_loud (refine wpList_append_own _ rfl _ _ 22 rfl w.heap.size 3 i0 (.int .i64 0) 1 8 Tryd.underlying22 hi hz0 hz1 hz2 rfl (by decide) _ l.length (intl (natI l)) rfl (HO.out.alloc _) ⟨wr.heap.size, 0, none⟩ 1 1 [_] rfl rfl (one_new wr _ _) (one_cell _ _) HM.out.1 HM.out.2 (hb2.out _) ?_)) | fail)
        intro v' w1 hown1 hgrow hnn
        have HO1 := Lib.hid hown1
        have HG := Lib.hid hgrow
        clear hnn hown1 hgrow
        go_wp2_with fail
        go_roundw
        case rel =>
          refine ⟨k + 1, by omega, by go_num, ?_, (HB.out.alloc HB.out.size _).grown HG.out (hb2.out _) (fun q hq => (World.ownsRow.lt HO.out q hq).1)⟩
          rw [HS.out]
          have e : intl (natI (l ++ [k])) = intl (natI l) ++ [Value.int .i64 (k : Int)] := by simp [intl, natI]
          rw [e, List.length_append]
          exact HO1.out
        case measure => simp [intOf]; omega
      | false =>
        rw [hq, if_neg (by simp), List.append_nil] at HS
        rw [hq] at HHh
        clear hq
        go_wp2_with fail
        go_fit HHh.out
        rintro e w' ⟨rfl, rfl⟩
        go_wp2_with fail
        go_roundw
        case rel => exact ⟨k + 1, by omega, by go_num, by rw [HS.out]; exact HO.out, HB.out⟩
        case measure => simp [intOf]; omega
    · have e : k = n := by omega
      subst e
      have HO := Lib.hid hown
      have HB := Lib.hid hB
      clear hown hB HH hpk
      go_wp2_with fail
      go_ret
      exact ⟨_, rfl, HO.out, HB.out⟩

end Go.Proofs.YtafdijcolponjaaDoor
