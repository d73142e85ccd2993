/- The contract of the document's All. No condition but those in each statement. -/
import Derived.Test.YtafdijcolponjaaDoorBitsO
namespace Go.Proofs.YtafdijcolponjaaDoor
open Go.RowKit

theorem filter_succ (p : Nat → Bool) (k : Nat) : (List.range (k + 1)).filter p = (List.range k).filter p ++ (if p k = true then [k] else []) := by
  rw [List.range_succ, List.filter_append]
  congr 1
  cases h : p k <;> simp [h]
theorem filter_len (p : Nat → Bool) (k : Nat) : ((List.range k).filter p).length ≤ k := by
  have := List.length_filter_le p (List.range k)
  simpa using this
def memL (ws : List Nat) : List Nat := (List.range 500).filter (mem ws)
def LEnds (l : List Nat) (w : World) (e : Ending) (w' : World) : Prop :=
  ∃ v, e = .returned v ∧ w'.ownsRow w.heap.size 3 1 v l.length (intl (natI l)) ∧ Below w.heap.size w w'
def RAllRel (w : World) (cs : Array Value) (p : Nat → Bool) (v i : Value) (wr : World) : Prop :=
  ∃ k : Nat, k ≤ 500 ∧ i = .int .i64 k ∧ wr.ownsRow (w.heap.size + 1) 3 1 v ((List.range k).filter p).length (intl (natI ((List.range k).filter p))) ∧
    wr.heap[w.heap.size]? = some (.cells cs 35 (0, 0)) ∧ Below w.heap.size w wr

set_option maxRecDepth 20000 in
theorem rall_any (ws : List Nat) (w : World) :
    Calls Tryd.prog 37 #[.agg (bools (bl ws))] w (LEnds (memL ws) w) := by
  have HX := Lib.hid (fun (i : Nat) (h : i < 500) => bools_at ws h)
  obtain ⟨i0, hi, hz0, hz1, hz2⟩ := info_parts infoInt
  unfold memL
  generalize bools (bl ws) = cs at *
  obtain ⟨p, hp⟩ : ∃ p, p = mem ws := ⟨_, rfl⟩
  rw [← hp] at HX ⊢
  clear hp
  obtain ⟨lst, hls⟩ : ∃ lst, lst = (List.range 500).filter p := ⟨_, rfl⟩
  rw [← hls]
  have HLs := Lib.hid hls
  clear hls
  have hown := World.ownsRow_made (base := w.heap.size + 1) (e := 3) (size := 1) (w.alloc (.cells cs 35)) #[] 0 (by simp) (by decide) rfl
  have HO := Lib.hid hown
  have HSZ : Hid ((w.alloc (.cells cs 35)).heap.size = w.heap.size + 1) := by show _ = _; simp
  have hb0 : ((w.alloc (.cells cs 35)).alloc (.cells #[] 3)).heap[w.heap.size]? = some (.cells cs 35 (0, 0)) :=
    (heap_alloc_lt (w := w.alloc (.cells cs 35)) (by simp)).trans (heap_new _ _)
  have HB0 := Lib.hid hb0
  have HBl := Lib.hid (((Below.refl w.heap.size w).alloc (Nat.le_refl _) (.cells cs 35)).alloc (by simp) (.cells #[] 3))
  clear hown hb0
  go_enter Tryd.func37, Tryd.ntmps37
  go_wp2_with fail
  go_loopw [3, 4] (fun v i wr => RAllRel w cs p v i wr) (fun _ i _ => 500 - (intOf i).toNat)
  case atStart =>
    refine ⟨0, Nat.zero_le _, rfl, ?_, HB0.out, HBl.out⟩
    have := HO.out
    rw [HSZ.out] at this
    exact this
  case round =>
    clear HO HB0 HBl HSZ
    obtain ⟨k, hk, rfl, hown, hblk, hB⟩ := hrel
    have HS := Lib.hid (filter_succ p k)
    have HL := filter_len p k
    have HO := Lib.hid hown
    have HB := Lib.hid hB
    have HBk := Lib.hid hblk
    by_cases hlt : k < 500
    · have c0 : wr.cell? ⟨w.heap.size, k, none⟩ = some (.bool (p k)) := cell_at k hblk (HX.out k hlt)
      have hk0 : (0 : Int) ≤ (k : Int) := by omega
      have hk1 : (k : Int) < 500 := by omega
      have hb := hB.size
      have hcw := lt_of_block hblk
      generalize (List.range k).filter p = l at *
      have HM : Hid (l.length + 1 ≤ maxLen ∧ (l.length + 1) * 8 ≤ 140737488355328) := by
        show _ ∧ _
        unfold maxLen; omega
      clear hown hB hblk
      cases hq : p k with
      | true =>
        rw [hq] at c0
        rw [hq, if_pos rfl] at HS
        clear hq
        have hb2 : Hid (∀ o, w.heap.size + 1 ≤ (wr.alloc o).heap.size) := fun o => by simp; omega
        go_wp2_with (first | (at_builtin; go_loud (refine wpList_append_own _ rfl _ _ 22 rfl (w.heap.size + 1) 3 i0 (.int .i64 0) 1 8 Tryd.underlying22 hi hz0 hz1 hz2 rfl (by decide) _ l.length (intl (natI l)) rfl (HO.out.alloc _) ⟨wr.heap.size, 0, none⟩ 1 1 [_] rfl rfl (one_new wr _ _) (one_cell _ _) HM.out.1 HM.out.2 (hb2.out _) ?_)) | fail)
        intro v' w1 hown1 hgrow hnn
        have HO1 := Lib.hid hown1
        have HG := Lib.hid hgrow
        clear hnn hown1 hgrow
        go_wp2_with fail
        go_roundw
        case rel =>
          refine ⟨k + 1, by omega, by go_num, ?_, ?_, (HB.out.alloc HB.out.size _).grown HG.out (by have := hb2.out (.cells #[.int .i64 k] 3); omega) (fun q hq => by have := (World.ownsRow.lt HO.out q hq).1; omega)⟩
          · rw [HS.out]
            have e : intl (natI (l ++ [k])) = intl (natI l) ++ [Value.int .i64 (k : Int)] := by simp [intl, natI]
            rw [e, List.length_append]
            exact HO1.out
          · exact (HG.out.block w.heap.size (by simp; omega) (fun e => by have := (World.ownsRow.lt HO.out _ e.symm).1; omega)).trans ((heap_alloc_lt hcw).trans HBk.out)
        case measure => simp [intOf]; omega
      | false =>
        rw [hq] at c0
        rw [hq, if_neg (by simp), List.append_nil] at HS
        clear hq
        go_wp2_with fail
        go_roundw
        case rel => exact ⟨k + 1, by omega, by go_num, by rw [HS.out]; exact HO.out, HBk.out, HB.out⟩
        case measure => simp [intOf]; omega
    · have e : k = 500 := by omega
      subst e
      clear hown hB hblk
      go_wp2_with fail
      go_ret
      refine ⟨_, rfl, ?_, HB.out⟩
      rw [HLs.out]
      exact owns_base HO.out (fun q hq => by have := (World.ownsRow.lt HO.out q hq).1; omega)
end Go.Proofs.YtafdijcolponjaaDoor
