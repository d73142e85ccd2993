/- The contract of a set's All, where the table of TrailingZeros64 lies. No condition but those in each statement. -/
import Derived.Test.YtafdijcolponjaaDoorBitsC
import Derived.Test.YtafdijcolponjaaDoorRow
namespace Go.Proofs.YtafdijcolponjaaDoor
open Go.RowKit

/-- The numbers of the first k words, rising. -/
def preL (ws : List Nat) (k : Nat) : List Nat := (List.range k).flatMap fun i => (bitL (ws.getD i 0)).map (i * 64 + ·)
def natI (l : List Nat) : List Int := l.map Int.ofNat

theorem bitL_len (x : Nat) : (bitL x).length ≤ 64 := by
  have := List.length_filter_le (fun i => x.testBit i) (List.range 64)
  simpa [bitL] using this
theorem preL_succ (ws : List Nat) (k : Nat) : preL ws (k + 1) = preL ws k ++ (bitL (ws.getD k 0)).map (k * 64 + ·) := by
  unfold preL
  rw [List.range_succ, List.flatMap_append]
  simp
theorem preL_len (ws : List Nat) : ∀ k, (preL ws k).length ≤ k * 64
  | 0 => by simp [preL]
  | k + 1 => by
    rw [preL_succ, List.length_append, List.length_map]
    have := preL_len ws k
    have := bitL_len (ws.getD k 0)
    omega

theorem tab_below {w w' : World} {B : Nat} (h : TabIs w) (hb : Below B w w') (hB : w.heap.size ≤ B) : TabIs w' := fun j hj => by
  have h1 := h j hj
  rw [World.cell?_of_block (hb.block _ (Nat.lt_of_lt_of_le (World.block_lt_of_cell? w _ h1) hB))]
  exact h1

theorem set_range {w : World} {b : Nat} {ws : List Nat} (h : SetAt w b ws) : w.rangeAt b 0 (words ws).toList := fun j v hj => by
  rw [Nat.zero_add]
  exact cell_at j h.1 (by simpa using hj)

theorem one_new (w : World) (n : Int) (t : TypeId) : ∀ j u, [Value.int .i64 n][j]? = some u → (w.alloc (.cells #[.int .i64 n] t)).cell? ((⟨w.heap.size, 0, none⟩ : Addr).add j) = some u := by
  intro j u hj
  cases j with
  | zero =>
    simp at hj
    subst hj
    exact cell_at 0 (heap_new _ _) rfl
  | succ j => simp at hj
theorem one_cell (k : IntKind) (n : Int) : ∀ u ∈ [Value.int k n], u.oneCell' = true := by
  intro u hu
  simp at hu
  subst hu
  rfl

theorem infoWord : (Tryd.prog.info? 98).map (·.size) = some 1 := by kernel_rfl
theorem infoWords : (Tryd.prog.info? 99).map (·.size) = some 8 := by kernel_rfl

def AllEnds (ws : List Nat) (w : World) (e : Ending) (w' : World) : Prop :=
  ∃ v, e = .returned v ∧ w'.ownsRow w.heap.size 3 1 v (preL ws 8).length (intl (natI (preL ws 8))) ∧ Below w.heap.size w w'

def AllRel (w : World) (ws : List Nat) (v i : Value) (wr : World) : Prop :=
  ∃ k : Nat, k ≤ 8 ∧ i = .int .i64 k ∧ wr.ownsRow w.heap.size 3 1 v (preL ws k).length (intl (natI (preL ws k))) ∧ Below w.heap.size w wr
def AllIn (w : World) (ws : List Nat) (k : Nat) (v x : Value) (wr : World) : Prop :=
  ∃ (y : Nat) (out : List Nat), y < 2 ^ 64 ∧ x = .int .u64 y ∧ preL ws (k + 1) = out ++ (bitL y).map (k * 64 + ·) ∧
    wr.ownsRow w.heap.size 3 1 v out.length (intl (natI out)) ∧ Below w.heap.size w wr

set_option maxRecDepth 20000 in
theorem all_any (b : Nat) (ws : List Nat) (w : World) (h : SetAt w b ws) (hT : TabIs w) :
    Calls Tryd.prog 39 #[.pointer (some ⟨b, 0, none⟩)] w (AllEnds ws w) := by
  have hr := set_range h
  obtain ⟨h1, h2, h3⟩ := h
  have hsz : (words ws).toList.length = 8 := by simp [words, h2]
  have H3 := Lib.hid h3
  have HN := Lib.hid (fun (j : Nat) (hj : j < 8) => words_nth ws (i := j) (by omega))
  have HT := Lib.hid hT
  have HR := Lib.hid hr
  have HI := Lib.hid (by rw [hsz]; exact infoWords : (Tryd.prog.info? 99).map (·.size) = some (words ws).toList.length)
  clear h1 h2 h3 hT hr hsz
  go_enter Tryd.func39, Tryd.ntmps39
  go_wp2_with (first | (refine wpList_load_mid rfl 99 _ rfl b 0 rfl (words ws).toList _ HR.out Tryd.underlying99 rfl HI.out ?_) | fail)
  go_loopw [3, 12] (fun v i wr => AllRel w ws v i wr) (fun _ i _ => 8 - (intOf i).toNat)
  case atStart =>
    exact ⟨0, by omega, rfl, ⟨rfl, .inl ⟨rfl, rfl⟩⟩, Below.refl _ _⟩
  case round =>
    obtain ⟨k, hk, rfl, hown, hB⟩ := hrel
    by_cases hlt : k < 8
    · have hn := HN.out k hlt
      generalize hx : ws.getD k 0 = x at hn
      have HX := Lib.hid hx
      have HO := Lib.hid hown
      have HB := Lib.hid hB
      clear hx hown hB
      generalize words ws = cs at *
      have hq0 : (0 : Int) ≤ (k : Int) := by omega
      have hq1 : (k : Int) < 8 := by omega
      go_wp2_with (first | (refine wpList_index_one rfl 99 _ _ rfl 98 8 _ _ k _ rfl rfl Tryd.underlying99 Tryd.underlying98 rfl infoWord hlt hn ?_) | fail)
      clear hn
      go_loopw [3, 5] (fun v x wr => AllIn w ws k v x wr) (fun _ x _ => (intOf x).toNat)
      case atStart =>
        exact ⟨x, preL ws k, by rw [← HX.out]; exact getD_lt H3.out k, rfl, by rw [preL_succ, HX.out], HO.out, HB.out⟩
      case round =>
        clear HX HO HB
        obtain ⟨y, out, hy, rfl, hpre, hown, hB⟩ := hrel
        have HP := Lib.hid hpre
        have HB := Lib.hid hB
        have HY := Lib.hid hy
        by_cases h0 : y = 0
        · subst h0
          rw [bitL_zero] at hpre
          have HP := Lib.hid hpre
          have HO := Lib.hid hown
          clear hpre hown hB hy
          go_wp2_with fail
          go_roundw
          case rel =>
            refine ⟨k + 1, by omega, by go_num, ?_, HB.out⟩
            have := HP.out
            simp only [List.map_nil, List.append_nil] at this
            rw [this]; exact HO.out
          case measure => simp [intOf]; omega
        · have hne : ¬ ((y : Int) = 0) := by omega
          have hc := (ctz_bit y h0 hy).2.1
          have hstep := bitL_step y h0 hy
          have hlen := preL_len ws (k + 1)
          have HOL : Hid (out.length ≤ 512) := by show _ ≤ _; rw [hpre, List.length_append] at hlen; omega
          have HTZ := Lib.hid (tz_any y hy h0 wr (tab_below HT.out hB (Nat.le_refl _)))
          have hle : y &&& (y - 1) < y := by
            have := Nat.and_le_right (n := y) (m := y - 1)
            omega
          have hand : bits .and .u64 (y : Int) ((y : Int) - 1) = ((y &&& (y - 1) : Nat) : Int) := by
            rw [show ((y : Int) - 1) = ((y - 1 : Nat) : Int) by omega]
            exact u64_and_nat _ _ hy (by omega)
          have hlt2 : y &&& (y - 1) < 2 ^ 64 := by omega
          generalize hz : y &&& (y - 1) = z at *
          generalize hcc : Lib.ctz 64 y = c at *
          have HST := Lib.hid hstep
          have HL := Lib.hid hlt2
          have HZ := Lib.hid hle
          have HO := Lib.hid hown
          have HAND := Lib.hid hand
          have hy1 : (1 : Int) ≤ (y : Int) := by omega
          have hy2 : (y : Int) ≤ 18446744073709551615 := by omega
          obtain ⟨i0, hi, hz0, hz1, hz2⟩ := info_parts infoInt
          have hb := hB.size
          clear hpre hown hB hy hstep hlt2 hle hz hcc h0 hlen hand
          go_wp2_with fail
          refine HTZ.out.mono ?_
          rintro e w' ⟨rfl, rfl⟩
          have hc0 : (0 : Int) ≤ (c : Int) := by omega
          have hc1 : (c : Int) < 64 := by omega
          have HM : Hid (out.length + 1 ≤ maxLen ∧ (out.length + 1) * 8 ≤ 140737488355328) := by
            have := HOL.out
            show _ ∧ _
            unfold maxLen; omega
          have hb2 : Hid (∀ o, w.heap.size ≤ (wr.alloc o).heap.size) := fun o => by simp; omega
          clear hb
          go_wp2_with (first | (at_builtin; go_loud (refine wpList_append_own _ rfl _ _ 22 rfl w.heap.size 3 i0 (.int .i64 0) 1 8 Tryd.underlying22 hi hz0 hz1 hz2 rfl (by decide) _ out.length (intl (natI out)) rfl (HO.out.alloc _) ⟨wr.heap.size, 0, none⟩ 1 1 [_] rfl rfl (one_new wr _ _) (one_cell _ _) HM.out.1 HM.out.2 (hb2.out _) ?_)) | fail)
          intro v' w1 hown1 hgrow hnn
          clear hnn
          go_wp2_with fail
          go_roundw
          case rel =>
            refine ⟨z, out ++ [k * 64 + c], HL.out, ?_, ?_, ?_, ?_⟩
            · rw [HAND.out]
            · rw [HP.out, HST.out]; simp
            · have e : intl (natI (out ++ [k * 64 + c])) = intl (natI out) ++ [Value.int .i64 ((k : Int) * 64 + (c : Int))] := by simp [intl, natI]
              rw [e, List.length_append]
              exact hown1
            · exact (HB.out.alloc HB.out.size _).grown hgrow (hb2.out _) (fun q hq => (World.ownsRow.lt HO.out q hq).1)
          case measure => have := HZ.out; rw [HAND.out]; simp [intOf]; omega
    · obtain rfl : k = 8 := by omega
      have HO := Lib.hid hown
      have HB := Lib.hid hB
      clear hown hB
      go_wp2_with fail
      go_ret
      exact ⟨_, rfl, HO.out, HB.out⟩
end Go.Proofs.YtafdijcolponjaaDoor
