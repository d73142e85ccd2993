/- The contracts of a domain's Left, Fixed, Open, Begin, Undo. Condition: where the table lies. -/
import Derived.Test.YtifjjcenmilohaaDoorDomC
namespace Go.Proofs.YtifjjcenmilohaaDoor
open Go.RowKit

def natI (l : List Nat) : List Int := l.map Int.ofNat
theorem one_new (w : World) (n : Int) (t : TypeId) : ∀ j u, [Value.int .i64 n][j]? = some u → (w.alloc (.cells #[.int .i64 n] t)).cell? ((⟨w.heap.size, 0, none⟩ : Addr).add j) = some u := by
  intro j u hj
  match j, hj with
  | 0, hj => simp at hj; subst hj; exact cell_at 0 (heap_new _ _) rfl
  | j + 1, hj => simp at hj
theorem one_cell (k : IntKind) (n : Int) : ∀ u ∈ [Value.int k n], u.oneCell' = true := by
  intro u hu
  simp at hu
  subst hu; rfl
theorem tab_below {w w' : World} {B : Nat} (h : TabIs w) (hb : Below B w w') (hB : w.heap.size ≤ B) : TabIs w' := fun j hj => by
  have := h j hj
  have hlt := World.block_lt_of_cell? w _ this
  exact (World.cell?_of_block (hb.block _ (Nat.lt_of_lt_of_le hlt hB))).trans this
theorem bitL_len (x : Nat) : (bitL x).length ≤ 64 := by
  have := List.length_filter_le (fun i => x.testBit i) (List.range 64)
  simpa [bitL] using this

theorem tzu_any (x : Nat) (hx : x < 2 ^ 64) (h0 : x ≠ 0) (w : World) (hT : TabIs w) :
    Calls Tryd.prog 36 #[.int .u64 x] w fun e w' => e = .returned (.int .i64 (Lib.ctz 64 x)) ∧ w = w' := by
  have H := Lib.hid (tz_any x hx h0 w hT)
  clear hT hx h0
  go_enter Tryd.func36, Tryd.ntmps36
  go_wp2_with fail
  go_fit H.out
  rintro e w' ⟨rfl, rfl⟩
  go_wp2_with fail
  go_ret
  exact ⟨rfl, rfl⟩

/-- A list of the call's own: nil, or in new memory. -/
def ListEnds (l : List Nat) (w : World) (e : Ending) (w' : World) : Prop :=
  ∃ v, e = .returned v ∧ w'.ownsRow w.heap.size 3 1 v l.length (intl (natI l)) ∧ Below w.heap.size w w'
def leftL (sz X : List Nat) (v : Int) : List Nat := if inR sz.length v = true then bitL (X.getD v.toNat 0) else []
def LeftRel (w : World) (x : Nat) (v u : Value) (wr : World) : Prop :=
  ∃ (y : Nat) (out : List Nat), y < 2 ^ 60 ∧ u = .int .u64 y ∧ bitL x = out ++ bitL y ∧ wr.ownsRow w.heap.size 3 1 v out.length (intl (natI out)) ∧ Below w.heap.size w wr

set_option maxRecDepth 100000 in
theorem dleftL_any (d : Nat) (F sz X : List Nat) (T : TM) (v : Int) (w : World) (h : DomAt w d F sz T) (hk : DOk sz X T) (hTab : TabIs w) :
    Calls Tryd.prog 23 #[.pointer (some ⟨d, 0, none⟩), .int .i64 v] w (ListEnds (leftL sz X v) w) := by
  have hH := dhas_any d F sz T v w h
  unfold leftL
  by_cases hv : 0 ≤ v ∧ v < (sz.length : Int)
  · have hi : inR sz.length v = true := decide_eq_true hv
    rw [hi] at hH
    rw [if_pos hi]
    obtain ⟨i, rfl⟩ := Int.eq_ofNat_of_zero_le hv.1
    rw [Int.toNat_natCast]
    have hil : i < sz.length := by omega
    obtain ⟨⟨hs1, hs2⟩, hx1, hx2⟩ := hk.rng i hil
    have hf := full_lt _ hs2
    have HL := Lib.hid (dleft_any d i F sz X T w h hk hil)
    have HH := Lib.hid hH
    have HT := Lib.hid hTab
    generalize hx : X.getD i 0 = x at *
    have HX : Hid (x < 2 ^ 60) := by show _ < _; omega
    have hx0 : (0 : Int) ≤ (x : Int) := by omega
    have hx9 : (x : Int) < 18446744073709551616 := by omega
    clear hH hv hi hil hs1 hs2 hx1 hx2 hf h hk hTab hx
    go_enter Tryd.func23, Tryd.ntmps23
    go_wp2_with fail
    go_fit HH.out
    rintro e w' ⟨rfl, rfl⟩
    go_wp2_with fail
    go_fit HL.out
    rintro e w1 ⟨rfl, hS⟩
    have HS := Lib.hid hS
    clear hS
    go_wp2_with fail
    go_loopw [5, 6] (fun v u wr => LeftRel w x v u wr) (fun _ u _ => (intOf u).toNat)
    case atStart =>
      refine ⟨x, [], HX.out, ?_, rfl, ⟨rfl, .inl ⟨rfl, rfl⟩⟩, HS.out.below⟩
      first
        | rfl
        | (congr 1; exact IntWalk.u64_in _ (by omega))
    case round =>
      clear hx0 hx9
      obtain ⟨y, out, hy, rfl, hpre, hown, hB⟩ := hrel
      have HP := Lib.hid hpre
      have HO := Lib.hid hown
      have HB := Lib.hid hB
      by_cases h0 : y = 0
      · subst h0
        have he : bitL x = out := by rw [hpre, bitL_zero, List.append_nil]
        have HE := Lib.hid he
        clear hpre hown hB he
        go_wp2_with fail
        go_ret
        refine ⟨_, rfl, ?_, HB.out⟩
        rw [HE.out]; exact HO.out
      · have hne : ¬ ((y : Int) = 0) := by omega
        have hc := (ctz_bit y h0 (by omega)).2.1
        have hstep := bitL_step y h0 (by omega)
        have hlen := bitL_len x
        have HOL : Hid (out.length ≤ 64) := by show _ ≤ _; rw [hpre, List.length_append] at hlen; omega
        have HTZ := Lib.hid (tzu_any y (by omega) h0 wr (tab_below HT.out hB (Nat.le_refl _)))
        have hle : y &&& (y - 1) < y := by
          have := Nat.and_le_right (n := y) (m := y - 1)
          omega
        have hand : bits .and .u64 (y : Int) ((y : Int) - 1) = ((y &&& (y - 1) : Nat) : Int) := by
          rw [show ((y : Int) - 1) = ((y - 1 : Nat) : Int) by omega]
          exact u64_and_nat _ _ (by omega) (by omega)
        have hlt2 : y &&& (y - 1) < 2 ^ 60 := by omega
        generalize hz : y &&& (y - 1) = z at *
        generalize hcc : Lib.ctz 64 y = c at *
        have HST := Lib.hid hstep
        have HL2 := Lib.hid hlt2
        have HZ := Lib.hid hle
        have HAND := Lib.hid hand
        have hy1 : (1 : Int) ≤ (y : Int) := by omega
        have hy2 : (y : Int) ≤ 18446744073709551615 := by omega
        obtain ⟨i0, hi, hz0, hz1, hz2⟩ := info_parts infoInt
        have hb := hB.size
        clear hpre hown hB hy hstep hlt2 hle hz hcc h0 hlen hand
        go_wp2_with fail
        go_fit HTZ.out
        rintro e w' ⟨rfl, rfl⟩
        have HM : Hid (out.length + 1 ≤ maxLen ∧ (out.length + 1) * 8 ≤ 140737488355328) := by
          have := HOL.out
          show _ ∧ _
          unfold maxLen; omega
        have hb2 : Hid (∀ o, w.heap.size ≤ (wr.alloc o).heap.size) := fun o => by simp; omega
        clear hb
        go_wp2_with (first | (at_builtin; go_loud (refine wpList_append_own _ rfl _ _ 22 rfl w.heap.size 3 i0 (.int .i64 0) 1 8 Tryd.underlying22 hi hz0 hz1 hz2 rfl (by decide) _ out.length (intl (natI out)) rfl (HO.out.alloc _) ⟨wr.heap.size, 0, none⟩ 1 1 [_] rfl rfl (one_new wr _ _) (one_cell _ _) HM.out.1 HM.out.2 (hb2.out _) ?_)) | fail)
        intro v' w1 hown1 hgrow hnn
        have HO1 := Lib.hid hown1
        have HG := Lib.hid hgrow
        clear hnn hown1 hgrow
        go_wp2_with fail
        go_roundw
        case rel =>
          refine ⟨z, out ++ [c], HL2.out, ?_, ?_, ?_, ?_⟩
          · rw [HAND.out]
          · rw [HP.out, HST.out]; simp
          · have e : intl (natI (out ++ [c])) = intl (natI out) ++ [Value.int .i64 (c : Int)] := by simp [intl, natI]
            rw [e, List.length_append]
            exact HO1.out
          · exact (HB.out.alloc HB.out.size _).grown HG.out (hb2.out _) (fun q hq => (World.ownsRow.lt HO.out q hq).1)
        case measure => have := HZ.out; rw [HAND.out]; simp [intOf]; omega
  · have hi : inR sz.length v = false := decide_eq_false hv
    rw [hi] at hH
    rw [if_neg (by rw [hi]; simp)]
    have HH := Lib.hid hH
    clear hH hv hi h hk hTab
    go_enter Tryd.func23, Tryd.ntmps23
    go_wp2_with fail
    go_fit HH.out
    rintro e w' ⟨rfl, rfl⟩
    go_wp2_with fail
    go_ret
    exact ⟨_, rfl, ⟨rfl, .inl ⟨rfl, rfl⟩⟩, Below.refl _ _⟩
end Go.Proofs.YtifjjcenmilohaaDoor
