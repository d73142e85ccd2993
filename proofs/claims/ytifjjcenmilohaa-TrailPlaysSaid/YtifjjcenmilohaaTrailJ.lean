/- TrailUndoes' walk: what was set behind a beginning is undone with it, however many levels are between. No condition. -/
import Derived.Test.YtifjjcenmilohaaTrailH
import Derived.Test.YtifjjcenmilohaaSame
import Derived.Test.YtifjjcenmilohaaSlices
namespace Go.Proofs.Ytifjjcenmilohaa
open Go.RowKit

/-- Undoing all levels comes back to 'was'. -/
structure Inv (was : List Int) (T : TM) : Prop where
  back : back T.ch T.cells = was
  len : T.cells.length = 5
  one : T.marks = [] → T.ch = []
  first : ∀ m, T.marks.head? = some m → m = 0

theorem back_append (a b : List (Nat × Int)) (cells : List Int) : back (a ++ b) cells = back a (back b cells) := by simp [back, List.foldr_append]

theorem inv_set {was : List Int} {T : TM} (h : Inv was T) (hm : T.marks ≠ []) (c v : Int) : Inv was (setF T c v).2 := by
  unfold setF
  split
  · rename_i hc
    have hc' : 0 ≤ c ∧ c < T.cells.length := of_decide_eq_true hc
    have hml : ¬ T.marks.length = 0 := fun e => hm (List.eq_nil_of_length_eq_zero e)
    refine ⟨?_, by simp [TM.set, h.len], fun e => absurd e hm, h.first⟩
    simp only [TM.set, hml, if_false, back_append]
    rw [show back [(c.toNat, T.cells.getD c.toNat 0)] (T.cells.set c.toNat v) = T.cells from ?_, h.back]
    have hl : c.toNat < T.cells.length := by omega
    simp only [back, List.foldr_cons, List.foldr_nil, List.set_set]
    apply List.ext_getElem (by simp)
    intro i h1 h2
    rw [List.getElem_set]
    split
    · rename_i e; subst e; simp [List.getD, hl]
    · rfl
  · exact h

theorem inv_begin {was : List Int} {T : TM} (h : Inv was T) (hm : T.marks ≠ []) (hl : T.marks.length ≠ 1000) : Inv was (beginF T).2 ∧ (beginF T).2.marks.length = T.marks.length + 1 := by
  unfold beginF
  rw [if_neg hl]
  refine ⟨⟨h.back, h.len, fun e => by simp at e, fun m hm' => ?_⟩, by simp⟩
  cases hc : T.marks with
  | nil => exact absurd hc hm
  | cons x r => rw [hc] at hm'; exact h.first m (by rw [hc]; simpa using hm')

theorem inv_keep {was : List Int} {T : TM} (h : Inv was T) (hl : 2 ≤ T.marks.length) : Inv was (keepF T).2 ∧ (keepF T).2.marks.length = T.marks.length - 1 := by
  unfold keepF
  rw [if_neg (by intro e; simp [e] at hl)]
  refine ⟨⟨h.back, h.len, fun e => ?_, fun m hm' => ?_⟩, by simp⟩
  · have := congrArg List.length e
    simp at this; omega
  · match hc : T.marks, hl with
    | x :: y :: r, _ => rw [hc] at hm'; exact h.first m (by rw [hc]; simpa using hm')

theorem inv_undo {was : List Int} {T : TM} (h : Inv was T) (hm : T.marks ≠ []) : Inv was (undoF T).2 ∧ (undoF T).2.marks.length = T.marks.length - 1 ∧ (undoF T).1 = 0 := by
  unfold undoF
  rw [if_neg hm]
  have hs := last_split hm
  refine ⟨⟨?_, by simp [back_length, h.len], fun e => ?_, fun m hm' => ?_⟩, by simp, rfl⟩
  · rw [← back_append, List.take_append_drop]; exact h.back
  · have e' : T.marks.dropLast = [] := e
    have h0 := h.first (T.marks.getLastD 0) (by rw [hs, e']; simp)
    show T.ch.take (T.marks.getLastD 0) = []
    rw [h0]; rfl
  · have hm2 : T.marks.dropLast.head? = some m := hm'
    refine h.first m ?_
    rw [hs]
    cases hc : T.marks.dropLast with
    | nil => rw [hc] at hm2; simp at hm2
    | cons x r => rw [hc] at hm2; simpa using hm2

theorem inv_done {was : List Int} {T : TM} (h : Inv was T) (hm : T.marks = []) : T.cells = was := by
  have := h.back
  rw [h.one hm] at this
  exact this

theorem int_eq {a b : Int} (h : a = b) : Value.int .i64 a = Value.int .i64 b := by rw [h]
theorem ok_mono {T : TM} {N M : Nat} (h : T.ok N) (hle : N ≤ M) : T.ok M := ⟨h.ml, h.mc, h.ms, h.cc, Nat.le_trans h.cl hle⟩

/-- All that the loops keep of memory: the trail, the row of what was, nothing else of before. -/
def TW (w : World) (b g c : Nat) (was : List Int) (F : List Nat) (T : TM) (wr : World) : Prop :=
  TrailAt wr b F T ∧ wr.ownsRow 0 3 1 (.slice (some ⟨g, 0, none⟩) 5 c) 5 (ints was) ∧ g ∉ F ∧ (∀ k ∈ F, w.heap.size ≤ k) ∧ Below w.heap.size w wr

theorem TW.step {w : World} {b g c : Nat} {was : List Int} {F F' : List Nat} {T T' : TM} {wr w' : World} (h : TW w b g c was F T wr) (hT : TrailAt w' b F' T')
    (hF : ∀ k ∈ F', k ∈ F ∨ wr.heap.size ≤ k) (hC : Chg (· ∈ F) wr w') : TW w b g c was F' T' w' := by
  obtain ⟨h1, h2, h3, h4, h5⟩ := h
  have hg := owns_lt h2 g rfl
  obtain ⟨hB, hF4⟩ := TEnds.below h5 h4 hF hC
  refine ⟨hT, owns_of_heap h2 fun k hk => by cases hk; exact hC.block g hg h3, fun hgm => ?_, hF4, hB⟩
  rcases hF g hgm with e | e
  · exact h3 e
  · omega

def Loop1 (w : World) (b : Nat) (i : Value) (wr : World) : Prop :=
  ∃ (k : Nat) (F : List Nat) (cells : List Int), k ≤ 5 ∧ i = .int .i64 k ∧ TrailAt wr b F ⟨cells, [], []⟩ ∧ cells.length = 5 ∧ (∀ k ∈ F, w.heap.size ≤ k) ∧ Below w.heap.size w wr

def Loop2 (w : World) (b g c : Nat) (was : List Int) (n : Nat) (many i : Value) (wr : World) : Prop :=
  ∃ (k : Nat) (F : List Nat) (T : TM), k ≤ n ∧ k ≤ 50 ∧ i = .int .i64 k ∧ many = .int .i64 (T.marks.length : Nat) ∧ TW w b g c was F T wr ∧ Inv was T ∧ T.ok k ∧ 1 ≤ T.marks.length ∧ T.marks.length ≤ k + 1

def Loop3 (w : World) (b g c : Nat) (was : List Int) (many : Nat) (i : Value) (wr : World) : Prop :=
  ∃ (k : Nat) (F : List Nat) (T : TM), k ≤ many ∧ i = .int .i64 k ∧ TW w b g c was F T wr ∧ Inv was T ∧ T.ok 50 ∧ T.marks.length + k = many

theorem set_bare {cells : List Int} {c : Nat} {v : Int} (h : c < cells.length) : setF ⟨cells, [], []⟩ c v = (0, ⟨cells.set c v, [], []⟩) := by
  unfold setF
  rw [if_pos (TM.has_yes (by omega) (by show (c : Int) < (cells.length : Int); omega))]
  rfl

theorem ok_bare (cells : List Int) (N : Nat) : (⟨cells, [], []⟩ : TM).ok N := ⟨by simp, by simp, by simp, by simp, by simp⟩

set_option maxRecDepth 100000 in
set_option maxHeartbeats 2000000 in
theorem undoes_any (a0 : Option Addr) (len cap : Nat) (zs : Nat → Nat → Int) (a1 : Int) (w : World) (w0 : IsRowS 3 w a0 len cap zs) (w1 : (Lit.int .u8 a1).wf = true) :
    Calls Try.prog 4 #[.slice a0 len cap, .int .u8 a1] w fun e w' => e = .returned (.bool true) ∧ Below w.heap.size w w' := by
  obtain ⟨hlen, hcap⟩ := w0.len_le
  obtain ⟨d0, d1⟩ := bounds_u8 w1
  go_enter Try.func4, Try.ntmps4
  go_wp2_with fail
  refine (new_ok 5 _ (by omega)).mono ?_
  rintro e w2 ⟨b, rfl, hb, ⟨F, hT, hF⟩, hB⟩
  have hs2 := hB.size
  have HT := Lib.hid hT
  have HF := Lib.hid hF
  have HB := Lib.hid hB
  clear hT hF hB
  go_wp2_with fail
  refine (works_any _).mono ?_
  rintro e w3 ⟨rfl, hB3⟩
  have hs3 := hB3.size
  have HT3 := Lib.hid (HT.out.frame (w' := w3) fun k hk => hB3.block k (HT.out.lt k hk))
  have HB3 := Lib.hid (HB.out.trans (hB3.mono hs2))
  clear hB3 HT HB
  go_wp2_with fail
  go_loopw [7] (fun i wr => Loop1 w b i wr) (fun i _ => 5 - (intOf i).toNat)
  case atStart => exact ⟨0, F, _, by omega, rfl, HT3.out, by simp, HF.out, HB3.out⟩
  case round =>
    clear HT3 HF HB3 hs2 hs3 w2 w3
    obtain ⟨k, F, cells, hk, rfl, hT, hcl, hF, hB⟩ := hrel
    have HT := Lib.hid hT
    have HF := Lib.hid hF
    have HB := Lib.hid hB
    have HCL := Lib.hid hcl
    clear hT hF hB hcl
    by_cases hlt : k < 5
    · have hc := set_any b F _ k ((k : Int) + 1) wr HT.out (ok_bare cells 0) (by decide)
      rw [set_bare (by rw [HCL.out]; exact hlt)] at hc
      have HC := Lib.hid hc
      clear hc
      go_wp2_with fail
      refine HC.out.mono ?_
      rintro e w4 ⟨rfl, F4, hT4, hF4, hC4⟩
      obtain ⟨hB4, hF4⟩ := TEnds.below HB.out HF.out hF4 hC4
      have HT4 := Lib.hid hT4
      have HF4 := Lib.hid hF4
      have HB4 := Lib.hid hB4
      clear hT4 hF4 hC4 hB4
      go_wp2_with fail
      go_roundw
      case rel => exact ⟨k + 1, F4, _, by omega, by go_num, HT4.out, by simp [HCL.out], HF4.out, HB4.out⟩
      case measure => simp [intOf]; omega
    · go_wp2_with fail
      refine (all_any b F _ wr HT.out (by show cells.length ≤ 1000; rw [HCL.out]; decide)).mono ?_
      rintro e w4 ⟨g, c, rfl, hO, hB4⟩
      have hs := HB.out.size
      have hs4 := hB4.size
      have HT4 := Lib.hid (HT.out.frame (w' := w4) fun k hk => hB4.block k (HT.out.lt k hk))
      have HTW : Hid (TW w b g c cells F ⟨cells, [], []⟩ w4) := by
        show TW _ _ _ _ _ _ _ _
        refine ⟨HT4.out, ?_, fun hg => ?_, HF.out, HB.out.trans (hB4.mono hs)⟩
        · have := owns_zero hO
          rw [show (⟨cells, [], []⟩ : TM).cells.length = 5 from HCL.out] at this
          exact this
        · have h1 := HT.out.lt g hg
          have h2 := (World.ownsRow.lt hO g rfl).1
          omega
      rw [show (⟨cells, [], []⟩ : TM).cells.length = 5 from HCL.out]
      clear hO hB4 HT4 HB HT
      have hc := begin_any b F _ w4 HTW.out.1 (ok_bare cells 0) (by decide)
      have HC := Lib.hid (show Calls _ _ _ w4 (TEnds b F (.int .i64 0) ⟨cells, [], [0]⟩ w4) from hc)
      clear hc
      go_wp2_with fail
      refine HC.out.mono ?_
      rintro e w5 ⟨rfl, F5, hT5, hF5, hC5⟩
      have HTW5 := Lib.hid (HTW.out.step hT5 hF5 hC5)
      clear hT5 hF5 hC5 HC HTW
      go_wp2_with fail
      go_loopw [9, 10] (fun many i wr => Loop2 w b g c cells len many i wr) (fun _ i _ => len - (intOf i).toNat)
      case atStart => exact ⟨0, F5, _, Nat.zero_le _, by omega, rfl, rfl, HTW5.out, ⟨rfl, HCL.out, (fun e => by cases e), (fun m hm => by simp at hm; exact hm.symm)⟩,
                        ⟨by simp, by simp, by simp, by simp, by simp⟩, by simp, by simp⟩
      case round =>
        clear HTW5 hs4 hs w4 w5
        obtain ⟨k, F6, T, hk, hk50, rfl, rfl, htw, hinv, hok, hm1, hmk⟩ := hrel
        have HTW := Lib.hid htw
        have HI := Lib.hid hinv
        have HK := Lib.hid hok
        clear htw hinv hok
        by_cases hlt : k < len
        · by_cases hlt50 : k < 50
          · obtain ⟨xb, xo, rfl, hxb, hcell⟩ := w0.at (by decide) hlt
            have hc1 := (hcell k hlt 1 (by decide)).1
            have hc2 := (hcell k hlt 2 (by decide)).1
            rw [← Nat.add_assoc] at hc1 hc2
            have hBr := HTW.out.2.2.2.2
            have e1 := (hBr.cell (p := ⟨xb, xo + k * 3 + 1, none⟩) hxb).trans hc1
            have e2 := (hBr.cell (p := ⟨xb, xo + k * 3 + 2, none⟩) hxb).trans hc2
            clear hcell hBr
            generalize zs k 1 = y at *
            generalize zs k 2 = z at *
            have hk0 : (0 : Int) ≤ (k : Int) := Int.natCast_nonneg _
            have hk1 : (k : Int) < (len : Int) := by omega
            have hc := set_any b F6 T y z wr.drew HTW.out.1 HK.out (by omega)
            have hI1 := inv_set HI.out (fun e => by rw [e] at hm1; simp at hm1) y z
            have hK1 := ok_set HK.out y z
            have hM1 : (setF T y z).2.marks = T.marks := by unfold setF TM.set; split <;> rfl
            have HC := Lib.hid hc
            have HI1 := Lib.hid hI1
            have HK1 := Lib.hid hK1
            have HM1 := Lib.hid hM1
            clear hc hI1 hK1 hM1
            generalize setF T y z = r at *
            obtain ⟨rv, T1⟩ := r
            go_wp2_with fail
            go_region_held3 (fun w' => w'.cell? ⟨xb, xo + k * 3 + 1, none⟩ = some (.int .i64 y) ∧ w'.cell? ⟨xb, xo + k * 3 + 2, none⟩ = some (.int .i64 z))
              (first
                | exact ⟨e3, e4⟩
                | exact ⟨e1, e2⟩
                | fail)
              ((first
                | ((with_reducible refine HC.out.mono ?_)
                   rintro e w6 ⟨rfl, F7, hT7, hF7, hC7⟩
                   have HTW7 := Lib.hid (HTW.out.step hT7 hF7 hC7.undrew)
                   have e3 := (HTW7.out.2.2.2.2.cell (p := ⟨xb, xo + k * 3 + 1, none⟩) hxb).trans hc1
                   have e4 := (HTW7.out.2.2.2.2.cell (p := ⟨xb, xo + k * 3 + 2, none⟩) hxb).trans hc2
                   clear hT7 hF7 hC7)
                | fail))
            have hm7 : T1.marks.length = T.marks.length := by rw [HM1.out]
            have hne7 : T1.marks ≠ [] := by intro e; rw [e] at hm7; simp at hm7; omega
            have HNE7 := Lib.hid hne7
            clear hc1 hc2 e1 e2 e3 e4 hne7 HC HI HK HTW hxb w0
            rw [← hm7]
            have hmk7 : T1.marks.length ≤ k + 1 := by omega
            have hm17 : 1 ≤ T1.marks.length := by omega
            clear hm7 hmk hm1
            by_cases hA : (k : Int) % 4 = a1 % 4
            · have hA' : ((k : Int) % 4 == a1 % 4) = true := by simpa using hA
              clear hA
              have hc := begin_any b F7 T1 w6 HTW7.out.1 HK1.out (by omega)
              obtain ⟨hI, hM⟩ := inv_begin HI1.out HNE7.out (by omega)
              have hK := ok_begin HK1.out
              have HC2 := Lib.hid hc
              have HI2 := Lib.hid hI
              have HK2 := Lib.hid hK
              have HM2 := Lib.hid hM
              have hM2 := hM
              clear hc hI hM hK
              generalize beginF T1 = r at *
              obtain ⟨rv2, T2⟩ := r
              have hM4 : T2.marks.length = T1.marks.length + 1 := hM2
              clear hM2
              have hmm : T2.marks.length ≤ k + 2 := by omega
              have hmp : 1 ≤ T2.marks.length := by omega
              by_cases hB : (k : Int) % 7 = 6
              · have hB' : ((k : Int) % 7 == 6) = true := by simpa using hB
                clear hB
                by_cases hmany : 2 ≤ T2.marks.length
                · have hmany' : (1 : Int) < ((T1.marks.length : Int) + 1) := by omega
                  go_wp2_with fail
                  refine HC2.out.mono ?_
                  rintro e w7 ⟨rfl, F8, hT8, hF8, hC8⟩
                  have HTW8 := Lib.hid (HTW7.out.step hT8 hF8 hC8)
                  clear hT8 hF8 hC8
                  have hc := keep_any b F8 T2 w7 HTW8.out.1
                  obtain ⟨hI, hM⟩ := inv_keep HI2.out (by omega)
                  have hK := ok_keep HK2.out
                  have HC3 := Lib.hid hc
                  have HI3 := Lib.hid hI
                  have HK3 := Lib.hid hK
                  have hM3 := hM
                  clear hc hI hM hK
                  generalize keepF T2 = r at *
                  obtain ⟨rv3, T3⟩ := r
                  have hM5 : T3.marks.length = T2.marks.length - 1 := hM3
                  clear hM3
                  go_wp2_with fail
                  refine HC3.out.mono ?_
                  rintro e w8 ⟨rfl, F9, hT9, hF9, hC9⟩
                  have HTW9 := Lib.hid (HTW8.out.step hT9 hF9 hC9)
                  clear hT9 hF9 hC9
                  go_wp2_with fail
                  go_roundw
                  case rel => exact ⟨k + 1, F9, T3, by omega, by omega, by go_num, int_eq (by omega), HTW9.out, HI3.out, HK3.out, by omega, by omega⟩
                  case measure => simp [intOf]; omega
                · have hmany' : decide ((1 : Int) < ((T1.marks.length : Int) + 1)) = false := by simp; omega
                  go_wp2_with fail
                  refine HC2.out.mono ?_
                  rintro e w7 ⟨rfl, F8, hT8, hF8, hC8⟩
                  have HTW8 := Lib.hid (HTW7.out.step hT8 hF8 hC8)
                  clear hT8 hF8 hC8
                  go_wp2_with fail
                  go_roundw
                  case rel => exact ⟨k + 1, F8, T2, by omega, by omega, by go_num, int_eq (by omega), HTW8.out, HI2.out, HK2.out, by omega, by omega⟩
                  case measure => simp [intOf]; omega
              · have hB' : ((k : Int) % 7 == 6) = false := by simpa using hB
                clear hB
                go_wp2_with fail
                refine HC2.out.mono ?_
                rintro e w7 ⟨rfl, F8, hT8, hF8, hC8⟩
                have HTW8 := Lib.hid (HTW7.out.step hT8 hF8 hC8)
                clear hT8 hF8 hC8
                go_wp2_with fail
                go_roundw
                case rel => exact ⟨k + 1, F8, T2, by omega, by omega, by go_num, int_eq (by omega), HTW8.out, HI2.out, HK2.out, by omega, by omega⟩
                case measure => simp [intOf]; omega
            · have hA' : ((k : Int) % 4 == a1 % 4) = false := by simpa using hA
              clear hA
              have hmm : T1.marks.length ≤ k + 2 := by omega
              have hmp : 1 ≤ T1.marks.length := by omega
              by_cases hB : (k : Int) % 7 = 6
              · have hB' : ((k : Int) % 7 == 6) = true := by simpa using hB
                clear hB
                by_cases hmany : 2 ≤ T1.marks.length
                · have hmany' : (1 : Int) < (T1.marks.length : Int) := by omega
                  have hc := keep_any b F7 T1 w6 HTW7.out.1
                  obtain ⟨hI, hM⟩ := inv_keep HI1.out (by omega)
                  have hK := ok_keep HK1.out
                  have HC3 := Lib.hid hc
                  have HI3 := Lib.hid hI
                  have HK3 := Lib.hid hK
                  have hM3 := hM
                  clear hc hI hM hK
                  generalize keepF T1 = r at *
                  obtain ⟨rv3, T3⟩ := r
                  have hM5 : T3.marks.length = T1.marks.length - 1 := hM3
                  clear hM3
                  go_wp2_with fail
                  refine HC3.out.mono ?_
                  rintro e w8 ⟨rfl, F9, hT9, hF9, hC9⟩
                  have HTW9 := Lib.hid (HTW7.out.step hT9 hF9 hC9)
                  clear hT9 hF9 hC9
                  go_wp2_with fail
                  go_roundw
                  case rel => exact ⟨k + 1, F9, T3, by omega, by omega, by go_num, int_eq (by omega), HTW9.out, HI3.out, HK3.out, by omega, by omega⟩
                  case measure => simp [intOf]; omega
                · have hmany' : decide ((1 : Int) < (T1.marks.length : Int)) = false := by simp; omega
                  go_wp2_with fail
                  go_roundw
                  case rel => exact ⟨k + 1, F7, T1, by omega, by omega, by go_num, int_eq (by omega), HTW7.out, HI1.out, HK1.out, by omega, by omega⟩
                  case measure => simp [intOf]; omega
              · have hB' : ((k : Int) % 7 == 6) = false := by simpa using hB
                clear hB
                go_wp2_with fail
                go_roundw
                case rel => exact ⟨k + 1, F7, T1, by omega, by omega, by go_num, int_eq (by omega), HTW7.out, HI1.out, HK1.out, by omega, by omega⟩
                case measure => simp [intOf]; omega
          · go_wp2_with fail
            have hok50 := ok_mono HK.out hk50
            have HK50 := Lib.hid hok50
            have hm51 : T.marks.length ≤ 51 := by omega
            clear hok50 HK hmk hm1
            generalize hmany : T.marks.length = many at *
            have HMANY := Lib.hid hmany
            clear hmany
            go_loopw [11] (fun i wr => Loop3 w b g c cells many i wr) (fun i _ => many - (intOf i).toNat)
            case atStart => exact ⟨0, F6, T, Nat.zero_le _, rfl, HTW.out, HI.out, HK50.out, by rw [HMANY.out]; rfl⟩
            case round =>
              clear HMANY HTW HI HK50
              obtain ⟨j, F7, T7, hj, rfl, htw, hinv, hok, hsum⟩ := hrel
              have HTW := Lib.hid htw
              have HI := Lib.hid hinv
              have HK := Lib.hid hok
              clear htw hinv hok
              by_cases hlj : j < many
              · have hne : T7.marks ≠ [] := by intro e; rw [e] at hsum; simp at hsum; omega
                obtain ⟨hI, hM, hE⟩ := inv_undo HI.out hne
                have hK := ok_undo HK.out
                have hc := undo_any b F7 T7 _ HTW.out.1 HK.out (by decide)
                rw [hE] at hc
                have HC := Lib.hid hc
                have HI2 := Lib.hid hI
                have HK2 := Lib.hid hK
                clear hc hI hK hE hne
                generalize undoF T7 = r at *
                obtain ⟨rv, T8⟩ := r
                have hM4 : T8.marks.length = T7.marks.length - 1 := hM
                clear hM
                go_wp2_with fail
                refine HC.out.mono ?_
                rintro e w8 ⟨rfl, F8, hT8, hF8, hC8⟩
                have HTW8 := Lib.hid (HTW.out.step hT8 hF8 hC8)
                clear hT8 hF8 hC8
                go_wp2_with fail
                go_roundw
                case rel => exact ⟨j + 1, F8, T8, by omega, by go_num, HTW8.out, HI2.out, HK2.out, by omega⟩
                case measure => simp [intOf]; omega
              · have hme : T7.marks = [] := List.eq_nil_of_length_eq_zero (by omega)
                have hdone := inv_done HI.out hme
                have hall := all_any b F7 T7 _ HTW.out.1 (by rw [HI.out.len]; decide)
                have hlv := level_any b F7 T7 _ HTW.out.1
                rw [hdone] at hall
                have HALL := Lib.hid hall
                have HME := Lib.hid hme
                have HB7 := Lib.hid HTW.out.2.2.2.2
                have HL5 := Lib.hid HI.out.len
                clear hdone hall hlv hme
                go_wp2_with fail
                refine HALL.out.mono ?_
                rintro e w8 ⟨g8, c8, rfl, hO8, hB8⟩
                have hsz := hB8.size
                have hsz7 := HB7.out.size
                have hT8 := HTW.out.1.frame (w' := w8) fun k hk => hB8.block k (HTW.out.1.lt k hk)
                have hg8 := owns_of_heap HTW.out.2.1 (w' := w8) fun k hk => by cases hk; exact hB8.block g (owns_lt HTW.out.2.1 g rfl)
                have hs1 := src_of_owns hO8
                have hs2 := src_of_owns hg8
                have HSM := Lib.hid (same_any _ _ _ _ _ _ _ _ w8 hs1 hs2)
                have HLV := Lib.hid (fun W (hW : Same w8 W) => level_any b F7 T7 W (hT8.frame fun k _ => hW.at k))
                have HB8 := Lib.hid (HB7.out.trans (hB8.mono hsz7))
                have hl0 : T7.marks.length = 0 := by rw [HME.out]; rfl
                rw [hl0] at HLV
                clear hO8 hB8 hT8 hg8 hs1 hs2 hl0
                go_wp2_with fail
                refine HSM.out.mono ?_
                rintro e w9 ⟨rfl, hS9⟩
                have HLV9 := Lib.hid (HLV.out w9 hS9)
                have HB9 := Lib.hid (HB8.out.trans hS9.below)
                clear hS9
                rw [sameB_self]
                go_wp2_with fail
                refine HLV9.out.mono ?_
                rintro e w' ⟨rfl, rfl⟩
                go_wp2_with fail
                go_ret
                exact ⟨rfl, HB9.out⟩
        · go_wp2_with fail
          have hok50 := ok_mono HK.out hk50
          have HK50 := Lib.hid hok50
          have hm51 : T.marks.length ≤ 51 := by omega
          clear hok50 HK hmk hm1
          generalize hmany : T.marks.length = many at *
          have HMANY := Lib.hid hmany
          clear hmany
          go_loopw [11] (fun i wr => Loop3 w b g c cells many i wr) (fun i _ => many - (intOf i).toNat)
          case atStart => exact ⟨0, F6, T, Nat.zero_le _, rfl, HTW.out, HI.out, HK50.out, by rw [HMANY.out]; rfl⟩
          case round =>
            clear HMANY HTW HI HK50
            obtain ⟨j, F7, T7, hj, rfl, htw, hinv, hok, hsum⟩ := hrel
            have HTW := Lib.hid htw
            have HI := Lib.hid hinv
            have HK := Lib.hid hok
            clear htw hinv hok
            by_cases hlj : j < many
            · have hne : T7.marks ≠ [] := by intro e; rw [e] at hsum; simp at hsum; omega
              obtain ⟨hI, hM, hE⟩ := inv_undo HI.out hne
              have hK := ok_undo HK.out
              have hc := undo_any b F7 T7 _ HTW.out.1 HK.out (by decide)
              rw [hE] at hc
              have HC := Lib.hid hc
              have HI2 := Lib.hid hI
              have HK2 := Lib.hid hK
              clear hc hI hK hE hne
              generalize undoF T7 = r at *
              obtain ⟨rv, T8⟩ := r
              have hM4 : T8.marks.length = T7.marks.length - 1 := hM
              clear hM
              go_wp2_with fail
              refine HC.out.mono ?_
              rintro e w8 ⟨rfl, F8, hT8, hF8, hC8⟩
              have HTW8 := Lib.hid (HTW.out.step hT8 hF8 hC8)
              clear hT8 hF8 hC8
              go_wp2_with fail
              go_roundw
              case rel => exact ⟨j + 1, F8, T8, by omega, by go_num, HTW8.out, HI2.out, HK2.out, by omega⟩
              case measure => simp [intOf]; omega
            · have hme : T7.marks = [] := List.eq_nil_of_length_eq_zero (by omega)
              have hdone := inv_done HI.out hme
              have hall := all_any b F7 T7 _ HTW.out.1 (by rw [HI.out.len]; decide)
              have hlv := level_any b F7 T7 _ HTW.out.1
              rw [hdone] at hall
              have HALL := Lib.hid hall
              have HME := Lib.hid hme
              have HB7 := Lib.hid HTW.out.2.2.2.2
              have HL5 := Lib.hid HI.out.len
              clear hdone hall hlv hme
              go_wp2_with fail
              refine HALL.out.mono ?_
              rintro e w8 ⟨g8, c8, rfl, hO8, hB8⟩
              have hsz := hB8.size
              have hsz7 := HB7.out.size
              have hT8 := HTW.out.1.frame (w' := w8) fun k hk => hB8.block k (HTW.out.1.lt k hk)
              have hg8 := owns_of_heap HTW.out.2.1 (w' := w8) fun k hk => by cases hk; exact hB8.block g (owns_lt HTW.out.2.1 g rfl)
              have hs1 := src_of_owns hO8
              have hs2 := src_of_owns hg8
              have HSM := Lib.hid (same_any _ _ _ _ _ _ _ _ w8 hs1 hs2)
              have HLV := Lib.hid (fun W (hW : Same w8 W) => level_any b F7 T7 W (hT8.frame fun k _ => hW.at k))
              have HB8 := Lib.hid (HB7.out.trans (hB8.mono hsz7))
              have hl0 : T7.marks.length = 0 := by rw [HME.out]; rfl
              rw [hl0] at HLV
              clear hO8 hB8 hT8 hg8 hs1 hs2 hl0
              go_wp2_with fail
              refine HSM.out.mono ?_
              rintro e w9 ⟨rfl, hS9⟩
              have HLV9 := Lib.hid (HLV.out w9 hS9)
              have HB9 := Lib.hid (HB8.out.trans hS9.below)
              clear hS9
              rw [sameB_self]
              go_wp2_with fail
              refine HLV9.out.mono ?_
              rintro e w' ⟨rfl, rfl⟩
              go_wp2_with fail
              go_ret
              exact ⟨rfl, HB9.out⟩
end Go.Proofs.Ytifjjcenmilohaa
