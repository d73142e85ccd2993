/- The contract of a ring's dists: how far each node is from the beginning of a ring. Conditions: a graph, a node of it; where the table lies. -/
import Derived.Test.YtafdijcolponjaaDoorRingD
namespace Go.Proofs.YtafdijcolponjaaDoor
open Go.RowKit

/-- All that stands ahead of the nodes that wait. -/
noncomputable def backs (n : Nat) (L : List (Nat × Nat)) (wait : List Nat) : List Nat := wait.flatMap fun b => backR n L (b : Nat)
theorem backs_snoc (n : Nat) (L : List (Nat × Nat)) (wait : List Nat) (b : Nat) : backs n L (wait ++ [b]) = backs n L wait ++ backR n L (b : Nat) := by simp [backs]
theorem mem_backs {n : Nat} {L : List (Nat × Nat)} (hL : ∀ e ∈ L, e.1 < n ∧ e.2 < n) {wait : List Nat} (a : Nat) : a ∈ backs n L wait ↔ ∃ b ∈ wait, (a, b) ∈ L := by
  unfold backs
  rw [List.mem_flatMap]
  constructor
  · rintro ⟨b, hb, h⟩; exact ⟨b, hb, (mem_backR hL).1 h⟩
  · rintro ⟨b, hb, h⟩; exact ⟨b, hb, (mem_backR hL).2 h⟩
/-- What does not change while distances are told. -/
structure DBox (w : World) (bt pd g n t : Nat) : Prop where
  ct : w.cell? ⟨bt, 0, none⟩ = some (.int .i64 t)
  cd : w.cell? ⟨pd, 0, none⟩ = some (.slice (some ⟨g, 0, none⟩) n n)
  n1 : bt ≠ g
  n2 : pd ≠ g
theorem DBox.chg {w w' : World} {bt pd g n t : Nat} (h : DBox w bt pd g n t) (hc : Chg (· = g) w w') : DBox w' bt pd g n t :=
  ⟨(World.cell?_of_block (hc.block bt (World.block_lt_of_cell? w _ h.ct) h.n1)).trans h.ct, (World.cell?_of_block (hc.block pd (World.block_lt_of_cell? w _ h.cd) h.n2)).trans h.cd, h.n1, h.n2⟩
def sliceLen : Value → Nat
  | .slice _ n _ => n
  | _ => 0
def BfsRel (wo : World) (g n t : Nat) (L : List (Nat × Nat)) (wv sv : Value) (wr : World) : Prop :=
  ∃ (s : Nat) (wait : List Nat), 1 ≤ s ∧ sv = .int .i64 s ∧ (∀ b, b ∈ wait ↔ Front L t s b) ∧ (∀ b ∈ wait, b < n) ∧ wait.length ≤ n + 1 ∧ s + unk n L t s ≤ n + 1 + (if wait = [] then 1 else 0) ∧
    wr.ownsRow 0 3 1 wv wait.length (intl (natI wait)) ∧ (∀ q, wv.ownBlock = some q → q ≠ g) ∧ IntRow wr g n (dML n L t s []) ∧ Chg (· = g) wo wr
def BfsMid (wA : World) (g n t s : Nat) (L : List (Nat × Nat)) (wait : List Nat) (nv i : Value) (wr : World) : Prop :=
  ∃ k : Nat, k ≤ wait.length ∧ i = .int .i64 k ∧ wr.ownsRow wA.heap.size 3 1 nv (nxF L t s (backs n L (wait.take k))).length (intl (natI (nxF L t s (backs n L (wait.take k))))) ∧ IntRow wr g n (dML n L t s (backs n L (wait.take k))) ∧ Chg (· = g) wA wr
def BfsIn (wA : World) (g n t s : Nat) (L : List (Nat × Nat)) (P l : List Nat) (lv nv i : Value) (wr : World) : Prop :=
  ∃ j : Nat, j ≤ l.length ∧ i = .int .i64 j ∧ wr.ownsRow wA.heap.size 3 1 nv (nxF L t s (P ++ l.take j)).length (intl (natI (nxF L t s (P ++ l.take j)))) ∧ IntRow wr g n (dML n L t s (P ++ l.take j)) ∧ Chg (· = g) wA wr ∧
    wr.ownsRow wA.heap.size 3 1 lv l.length (intl (natI l)) ∧ ∀ q, nv.ownBlock = some q → lv.ownBlock ≠ some q
theorem nxF_len {n : Nat} {L : List (Nat × Nat)} {t s : Nat} {P : List Nat} (hP : ∀ a ∈ P, a < n) : (nxF L t s P).Nodup ∧ (nxF L t s P).length ≤ n := by
  have h1 : (nxF L t s P).Nodup := by
    clear hP
    induction P using snoc_ind with
    | nil => simp [nxF]
    | snoc P x ih =>
      rw [nxF_snoc]
      split
      · rename_i hc
        rw [List.nodup_append]
        exact ⟨ih, by simp, fun y hy z hz => by rw [List.mem_singleton.1 hz]; rintro rfl; exact hc.2.2 hy⟩
      · exact ih
  exact ⟨h1, len_of_lt n _ h1 fun x hx => hP x ((mem_nxF P x).1 hx).1⟩

theorem below_chg1 {w w' : World} {F : Nat → Prop} (h : Below w.heap.size w w') : Chg F w w' := ⟨h.os, h.tape, h.output, h.size, fun k hk _ => h.block k hk⟩
theorem chg_grown2 {F : Nat → Prop} {a w w' : World} {row : Option Nat} (h : Chg F a w) (hg : w.grownBy w' row) (hr : ∀ k, row = some k → a.heap.size ≤ k) : Chg F a w' :=
  ⟨hg.os.trans h.os, hg.tape.trans h.tape, hg.output.trans h.output, Nat.le_trans h.size hg.size, fun k hk hf => (hg.block k (Nat.lt_of_lt_of_le hk h.size) (fun e => by have := hr k e.symm; omega)).trans (h.block k hk hf)⟩
theorem backR_in {n : Nat} {L : List (Nat × Nat)} {z : Int} : ∀ x ∈ backR n L z, x < n := fun x hx => List.mem_range.1 (List.mem_filter.1 hx).1
theorem intRow_of {w : World} {g n : Nat} {l l' : List Int} (h : IntRow w g n l) (e : l = l') : IntRow w g n l' := e ▸ h

set_option maxRecDepth 20000 in
set_option maxHeartbeats 4000000 in
theorem dists_any (b n t : Nat) (F : List Nat) (L : List (Nat × Nat)) (w : World) (h : GrAt w b F n L) (ht : t < n) (hT : TabIs w) :
    Calls Tryd.prog 103 #[.pointer (some ⟨b, 0, none⟩), .int .i64 t] w fun e w' => ∃ (g : Nat) (d : List Int), e = .returned (.slice (some ⟨g, 0, none⟩) n n) ∧ w.heap.size ≤ g ∧ DistIs n L t d ∧ IntRow w' g n d ∧ Below w.heap.size w w' := by
  obtain ⟨i0, hi, hz0, hz1, hz2⟩ := info_parts infoInt
  have hn := h.n500
  have HL := Lib.hid h.inr
  have HG := Lib.hid h
  have HT := Lib.hid hT
  clear h hT
  obtain ⟨w1, hw1⟩ : ∃ x, x = w.alloc (.cells #[.int .i64 (t : Int)] 3) := ⟨_, rfl⟩
  have hB1 : Below w.heap.size w w1 := by rw [hw1]; exact (Below.refl _ _).alloc (Nat.le_refl _) _
  have ct1 : w1.cell? ⟨w.heap.size, 0, none⟩ = some (.int .i64 t) := by rw [hw1]; exact cell_at 0 (heap_new _ _) rfl
  have hz1' : w1.heap.size = w.heap.size + 1 := by rw [hw1]; simp
  obtain ⟨w2, hw2⟩ : ∃ x, x = w1.alloc (.cells #[.int .i64 (-1)] 3) := ⟨_, rfl⟩
  have hB2 : Below w1.heap.size w1 w2 := by rw [hw2]; exact (Below.refl _ _).alloc (Nat.le_refl _) _
  have hs2 : Src w2 (some ⟨w1.heap.size, 0, none⟩) 1 1 1 (intl [-1]) := by
    rw [hw2]
    refine ⟨rfl, (fun h => by cases h), Nat.le_refl _, by unfold maxLen; omega, fun ad had j u hj => ?_, fun u hu => ?_⟩
    · cases had
      match j, hj with
      | 0, hj => cases hj; exact cell_at 0 (heap_new _ _) rfl
    · obtain ⟨z, _, rfl⟩ := List.mem_map.1 hu; rfl
  have hB12 := hB1.trans (hB2.mono hB1.size)
  have HLn := Lib.hid (gr_len b n F L w2 (HG.out.below hB12 (Nat.le_refl _)))
  have hRp := repeat_any (some ⟨w1.heap.size, 0, none⟩) 1 n (-1) w2 hn hs2
  rw [hz1'] at hRp
  have HRp := Lib.hid hRp
  have HB12 := Lib.hid hB12
  have hct2 := (hB2.cell (p := ⟨w.heap.size, 0, none⟩) (by show w.heap.size < _; omega)).trans ct1
  have HCt := Lib.hid hct2
  have hz2' : w.heap.size < w2.heap.size := by have := hB2.size; omega
  have hw12 : (w.alloc (.cells #[.int .i64 (t : Int)] 3)).alloc (.cells #[.int .i64 (-1)] 3) = w2 := by rw [hw2, hw1]
  have HZ1 := Lib.hid hz1'
  rw [hw1] at hw2
  clear hB1 ct1 hB2 hs2 hB12 hw2 hRp hct2
  subst hw1
  go_enter Tryd.func103, Tryd.ntmps103
  go_wp2_with fail
  go_fit HLn.out
  rintro e w' ⟨rfl, rfl⟩
  clear hz1' HZ1
  go_wp2_with fail
  go_fit HRp.out
  rintro e w3 ⟨rfl, hR, hB⟩
  have HB3 := Lib.hid (HB12.out.trans (hB.mono HB12.out.size))
  have HCt3 := Lib.hid ((hB.cell (p := ⟨w.heap.size, 0, none⟩) hz2').trans HCt.out)
  have hgl := hR.lt
  have HR3 := Lib.hid hR
  have hgw : w.heap.size < w2.heap.size := hz2'
  generalize w2.heap.size = g at *
  clear hR hB hw12 hz2' HCt HLn HRp HB12
  obtain ⟨w4, hw4⟩ : ∃ x, w3.alloc (.cells #[.slice (some ⟨g, 0, none⟩) n n] 22) = x := ⟨_, rfl⟩
  have hB4 : Below w3.heap.size w3 w4 := by rw [← hw4]; exact (Below.refl _ _).alloc (Nat.le_refl _) _
  have hz4 : w4.heap.size = w3.heap.size + 1 := by rw [← hw4]; simp
  have ct4 : w4.cell? ⟨w.heap.size, 0, none⟩ = some (.int .i64 t) := (hB4.cell (p := ⟨w.heap.size, 0, none⟩) (by show w.heap.size < _; omega)).trans HCt3.out
  have cd4 : w4.cell? ⟨w3.heap.size, 0, none⟩ = some (.slice (some ⟨g, 0, none⟩) n n) := by rw [← hw4]; exact cell_at 0 (heap_new _ _) rfl
  obtain ⟨wo, hwo⟩ : ∃ x, w4.alloc (.cells #[.int .i64 (t : Int)] 3) = x := ⟨_, rfl⟩
  have hBo : Below w4.heap.size w4 wo := by rw [← hwo]; exact (Below.refl _ _).alloc (Nat.le_refl _) _
  have HCto := Lib.hid ((hBo.cell (p := ⟨w.heap.size, 0, none⟩) (by show w.heap.size < _; omega)).trans ct4)
  have HCdo := Lib.hid ((hBo.cell (p := ⟨w3.heap.size, 0, none⟩) (by show w3.heap.size < _; omega)).trans cd4)
  have HRo := Lib.hid ((HR3.out.below hB4 hgl).below hBo (by omega))
  have hwt : wo.ownsRow 0 3 1 (.slice (some ⟨w3.heap.size + 1, 0, none⟩) 1 1) 1 (intl (natI [t])) := by
    rw [← hwo, ← hz4]; exact owns_of_block (Nat.zero_le _) (by decide) rfl (heap_new _ _)
  have HWt := Lib.hid hwt
  have HBo := Lib.hid (HB3.out.trans ((hB4.mono HB3.out.size).trans (hBo.mono (by have := HB3.out.size; omega))))
  have hzo : w3.heap.size + 1 ≤ wo.heap.size := by have := hBo.size; omega
  have hw3s := HB3.out.size
  clear hB4 hBo hwt HR3 HCt3
  go_wp2_with fail
  clear ct4 cd4 hw4 hwo hz4
  go_loopw [6, 8] (fun wv sv wr => BfsRel wo g n t L wv sv wr) (fun wv sv _ => 2 * unk n L t (intOf sv).toNat + (if sliceLen wv = 0 then 0 else 1))
  case atStart =>
    refine ⟨1, [t], Nat.le_refl _, rfl, fun x => by rw [List.mem_singleton]; exact Iff.rfl, fun x hx => by rw [List.mem_singleton.1 hx]; exact ht, by simp, ?_, HWt.out, fun q hq => ?_, ?_, Chg.refl _ _⟩
    · have := unk_le (n := n) (L := L) (t := t) (s := 1)
      simp; omega
    · cases hq; show w3.heap.size + 1 ≠ g; omega
    · rw [dML_start]; exact HRo.out
  case round =>
    clear HWt HRo
    obtain ⟨s, wait, hs1, rfl, hfr, hwn, hwl, hunk, hown, hne, hrow, hC⟩ := hrel
    obtain ⟨wA, rfl⟩ : ∃ x, x = wr := ⟨_, rfl⟩
    obtain ⟨adw, cw, rfl⟩ := owns_slice hown
    have hBA : Below w.heap.size w wA := HBo.out.trans (hC.below HBo.out.size fun k hk e => by omega)
    have hzA := hC.size
    have HFr := Lib.hid hfr
    have HWn := Lib.hid hwn
    have HUn := Lib.hid hunk
    have HOw := Lib.hid hown
    have HNe := Lib.hid hne
    have HRw := Lib.hid hrow
    have HC := Lib.hid hC
    have HBA := Lib.hid hBA
    clear hfr hwn hunk hown hne hrow hC hBA
    by_cases hw0 : wait = []
    · have hl0 : wait.length = 0 := by rw [hw0]; rfl
      have hcd := (World.cell?_of_block (HC.out.block w3.heap.size (by omega) (by omega))).trans HCdo.out
      have HDi : Hid (DistIs n L t (dML n L t s [])) := by
        show DistIs _ _ _ _
        rw [dML_next]
        exact dS_ends hs1 fun x hx => by have := (HFr.out x).2 hx; rw [hw0] at this; cases this
      go_wp2_with fail
      go_ret
      exact ⟨g, _, rfl, by omega, HDi.out, HRw.out, HBA.out⟩
    · have hl0 : 0 < wait.length := List.length_pos_iff.2 hw0
      have hl1 : (0 : Int) < (wait.length : Int) := by omega
      have HW0 := Lib.hid hw0
      have HSb : Hid (s ≤ n + 1) := by
        show _ ≤ _
        have := HUn.out
        rw [if_neg hw0] at this
        omega
      clear hw0
      go_wp2_with fail
      go_loopw [9, 28] (fun nv i wr => BfsMid wA g n t s L wait nv i wr) (fun _ i _ => wait.length - (intOf i).toNat)
      case atStart => exact ⟨0, Nat.zero_le _, rfl, owns_nil, HRw.out, Chg.refl _ _⟩
      case round =>
        clear HRw
        obtain ⟨k, hk, rfl, hown, hrow, hC⟩ := hrel
        obtain ⟨wb, rfl⟩ : ∃ x, x = wr := ⟨_, rfl⟩
        have HNv := Lib.hid hown
        have HRb := Lib.hid hrow
        have HCb := Lib.hid hC
        have hgb := hrow.lt
        have hzb := hC.size
        have hBb : Below w.heap.size w wb := HBA.out.trans (hC.below HBA.out.size fun k hk e => by omega)
        have HBb := Lib.hid hBb
        clear hown hrow hC
        by_cases hkl : k < wait.length
        · obtain ⟨ad9, c9, hv9, hs9⟩ := src_list (owns_of_heap HOw.out (w' := wb) fun x hx => HCb.out.block x (owns_lt HOw.out x hx) (HNe.out x hx))
          cases hv9
          obtain ⟨b9, o9, rfl, hc9⟩ := hs9.plain (by omega)
          have z9 := hc9 k hkl
          rw [natI_at] at z9
          have hyn : wait.getD k 0 < n := HWn.out _ (by simp [List.getD, hkl])
          have htk : wait.take (k + 1) = wait.take k ++ [wait.getD k 0] := by
            rw [List.take_succ_eq_append_getElem hkl]; simp [List.getD, hkl]
          have hbs : backs n L (wait.take (k + 1)) = backs n L (wait.take k) ++ backR n L (wait.getD k 0 : Nat) := by rw [htk, backs_snoc]
          have hPn : ∀ x ∈ backs n L (wait.take k), x < n := fun x hx => by
            obtain ⟨y, -, hy⟩ := List.mem_flatMap.1 hx
            exact backR_in x hy
          have hBk := gr_back b n F L (wait.getD k 0 : Nat) wb (HG.out.below hBb (Nat.le_refl _)) (tab_below HT.out hBb (Nat.le_refl _))
          have hLl : ∀ x ∈ backR n L (wait.getD k 0 : Nat), x < n := fun x hx => backR_in x hx
          have hlen := backR_len n L (wait.getD k 0 : Nat)
          have hk0 : (0 : Int) ≤ (k : Int) := by omega
          have hk1 : (k : Int) < (wait.length : Int) := by omega
          have HBs := Lib.hid hbs
          generalize backR n L (wait.getD k 0 : Nat) = l at *
          generalize backs n L (wait.take k) = P at *
          generalize wait.getD k 0 = y at *
          have HPn := Lib.hid hPn
          have HBk := Lib.hid hBk
          have HLl := Lib.hid hLl
          clear hBk hLl hPn hbs htk hc9 hs9 hBb
          go_wp2_with fail
          go_fit HBk.out
          rintro e w8 ⟨v8, rfl, hO8, hB8⟩
          obtain ⟨ad8, c8, rfl⟩ := owns_slice hO8
          have HO8 := Lib.hid (owns_base (base' := wA.heap.size) hO8 fun q hq => Nat.le_trans hzb (World.ownsRow.lt hO8 q hq).1)
          have HNv8 := Lib.hid (owns_of_heap HNv.out (w' := w8) fun x hx => hB8.block x (owns_lt HNv.out x hx))
          have HRb8 := Lib.hid (HRb.out.below hB8 hgb)
          have HCb8 := Lib.hid (HCb.out.trans (below_chg1 hB8))
          have HNeq : Hid (∀ q, u9.ownBlock = some q → (Value.slice ad8 l.length c8).ownBlock ≠ some q) := fun q hq h2 => by
            have h3 := owns_lt HNv.out q hq
            have h4 := (World.ownsRow.lt hO8 q h2).1
            omega
          clear hB8 hO8
          go_wp2_with fail
          go_loopw [9, 36] (fun nv i wr => BfsIn wA g n t s L P l (Value.slice ad8 l.length c8) nv i wr) (fun _ i _ => l.length - (intOf i).toNat)
          case atStart => exact ⟨0, Nat.zero_le _, rfl, by simpa using HNv8.out, by simpa using HRb8.out, HCb8.out, HO8.out, HNeq.out⟩
          case round =>
            clear HNv HNv8 HRb8 HRb HO8 HNeq HCb HCb8 HBb
            obtain ⟨j, hj, rfl, hown, hrow, hC, hown2, hx⟩ := hrel
            obtain ⟨wc, rfl⟩ : ∃ x, x = wr := ⟨_, rfl⟩
            have HNv := Lib.hid hown
            have HRb := Lib.hid hrow
            have HCb := Lib.hid hC
            have HO8 := Lib.hid hown2
            have HNeq := Lib.hid hx
            have hgb := hrow.lt
            have hzc := hC.size
            have hBb : Below w.heap.size w wc := HBA.out.trans (hC.below HBA.out.size fun k hk e => by omega)
            have HBb := Lib.hid hBb
            clear hown hrow hC hown2 hx hBb
            by_cases hjl : j < l.length
            · obtain ⟨ad9, c9, hv9, hs9⟩ := src_list HO8.out
              cases hv9
              obtain ⟨b9, o9, rfl, hc9⟩ := hs9.plain (by omega)
              have z9 := hc9 j hjl
              rw [natI_at] at z9
              have htk : l.take (j + 1) = l.take j ++ [l.getD j 0] := by
                rw [List.take_succ_eq_append_getElem hjl]; simp [List.getD, hjl]
              have han : l.getD j 0 < n := HLl.out _ (by simp [List.getD, hjl])
              have hst : P ++ l.take (j + 1) = (P ++ l.take j) ++ [l.getD j 0] := by rw [htk, List.append_assoc]
              have hQn : ∀ x ∈ P ++ l.take j, x < n := fun x hx => by
                rcases List.mem_append.1 hx with hx | hx
                · exact HPn.out x hx
                · exact HLl.out x (List.mem_of_mem_take hx)
              have hnl := (nxF_len (L := L) (t := t) (s := s) hQn).2
              have HSt := Lib.hid hst
              generalize P ++ l.take j = Q at *
              generalize l.getD j 0 = a at *
              have ct := (World.cell?_of_block ((HC.out.trans HCb.out).block w.heap.size (by omega) (by omega))).trans HCto.out
              have cd := (World.cell?_of_block ((HC.out.trans HCb.out).block w3.heap.size (by omega) (by omega))).trans HCdo.out
              have hin := rin_any w.heap.size w3.heap.size g n a t (dML n L t s Q) wc hn han ct cd HRb.out
              have c0 := HRb.out.cell han
              have f0 := HRb.out.free a
              rw [dML_at han] at hin c0
              have hneg := dM_neg (L := L) (t := t) (a := a) (P := Q) hs1
              have hrng := dM_rng (L := L) (t := t) (a := a) (P := Q) hs1
              have ha0 : (0 : Int) ≤ (a : Int) := by omega
              have ha1 : (a : Int) < (n : Int) := by omega
              have hj0 : (0 : Int) ≤ (j : Int) := by omega
              have hj1 : (j : Int) < (l.length : Int) := by omega
              generalize dM L t s Q a = x at *
              have HNg := Lib.hid hneg
              clear hc9 hs9 htk hst hQn hneg
              by_cases hA : t < a ∧ x < 0
              · rw [decide_eq_true hA.1, decide_eq_true hA.2] at hin
                have hnew : distO L t s a = none ∧ a ∉ Q := by
                  rcases HNg.out.1 hA.2 with h | h
                  · omega
                  · exact h
                have HNx := Lib.hid (nxF_new hA.1 hnew.1 hnew.2)
                have HDs := Lib.hid (dM_snoc_set (P := Q) (Nat.le_of_lt hA.1) hnew.1 han)
                have HIn := Lib.hid hin
                have hgA : g < wA.heap.size := by omega
                have hbq : ((a : Int) == (t : Int)) = false := by rw [beq_eq_false_iff_ne]; have := hA.1; omega
                have esz : (wc.setCell ⟨g, a, none⟩ (.int .i64 s)).heap.size = wc.heap.size := by simp [World.setCell]
                have hnw := one_new (wc.setCell ⟨g, a, none⟩ (.int .i64 s)) (a : Int) 3
                rw [esz] at hnw
                have HNew := Lib.hid hnw
                have HNs := Lib.hid (ownsRow_setCell_below (a := ⟨g, a, none⟩) HNv.out hgA (.int .i64 s))
                have HSz : Hid (∀ o, ((wc.setCell ⟨g, a, none⟩ (.int .i64 s)).alloc o).heap.size = wc.heap.size + 1) := fun o => by simp [World.setCell]
                have HM : Hid ((nxF L t s Q).length + 1 ≤ maxLen ∧ ((nxF L t s Q).length + 1) * 8 ≤ 140737488355328) := by
                  show _ ∧ _
                  unfold maxLen; omega
                have HBase : Hid (wA.heap.size ≤ wc.heap.size + 1) := by show _ ≤ _; omega
                clear hin hnew hA esz hnw hrng
                generalize nxF L t s Q = X at *
                go_wp2_with fail
                go_fit HIn.out
                rintro e w' ⟨rfl, rfl⟩
                go_wp2_with (first | (at_builtin; go_loud (refine wpList_append_lies _ rfl _ _ 22 rfl wA.heap.size 3 i0 (.int .i64 0) 1 8 Tryd.underlying22 hi hz0 hz1 hz2 rfl (by decide) u9 X.length (intl (natI X)) rfl (HNs.out.alloc _) ⟨wc.heap.size, 0, none⟩ 1 1 [_] rfl rfl HNew.out (one_cell _ _) (by decide) HM.out.1 HM.out.2 (by rw [HSz.out]; exact HBase.out) (wc.heap.size + 1) (HSz.out _) ?_)) | fail)
                intro g2 c2 w5 hown5 hgrow5 hat5 hg25
                have hown9 : ∀ q, u9.ownBlock = some q → wA.heap.size ≤ q := fun q hq => (World.ownsRow.lt HNv.out q hq).1
                have hC5 : Chg (· = g) wA w5 := chg_grown2 ((HCb.out.set1 a (.int .i64 s)).alloc _) hgrow5 hown9
                have hkeep : ∀ q, q < wc.heap.size → q ≠ g → u9.ownBlock ≠ some q → w5.heap[q]? = wc.heap[q]? := fun q hq h1 h2 =>
                  (hgrow5.block q (by rw [HSz.out]; omega) (fun e => h2 e.symm)).trans ((heap_alloc_lt (by simp [World.setCell]; omega)).trans (((Chg.refl (· = g) wc).set1 a (.int .i64 s)).block q hq h1))
                have hR5 : IntRow w5 g n ((dML n L t s Q).set a (s : Int)) :=
                  ((HRb.out.put a (s : Int)).frame (heap_alloc_lt (o := .cells #[.int .i64 (a : Int)] 3) (by simp [World.setCell]; omega))).frame (hgrow5.block _ (by rw [HSz.out]; omega) (fun e => by have := hown9 _ e.symm; omega))
                have hO5 := owns_of_heap HO8.out (w' := w5) fun q hq => hkeep q (owns_lt HO8.out q hq) (fun e => by have := (World.ownsRow.lt HO8.out q hq).1; omega) (fun e => HNeq.out q e hq)
                have ct5 := (World.cell?_of_block ((HC.out.trans hC5).block w.heap.size (by omega) (by omega))).trans HCto.out
                have HNe5 : Hid (∀ q, (Value.slice (some ⟨g2, 0, none⟩) (X.length + 1) c2).ownBlock = some q → (Value.slice (some ⟨b9, o9, none⟩) l.length c8).ownBlock ≠ some q) := fun q hq h2 => by
                  have h3 : some g2 = some q := hq
                  cases h3
                  rcases hat5 with h | h
                  · exact HNeq.out _ h h2
                  · have := owns_lt HO8.out _ h2
                    omega
                have HO5 := Lib.hid hO5
                have HR5 := Lib.hid hR5
                have HC5 := Lib.hid hC5
                have HX5 := Lib.hid hown5
                clear hown5 hgrow5 hat5 hown9 hkeep hR5 hO5 hC5 hg25
                go_wp2_with fail
                go_roundw
                case rel =>
                  refine ⟨j + 1, hjl, by go_num, ?_, ?_, HC5.out, HO5.out, HNe5.out⟩
                  · rw [HSt.out, HNx.out, List.length_append, intl_natI_snoc]
                    exact HX5.out
                  · rw [HSt.out, ← HDs.out]
                    exact HR5.out
                case measure => simp [intOf]; omega
              · have hf : (decide (t < a) && decide (x < 0)) = false := Bool.eq_false_iff.2 fun h => hA (by
                  rw [Bool.and_eq_true, decide_eq_true_iff, decide_eq_true_iff] at h
                  exact h)
                rw [hf] at hin
                have HIn := Lib.hid hin
                have HA := Lib.hid hA
                clear hin hf hA hrng
                by_cases hB : a = t
                · have hbq : ((a : Int) == (t : Int)) = true := by rw [hB]; simp
                  have c0t : wc.cell? ⟨g, t, none⟩ = some (.int .i64 x) := by rw [← hB]; exact c0
                  have f0t : wc.frozen? ⟨g, t, none⟩ = false := by rw [← hB]; exact f0
                  have ht0 : (0 : Int) ≤ (t : Int) := by omega
                  have ht1 : (t : Int) < (n : Int) := by omega
                  by_cases hx : x < 0
                  · have hnew : distO L t s a = none ∧ a ∉ Q := by
                      rcases HNg.out.1 hx with h | h
                      · omega
                      · exact h
                    have HNx := Lib.hid (nxF_same (L := L) (t := t) (s := s) (P := Q) (a := a) (fun h => by have := h.1; omega))
                    have hset : (dML n L t s Q).set t (s : Int) = (dML n L t s Q).set a (s : Int) := by rw [hB]
                    have HDs := Lib.hid (hset.trans (dM_snoc_set (P := Q) (by omega) hnew.1 han))
                    clear hset hnew c0 f0 hB
                    go_wp2_with fail
                    go_fit HIn.out
                    rintro e w' ⟨rfl, rfl⟩
                    go_wp2_with fail
                    go_roundw
                    case rel =>
                      refine ⟨j + 1, hjl, by go_num, ?_, ?_, HCb.out.set1 _ _, ?_, HNeq.out⟩
                      · rw [HSt.out, HNx.out]
                        exact owns_of_heap HNv.out fun q hq => ((Chg.refl (· = g) wc).set1 t (.int .i64 s)).block q (owns_lt HNv.out q hq) (fun e => by have := (World.ownsRow.lt HNv.out q hq).1; omega)
                      · rw [HSt.out, ← HDs.out]
                        exact HRb.out.put t (s : Int)
                      · exact owns_of_heap HO8.out fun q hq => ((Chg.refl (· = g) wc).set1 t (.int .i64 s)).block q (owns_lt HO8.out q hq) (fun e => by have := (World.ownsRow.lt HO8.out q hq).1; omega)
                    case measure => simp [intOf]; omega
                  · have HNx := Lib.hid (nxF_same (L := L) (t := t) (s := s) (P := Q) (a := a) (fun h => by have := h.1; omega))
                    have HDs := Lib.hid (dM_snoc_same (n := n) (L := L) (t := t) (s := s) (P := Q) (a := a) (fun h => hx (HNg.out.2 (.inr h.2))))
                    clear c0 f0 hB
                    go_wp2_with fail
                    go_fit HIn.out
                    rintro e w' ⟨rfl, rfl⟩
                    go_wp2_with fail
                    go_roundw
                    case rel =>
                      refine ⟨j + 1, hjl, by go_num, ?_, ?_, HCb.out, HO8.out, HNeq.out⟩
                      · rw [HSt.out, HNx.out]; exact HNv.out
                      · rw [HSt.out, HDs.out]; exact HRb.out
                    case measure => simp [intOf]; omega
                · have hbq : ((a : Int) == (t : Int)) = false := by rw [beq_eq_false_iff_ne]; omega
                  have HNx := Lib.hid (nxF_same (L := L) (t := t) (s := s) (P := Q) (a := a) (fun h => HA.out ⟨h.1, HNg.out.2 (.inr h.2)⟩))
                  have HDs := Lib.hid (dM_snoc_same (n := n) (L := L) (t := t) (s := s) (P := Q) (a := a) (fun h => HA.out ⟨by have := h.1; omega, HNg.out.2 (.inr h.2)⟩))
                  clear c0 f0 hB
                  go_wp2_with fail
                  go_fit HIn.out
                  rintro e w' ⟨rfl, rfl⟩
                  go_wp2_with fail
                  go_roundw
                  case rel =>
                    refine ⟨j + 1, hjl, by go_num, ?_, ?_, HCb.out, HO8.out, HNeq.out⟩
                    · rw [HSt.out, HNx.out]; exact HNv.out
                    · rw [HSt.out, HDs.out]; exact HRb.out
                  case measure => simp [intOf]; omega
            · obtain rfl : j = l.length := by omega
              go_wp2_with fail
              go_roundw
              case rel =>
                refine ⟨k + 1, hkl, by go_num, ?_, ?_, HCb.out⟩
                · rw [HBs.out]; have h := HNv.out; rw [List.take_length] at h; exact h
                · rw [HBs.out]; have h := HRb.out; rw [List.take_length] at h; exact h
              case measure => simp [intOf]; omega
        · obtain rfl : k = wait.length := by omega
          have hown := HNv.out
          have hrow := HRb.out
          rw [List.take_length] at hown hrow
          have hP := fun a => mem_backs HL.out (wait := wait) a
          have hfr' := nxF_done hs1 HFr.out hP
          have hdd := dM_done (n := n) hs1 HFr.out hP
          rw [← dML_next] at hdd
          rw [hdd] at hrow
          have hPn : ∀ x ∈ backs n L wait, x < n := fun x hx => by
            obtain ⟨y, -, hy⟩ := List.mem_flatMap.1 hx
            exact backR_in x hy
          have hXl := (nxF_len (L := L) (t := t) (s := s) hPn).2
          have hXn : ∀ x ∈ nxF L t s (backs n L wait), x < n := fun x hx => hPn x ((mem_nxF _ x).1 hx).1
          have hmo := unk_mono (n := n) (L := L) (t := t) (s := s)
          have hle : nxF L t s (backs n L wait) ≠ [] → unk n L t (s + 1) + 1 ≤ unk n L t s := fun h => by
            obtain ⟨y, Y, hy⟩ := List.exists_cons_of_ne_nil h
            exact unk_less HL.out hs1 ((hfr' y).1 (by rw [hy]; simp))
          have hun := HUn.out
          rw [if_neg HW0.out] at hun
          generalize nxF L t s (backs n L wait) = X at *
          obtain ⟨adn, cn, rfl⟩ := owns_slice hown
          have HOx := Lib.hid (owns_base hown fun _ _ => Nat.zero_le _)
          have HXg : Hid (∀ q, (Value.slice adn X.length cn).ownBlock = some q → q ≠ g) := fun q hq e => by have := (World.ownsRow.lt hown q hq).1; omega
          have HRx := Lib.hid hrow
          have HFx := Lib.hid hfr'
          have HXn := Lib.hid hXn
          have HUx : Hid (s + 1 + unk n L t (s + 1) ≤ n + 1 + (if X = [] then 1 else 0)) := by
            show _ ≤ _
            by_cases h : X = []
            · rw [if_pos h]; omega
            · rw [if_neg h]; have := hle h; omega
          have HMs : Hid (2 * unk n L t (s + 1) + (if X.length = 0 then 0 else 1) < 2 * unk n L t s + (if wait.length = 0 then 0 else 1)) := by
            show _ < _
            rw [if_neg (show ¬ wait.length = 0 by omega)]
            by_cases h : X = []
            · rw [if_pos (by rw [h]; rfl)]; omega
            · rw [if_neg (fun e => h (List.length_eq_zero_iff.1 e))]; have := hle h; omega
          have hsb := HSb.out
          have hXl1 : X.length ≤ n + 1 := by omega
          clear hown hrow hP hfr' hdd hPn hXn hmo hle hun hXl
          go_wp2_with fail
          go_roundw
          case rel => exact ⟨s + 1, X, by omega, by go_num, HFx.out, HXn.out, hXl1, HUx.out, HOx.out, HXg.out, HRx.out, HC.out.trans HCb.out⟩
          case measure =>
            have e1 : ((s : Int) + 1).toNat = s + 1 := by omega
            simp only [intOf, sliceLen, Int.toNat_natCast, e1]
            exact HMs.out
end Go.Proofs.YtafdijcolponjaaDoor
