/- The document's domain in memory; the contracts of its there, Left. Conditions: rows of 1 to 60 truths, at most 200. -/
import Derived.Test.YtifjjcenmilohaaDoorDomL
namespace Go.Proofs.YtifjjcenmilohaaDoor
open Go.RowKit

/-- What was when a level began: where it lies, the rows, the blocks. -/
abbrev KeptR := Value × List (List Bool) × List Nat
structure DRefAt (w : World) (r : Nat) (vI vT : Value) (F0 F : List Nat) (R : List (List Bool)) (hs : List KeptR) : Prop where
  at_ : w.heap[r]? = some (.cells #[vI, vT] 54 (0, 0))
  now : RowsAt w vI R F0
  thn : w.ownsRow 0 51 1 vT hs.length (hs.map (·.1))
  kept : ∀ h ∈ hs, RowsAt w h.1 h.2.1 h.2.2
  lt : ∀ k ∈ F, k < w.heap.size
  rF : r ∈ F
  tF : ∀ q, vT.ownBlock = some q → q ∈ F ∧ q ≠ r ∧ q ∉ F0 ∧ ∀ h ∈ hs, q ∉ h.2.2
  nF : ∀ q ∈ F0, q ∈ F ∧ q ≠ r ∧ ∀ h ∈ hs, q ∉ h.2.2
  hF : ∀ h ∈ hs, ∀ q ∈ h.2.2, q ∈ F ∧ q ≠ r
  hD : hs.Pairwise (fun a b => ∀ q ∈ a.2.2, q ∉ b.2.2)
theorem DRefAt.frame {w w' : World} {r : Nat} {vI vT : Value} {F0 F : List Nat} {R : List (List Bool)} {hs : List KeptR} (h : DRefAt w r vI vT F0 F R hs) (hb : ∀ k ∈ F, w'.heap[k]? = w.heap[k]?) (hs' : w.heap.size ≤ w'.heap.size) : DRefAt w' r vI vT F0 F R hs :=
  ⟨(hb r h.rF).trans h.at_, h.now.frame (fun k hk => hb k (h.nF k hk).1) hs', owns_of_heap h.thn fun q hq => hb q (h.tF q hq).1, fun x hx => (h.kept x hx).frame (fun k hk => hb k (h.hF x hx k hk).1) hs', fun k hk => by have := h.lt k hk; omega,
    h.rF, h.tF, h.nF, h.hF, h.hD⟩
def DRef (w : World) (r : Nat) (F : List Nat) (R : List (List Bool)) (hs : List KeptR) : Prop := ∃ vI vT F0, DRefAt w r vI vT F0 F R hs
theorem DRef.lt {w : World} {r : Nat} {F : List Nat} {R : List (List Bool)} {hs : List KeptR} (h : DRef w r F R hs) : ∀ k ∈ F, k < w.heap.size := by obtain ⟨_, _, _, h⟩ := h; exact h.lt
theorem DRef.frame {w w' : World} {r : Nat} {F : List Nat} {R : List (List Bool)} {hs : List KeptR} (h : DRef w r F R hs) (hb : ∀ k ∈ F, w'.heap[k]? = w.heap[k]?) (hs' : w.heap.size ≤ w'.heap.size) : DRef w' r F R hs := by
  obtain ⟨a, b, c, h⟩ := h; exact ⟨a, b, c, h.frame hb hs'⟩
theorem DRef.below {w w' : World} {r : Nat} {F : List Nat} {R : List (List Bool)} {hs : List KeptR} (h : DRef w r F R hs) {B : Nat} (hB : Below B w w') (hw : w.heap.size ≤ B) : DRef w' r F R hs :=
  h.frame (fun k hk => hB.block k (by have := h.lt k hk; omega)) hB.size
def RDEnds (r : Nat) (F : List Nat) (v : Value) (R : List (List Bool)) (hs : List KeptR) (w : World) (e : Ending) (w' : World) : Prop :=
  e = .returned v ∧ ∃ F', DRef w' r F' R hs ∧ (∀ k ∈ F', k ∈ F ∨ w.heap.size ≤ k) ∧ Chg (· ∈ F) w w'
theorem rd_idle {r : Nat} {F : List Nat} {v : Value} {R : List (List Bool)} {hs : List KeptR} {w : World} (h : DRef w r F R hs) : RDEnds r F v R hs w (.returned v) w := ⟨rfl, F, h, fun _ hk => .inl hk, Chg.refl _ _⟩
theorem rd_below {r : Nat} {F : List Nat} {v : Value} {R : List (List Bool)} {hs : List KeptR} {w w' : World} (h : DRef w r F R hs) (hB : Below w.heap.size w w') : RDEnds r F v R hs w (.returned v) w' :=
  ⟨rfl, F, h.below hB (Nat.le_refl _), fun _ hk => .inl hk, ⟨hB.os, hB.tape, hB.output, hB.size, fun k hk _ => hB.block k hk⟩⟩

def thereB (R : List (List Bool)) (v k : Int) : Bool := decide (0 ≤ v ∧ v < (R.length : Int)) && decide (0 ≤ k ∧ k < ((R.getD v.toNat []).length : Int))
theorem rthere_any (r : Nat) (F : List Nat) (R : List (List Bool)) (hs : List KeptR) (v k : Int) (w : World) (h : DRef w r F R hs) :
    Calls Tryd.prog 31 #[.pointer (some ⟨r, 0, none⟩), .int .i64 v, .int .i64 k] w fun e w' => e = .returned (.bool (thereB R v k)) ∧ w = w' := by
  obtain ⟨vI, vT, F0, h⟩ := h
  have c0 : w.cell? ⟨r, 0, none⟩ = some vI := cell_at 0 h.at_ rfl
  have hn := h.now
  clear h
  unfold thereB
  by_cases hv : 0 ≤ v ∧ v < (R.length : Int)
  · rw [decide_eq_true hv, Bool.true_and]
    obtain ⟨i, rfl⟩ := Int.eq_ofNat_of_zero_le hv.1
    have hv0 := hv.1
    have hv1 := hv.2
    obtain ⟨g, c, a, cc, rfl, hc1, hc2, hcell, hc3, hc4, -, -⟩ := hn.row (i := i) (by omega)
    rw [Int.toNat_natCast]
    generalize R.getD i [] = x at *
    generalize R.length = n at *
    clear hn hv
    by_cases hk : 0 ≤ k
    · by_cases hk1 : k < (x.length : Int)
      · rw [decide_eq_true ⟨hk, hk1⟩]
        go_enter Tryd.func31, Tryd.ntmps31
        go_wp2_with fail
        go_ret
        exact ⟨rfl, rfl⟩
      · rw [decide_eq_false (by omega)]
        go_enter Tryd.func31, Tryd.ntmps31
        go_wp2_with fail
        go_ret
        exact ⟨rfl, rfl⟩
    · rw [decide_eq_false (by omega)]
      go_enter Tryd.func31, Tryd.ntmps31
      go_wp2_with fail
      go_ret
      exact ⟨rfl, rfl⟩
  · rw [decide_eq_false hv, Bool.false_and]
    obtain ⟨a, c, rfl, -, -⟩ := hn.form
    generalize R.length = n at *
    clear hn
    by_cases h0 : 0 ≤ v
    · have h1 : ¬ v < (n : Int) := by omega
      clear hv
      go_enter Tryd.func31, Tryd.ntmps31
      go_wp2_with fail
      go_ret
      exact ⟨rfl, rfl⟩
    · clear hv
      go_enter Tryd.func31, Tryd.ntmps31
      go_wp2_with fail
      go_ret
      exact ⟨rfl, rfl⟩

def leftB (R : List (List Bool)) (v : Int) : List Nat := if 0 ≤ v ∧ v < (R.length : Int) then (List.range (R.getD v.toNat []).length).filter (fun k => (R.getD v.toNat []).getD k false) else []
theorem rleft_any (r : Nat) (F : List Nat) (R : List (List Bool)) (hs : List KeptR) (v : Int) (w : World) (h : DRef w r F R hs) (hR : RowsOk R) :
    Calls Tryd.prog 20 #[.pointer (some ⟨r, 0, none⟩), .int .i64 v] w (ListEnds (leftB R v) w) := by
  have HD := Lib.hid h
  obtain ⟨i0, hi, hz0, hz1, hz2⟩ := info_parts infoInt
  obtain ⟨vI, vT, F0, h⟩ := h
  have hn := h.now
  have h0 := h.at_
  have c0 : (w.alloc (.cells #[] 3)).cell? ⟨r, 0, none⟩ = some vI := cell_alloc (cell_at 0 h.at_ rfl)
  have hrow := World.ownsRow_made (base := w.heap.size) (e := 3) (size := 1) w #[] 0 (Nat.le_refl _) (by decide) rfl
  have HRow := Lib.hid hrow
  have HBl := Lib.hid ((Below.refl w.heap.size w).alloc (Nat.le_refl _) (.cells #[] 3))
  unfold leftB
  clear h hrow
  by_cases hv : 0 ≤ v ∧ v < (R.length : Int)
  · rw [if_pos hv]
    obtain ⟨i, rfl⟩ := Int.eq_ofNat_of_zero_le hv.1
    have hv0 := hv.1
    have hv1 := hv.2
    have hil : i < R.length := by omega
    obtain ⟨hx1, hx2⟩ := hR.2 i hil
    obtain ⟨g, c, a, cc, rfl, hc1, hc2, hcell, hc3, hc4, hown, -⟩ := hn.row hil
    rw [Int.toNat_natCast]
    generalize R.getD i [] = x at *
    have hp : ∃ p : Nat → Bool, p = fun k => x.getD k false := ⟨_, rfl⟩
    obtain ⟨p, hp⟩ := hp
    rw [← hp]
    have HP := Lib.hid hp
    generalize R.length = n at *
    have H0 := Lib.hid h0
    have HC := Lib.hid hcell
    have HX := Lib.hid hown
    have hxl : x.length ≤ 60 := hx2
    clear hn hv hp h0 hown hR HD hx1 hx2 hcell
    go_enter Tryd.func20, Tryd.ntmps20
    go_wp2_with fail
    go_loopw [5, 6] (fun v i wr => RListRel w x.length p v i wr) (fun _ i _ => x.length - (intOf i).toNat)
    case atStart => exact ⟨0, Nat.zero_le _, rfl, HRow.out, HBl.out⟩
    case round =>
      clear HRow HBl c0
      obtain ⟨k, hk, rfl, hown, hB⟩ := hrel
      have c0 := cell_at 0 ((hB.block r (lt_of_block H0.out)).trans H0.out) rfl
      have c1 := (hB.cell (p := ⟨g, i, none⟩) (World.block_lt_of_cell? w _ HC.out)).trans HC.out
      have hk0 : (0 : Int) ≤ (k : Int) := by omega
      have HS := Lib.hid (filter_succ p k)
      have HL := filter_len p k
      have hpk : p k = x.getD k false := by rw [HP.out]
      have HO := Lib.hid hown
      have HB := Lib.hid hB
      by_cases hlt : k < x.length
      · have hk1 : (k : Int) < (x.length : Int) := by omega
        rcases owns_shape HX.out with ⟨h0, h0'⟩ | ⟨q, c', hq, -, -⟩
        · omega
        simp only [Value.slice.injEq] at hq
        obtain ⟨rfl, -, -⟩ := hq
        have c2 : wr.cell? ⟨q, k, none⟩ = some (.bool (x.getD k false)) := by
          have h1 := (HX.out.cellAt k (by omega)).trans (bv_at hlt)
          exact (hB.cell (p := ⟨q, k, none⟩) (World.block_lt_of_cell? w _ h1)).trans h1
        rw [← hpk] at c2
        generalize (List.range k).filter p = l at *
        have HM : Hid (l.length + 1 ≤ maxLen ∧ (l.length + 1) * 8 ≤ 140737488355328) := by
          show _ ∧ _
          unfold maxLen; omega
        generalize hpb : p k = pb at *
        cases pb with
        | false =>
          rw [if_neg (by simp), List.append_nil] at HS
          clear hown hB hpk hpb
          go_wp2_with fail
          go_roundw
          case rel => exact ⟨k + 1, by omega, by go_num, by rw [HS.out]; exact HO.out, HB.out⟩
          case measure => simp [intOf]; omega
        | true =>
          rw [if_pos rfl] at HS
          have hb2 : Hid (∀ o, w.heap.size ≤ (wr.alloc o).heap.size) := fun o => by have := hB.size; simp; omega
          clear hown hB hpk hpb
          go_wp2_with (first | (at_builtin; go_loud (refine wpList_append_own _ rfl _ _ 22 rfl w.heap.size 3 i0 (.int .i64 0) 1 8 Tryd.underlying22 hi hz0 hz1 hz2 rfl (by decide) _ l.length (intl (natI l)) rfl (HO.out.alloc _) ⟨wr.heap.size, 0, none⟩ 1 1 [_] rfl rfl (one_new wr _ _) (one_cell _ _) HM.out.1 HM.out.2 (hb2.out _) ?_)) | fail)
          intro v' w2 hown1 hgrow hnn
          have HO2 := Lib.hid hown1
          have HG := Lib.hid hgrow
          clear hnn hown1 hgrow
          go_wp2_with fail
          go_roundw
          case rel =>
            refine ⟨k + 1, by omega, by go_num, ?_, (HB.out.alloc HB.out.size _).grown HG.out (hb2.out _) (fun q hq => (World.ownsRow.lt HO.out q hq).1)⟩
            rw [HS.out]
            have e : intl (natI (l ++ [k])) = intl (natI l) ++ [Value.int .i64 (k : Int)] := by simp [intl, natI]
            rw [e, List.length_append]
            exact HO2.out
          case measure => simp [intOf]; omega
      · obtain rfl : k = x.length := by omega
        clear hown hB hpk
        go_wp2_with fail
        go_ret
        exact ⟨_, rfl, HO.out, HB.out⟩
  · rw [if_neg hv]
    obtain ⟨a, c, rfl, -, -⟩ := hn.form
    generalize R.length = n at *
    have hlen : (0 : Int) ≤ 0 := by decide
    clear hn hR HD
    by_cases h00 : 0 ≤ v
    · have h1 : ¬ v < (n : Int) := by omega
      clear hv h0
      go_enter Tryd.func20, Tryd.ntmps20
      go_wp2_with fail
      go_loopw [5, 6] (fun v i wr => v = .slice (some ⟨w.heap.size, 0, none⟩) 0 0 ∧ i = .int .i64 0 ∧ wr = w.alloc (.cells #[] 3)) (fun _ i _ => 0)
      case atStart => exact ⟨rfl, rfl, rfl⟩
      case round =>
        obtain ⟨rfl, rfl, rfl⟩ := hrel
        go_wp2_with fail
        go_ret
        exact ⟨_, rfl, HRow.out, HBl.out⟩
    · clear hv h0
      go_enter Tryd.func20, Tryd.ntmps20
      go_wp2_with fail
      go_loopw [5, 6] (fun v i wr => v = .slice (some ⟨w.heap.size, 0, none⟩) 0 0 ∧ i = .int .i64 0 ∧ wr = w.alloc (.cells #[] 3)) (fun _ i _ => 0)
      case atStart => exact ⟨rfl, rfl, rfl⟩
      case round =>
        obtain ⟨rfl, rfl, rfl⟩ := hrel
        go_wp2_with fail
        go_ret
        exact ⟨_, rfl, HRow.out, HBl.out⟩
end Go.Proofs.YtifjjcenmilohaaDoor
