/- base.SameInts tells whether two rows of integers are the same. Condition: each has at most 2 to the power 62 cells. -/
import Derived.Test.YtifjjcenmilohaaDoorInts
import Derived.Test.YtifjjcenmilohaaDoorRegion
namespace Go.Proofs.YtifjjcenmilohaaDoor
open Go.RowKit

def sameB (l m : List Int) : Bool := decide (l = m)
theorem sameB_self (l : List Int) : sameB l l = true := decide_eq_true rfl

def intl (l : List Int) : List Value := l.map (Value.int .i64)

theorem Src.nth {w : World} {a : Option Addr} {len cap : Nat} {l : List Int} (h : Src w a len cap 1 (intl l)) {i : Nat} (hi : i < len) :
    ∃ x, a = some x ∧ w.cell? (x.add i) = some (.int .i64 (l.getD i 0)) := by
  obtain ⟨h1, h2, h3, h4, h5, h6⟩ := h
  have hl : i < l.length := by simp [intl] at h1; omega
  cases a with
  | none => have := h2 rfl; omega
  | some x => exact ⟨x, rfl, h5 x rfl i _ (by simp [intl, hl])⟩

/-- Where a row with cells begins, at a plain address. -/
theorem Src.plain {w : World} {a : Option Addr} {len cap : Nat} {l : List Int} (h : Src w a len cap 1 (intl l)) (hp : 0 < len) :
    ∃ b o, a = some ⟨b, o, none⟩ ∧ ∀ i, i < len → w.cell? ⟨b, o + i, none⟩ = some (.int .i64 (l.getD i 0)) := by
  obtain ⟨x, hx, h0⟩ := h.nth hp
  obtain ⟨b, o, s⟩ := x
  have hs : s = none := by
    cases s with
    | none => rfl
    | some q => simp only [World.cell?, Addr.add] at h0; split at h0 <;> simp at h0
  subst hs
  refine ⟨b, o, hx, fun i hi => ?_⟩
  obtain ⟨y, hy, hc⟩ := h.nth hi
  rw [hx] at hy
  cases hy
  rw [← hc]
  unfold Addr.add
  split
  · rename_i h0; subst h0; rfl
  · rfl

def SameRel (w : World) (n : Nat) (l m : List Int) (i : Value) (wr : World) : Prop :=
  ∃ k : Nat, k ≤ n ∧ i = .int .i64 k ∧ (∀ j, j < k → l.getD j 0 = m.getD j 0) ∧ Same w wr

def SameEnds (l m : List Int) (w : World) (e : Ending) (w' : World) : Prop := e = .returned (.bool (sameB l m)) ∧ Same w w'

theorem sameB_no_len {l m : List Int} (h : l.length ≠ m.length) : sameB l m = false := decide_eq_false fun e => h (by rw [e])
theorem sameB_no {l m : List Int} {j : Nat} (h : l.getD j 0 ≠ m.getD j 0) : sameB l m = false := decide_eq_false fun e => h (by rw [e])
theorem sameB_yes {l m : List Int} (h : l.length = m.length) (hj : ∀ j, j < l.length → l.getD j 0 = m.getD j 0) : sameB l m = true := by
  refine decide_eq_true (List.ext_getElem h fun j h1 h2 => ?_)
  have := hj j h1
  simpa [List.getD, h1, h2] using this

set_option maxHeartbeats 400000 in
theorem same_any (a b : Option Addr) (la ca lb cb : Nat) (l m : List Int) (w : World) (ha : Src w a la ca 1 (intl l)) (hb : Src w b lb cb 1 (intl m)) :
    Calls Tryd.prog 22 #[.slice a la ca, .slice b lb cb] w (SameEnds l m w) := by
  have hla : l.length = la := by have := ha.1; simpa [intl] using this
  have hlb : m.length = lb := by have := hb.1; simpa [intl] using this
  have hma := ha.2.2.1
  have hmb := hb.2.2.1
  have hxa := ha.2.2.2.1
  have hxb := hb.2.2.2.1
  unfold maxLen at hxa hxb
  have HA := Lib.hid ha
  have HB := Lib.hid hb
  have HLA := Lib.hid hla
  have HLB := Lib.hid hlb
  clear ha hb hla hlb
  by_cases hne : la = lb
  · subst hne
    go_enter Tryd.func22, Tryd.ntmps22
    go_wp2_with fail
    go_loopw [5] (fun i wr => SameRel w la l m i wr) (fun i _ => la - (intOf i).toNat)
    case atStart => exact ⟨0, Nat.zero_le _, rfl, fun j hj => by omega, Same.refl _⟩
    case round =>
      obtain ⟨k, hk, rfl, hall, hS⟩ := hrel
      have HALL := Lib.hid hall
      clear hall
      by_cases hlt : k < la
      · obtain ⟨ba, oa, rfl, hca⟩ := HA.out.plain (by omega)
        obtain ⟨bb, ob, rfl, hcb⟩ := HB.out.plain (by omega)
        have h1 := hS.cell (hca k hlt)
        have h2 := hS.cell (hcb k hlt)
        have HS := Lib.hid hS
        clear hS hca hcb
        have hk0 : (0 : Int) ≤ (k : Int) := Int.natCast_nonneg _
        have hk1 : (k : Int) < (la : Int) := by omega
        by_cases heq : l.getD k 0 = m.getD k 0
        · have HE := Lib.hid heq
          rw [heq] at h1
          clear heq
          generalize m.getD k 0 = x at h1 h2
          go_wp2_with fail
          go_quiet (fail)
          go_wp2_with fail
          go_roundw
          case rel => exact ⟨k + 1, by omega, by go_num, fun j hj => by
                        rcases Nat.lt_or_ge j k with g | g
                        · exact HALL.out j g
                        · obtain rfl : j = k := by omega
                          exact HE.out, HS.out.drewN _⟩
          case measure => simp [intOf]; omega
        · have hq : (l.getD k 0 != m.getD k 0) = true := by simpa using heq
          have HE := Lib.hid heq
          clear heq
          generalize hx : l.getD k 0 = x at h1 hq
          generalize hy : m.getD k 0 = y at h2 hq
          have HX := Lib.hid hx
          have HY := Lib.hid hy
          clear hx hy
          go_wp2_with fail
          go_quiet (fail)
          go_wp2_with fail
          go_ret
          exact ⟨ret_bool (sameB_no HE.out).symm, HS.out.drewN _⟩
      · obtain rfl : k = la := by omega
        have HS := Lib.hid hS
        clear hS
        go_wp2_with fail
        go_ret
        exact ⟨ret_bool (sameB_yes (HLA.out.trans HLB.out.symm) (by rw [HLA.out]; exact HALL.out)).symm, HS.out⟩
  · have hq : ((la : Int) != (lb : Int)) = true := by simp; omega
    have HN := Lib.hid hne
    clear hne
    go_enter Tryd.func22, Tryd.ntmps22
    go_wp2_with fail
    go_ret
    exact ⟨ret_bool (sameB_no_len (by rw [HLA.out, HLB.out]; exact HN.out)).symm, Same.refl _⟩
end Go.Proofs.YtifjjcenmilohaaDoor
