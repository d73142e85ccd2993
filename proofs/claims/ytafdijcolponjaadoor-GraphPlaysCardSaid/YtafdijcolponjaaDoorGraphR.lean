/- deemsterref19.SameEdges tells whether two rows of edges are the same. No condition but those in each statement. -/
import Derived.Test.YtafdijcolponjaaDoorGraphO
namespace Go.Proofs.YtafdijcolponjaaDoor
open Go.RowKit

def sameE (l m : List (Nat × Nat)) : Bool := decide (l = m)
theorem sameE_self (l : List (Nat × Nat)) : sameE l l = true := decide_eq_true rfl
def ERel (w : World) (n : Nat) (l m : List (Nat × Nat)) (i : Value) (wr : World) : Prop :=
  ∃ k : Nat, k ≤ n ∧ i = .int .i64 k ∧ (∀ j, j < k → l.getD j (0, 0) = m.getD j (0, 0)) ∧ Same w wr
def SameEEnds (l m : List (Nat × Nat)) (w : World) (e : Ending) (w' : World) : Prop := e = .returned (.bool (sameE l m)) ∧ Same w w'
theorem sameE_no_len {l m : List (Nat × Nat)} (h : l.length ≠ m.length) : sameE l m = false := decide_eq_false fun e => h (by rw [e])
theorem sameE_no {l m : List (Nat × Nat)} {j : Nat} (h : l.getD j (0, 0) ≠ m.getD j (0, 0)) : sameE l m = false := decide_eq_false fun e => h (by rw [e])
theorem sameE_yes {l m : List (Nat × Nat)} (h : l.length = m.length) (hj : ∀ j, j < l.length → l.getD j (0, 0) = m.getD j (0, 0)) : sameE l m = true := by
  refine decide_eq_true (List.ext_getElem h fun j h1 h2 => ?_)
  have := hj j h1
  simpa [List.getD, h1, h2] using this
theorem edgeCells_at : ∀ (L : List (Nat × Nat)) (i : Nat), i < L.length → (edgeCells L)[i * 2]? = some (.int .i64 ((L.getD i (0, 0)).1 : Int)) ∧ (edgeCells L)[i * 2 + 1]? = some (.int .i64 ((L.getD i (0, 0)).2 : Int))
  | [], i, h => absurd h (Nat.not_lt_zero i)
  | e :: L, 0, _ => ⟨rfl, rfl⟩
  | e :: L, i + 1, h => by
    have ih := edgeCells_at L i (by simpa using h)
    have h2 : edgeCells (e :: L) = .int .i64 (e.1 : Int) :: .int .i64 (e.2 : Int) :: edgeCells L := by simp [edgeCells]
    rw [h2, show (i + 1) * 2 = i * 2 + 1 + 1 by omega]
    simpa using ih
theorem edges_at {w : World} {base n c : Nat} {a : Option Addr} {L : List (Nat × Nat)} (h : w.ownsRow base 61 2 (.slice a n c) n (edgeCells L)) {i : Nat} (hi : i < n) :
    ∃ g, a = some ⟨g, 0, none⟩ ∧ w.cell? ⟨g, i * 2, none⟩ = some (.int .i64 ((L.getD i (0, 0)).1 : Int)) ∧ w.cell? ⟨g, i * 2 + 1, none⟩ = some (.int .i64 ((L.getD i (0, 0)).2 : Int)) := by
  have hl : L.length = n := by have := h.1; rw [edgeCells_len] at this; omega
  rcases owns_shape h with ⟨_, h0⟩ | ⟨g, cap, hv, hc, hm⟩
  · omega
  · cases hv
    have := edgeCells_at L i (by omega)
    exact ⟨g, rfl, (h.cellAt (i * 2) (by omega)).trans this.1, (h.cellAt (i * 2 + 1) (by omega)).trans this.2⟩
theorem owns_max {w : World} {base e size n c : Nat} {a : Option Addr} {xs : List Value} (h : w.ownsRow base e size (.slice a n c) n xs) : n ≤ 9223372036854775807 := by
  rcases owns_shape h with ⟨_, h0⟩ | ⟨g, cap, hv, hc, hm⟩
  · omega
  · cases hv; unfold maxLen at hm; omega

set_option maxHeartbeats 400000 in
theorem sameE_any (a b : Option Addr) (la ca lb cb : Nat) (l m : List (Nat × Nat)) (w : World) (ha : w.ownsRow 0 61 2 (.slice a la ca) la (edgeCells l)) (hb : w.ownsRow 0 61 2 (.slice b lb cb) lb (edgeCells m)) :
    Calls Tryd.prog 50 #[.slice a la ca, .slice b lb cb] w (SameEEnds l m w) := by
  have hla : l.length = la := by have := ha.1; rw [edgeCells_len] at this; omega
  have hlb : m.length = lb := by have := hb.1; rw [edgeCells_len] at this; omega
  have hma := owns_max ha
  have hmb := owns_max hb
  have HA := Lib.hid ha
  have HB := Lib.hid hb
  have HLA := Lib.hid hla
  have HLB := Lib.hid hlb
  clear ha hb hla hlb
  by_cases hne : la = lb
  · subst hne
    go_enter Tryd.func50, Tryd.ntmps50
    go_wp2_with fail
    go_loopw [5] (fun i wr => ERel w la l m i wr) (fun i _ => la - (intOf i).toNat)
    case atStart => exact ⟨0, Nat.zero_le _, rfl, fun j hj => by omega, Same.refl _⟩
    case round =>
      obtain ⟨k, hk, rfl, hall, hS⟩ := hrel
      have HALL := Lib.hid hall
      clear hall
      by_cases hlt : k < la
      · obtain ⟨ga, rfl, h1, h2⟩ := edges_at HA.out hlt
        obtain ⟨gb, rfl, h3, h4⟩ := edges_at HB.out hlt
        have h1 := hS.cell h1
        have h2 := hS.cell h2
        have h3 := hS.cell h3
        have h4 := hS.cell h4
        have HS := Lib.hid hS
        clear hS
        have hk0 : (0 : Int) ≤ (k : Int) := Int.natCast_nonneg _
        have hk1 : (k : Int) < (la : Int) := by omega
        by_cases heq : l.getD k (0, 0) = m.getD k (0, 0)
        · have HE := Lib.hid heq
          rw [heq] at h1 h2
          clear heq
          generalize m.getD k (0, 0) = x at h1 h2 h3 h4
          obtain ⟨x, y⟩ := x
          go_wp2_with fail
          go_quiet (fail)
          go_wp2_with fail
          go_roundw
          case rel => exact ⟨k + 1, by omega, by go_num, fun j hj => by
                        rcases Nat.lt_or_ge j k with g | g
                        · exact HALL.out j g
                        · obtain rfl : j = k := by omega
                          exact HE.out, HS.out.drewN _⟩
          case measure => simp [intOf]; omega
        · have HE := Lib.hid heq
          clear heq
          generalize hx : l.getD k (0, 0) = x at h1 h2
          generalize hy : m.getD k (0, 0) = y at h3 h4
          have HD : Hid (x ≠ y) := by rw [← hx, ← hy]; exact HE
          clear hx hy
          obtain ⟨x1, x2⟩ := x
          obtain ⟨y1, y2⟩ := y
          have hfin : l.getD k (0, 0) ≠ m.getD k (0, 0) := HE.out
          have HF := Lib.hid hfin
          clear hfin
          by_cases h5 : x1 = y1
          · subst h5
            have hd : ((x2 : Int) == (y2 : Int)) = false := by
              have := HD.out
              simp only [ne_eq, Prod.mk.injEq, true_and] at this
              simp; omega
            go_wp2_with fail
            go_quiet (fail)
            go_wp2_with fail
            go_ret
            exact ⟨ret_bool (sameE_no HF.out).symm, HS.out.drewN _⟩
          · have hd : ((x1 : Int) == (y1 : Int)) = false := by simp; omega
            go_wp2_with fail
            go_quiet (fail)
            go_wp2_with fail
            go_ret
            exact ⟨ret_bool (sameE_no HF.out).symm, HS.out.drewN _⟩
      · obtain rfl : k = la := by omega
        have HS := Lib.hid hS
        clear hS
        go_wp2_with fail
        go_ret
        exact ⟨ret_bool (sameE_yes (HLA.out.trans HLB.out.symm) (by rw [HLA.out]; exact HALL.out)).symm, HS.out⟩
  · have hq : ((la : Int) != (lb : Int)) = true := by simp; omega
    have HN := Lib.hid hne
    clear hne
    go_enter Tryd.func50, Tryd.ntmps50
    go_wp2_with fail
    go_ret
    exact ⟨ret_bool (sameE_no_len (by rw [HLA.out, HLB.out]; exact HN.out)).symm, Same.refl _⟩
end Go.Proofs.YtafdijcolponjaaDoor
