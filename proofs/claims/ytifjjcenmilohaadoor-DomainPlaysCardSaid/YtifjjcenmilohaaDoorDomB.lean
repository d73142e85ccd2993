/- A domain in memory; the contracts of has, may, all, left. No condition but those in each statement. -/
import Derived.Test.YtifjjcenmilohaaDoorMask
namespace Go.Proofs.YtifjjcenmilohaaDoor
open Go.RowKit

/-- A domain in memory, at block d: its sizes, its trail T. F: its blocks. -/
def DomAt (w : World) (d : Nat) (F : List Nat) (sz : List Nat) (T : TM) : Prop :=
  ∃ b vs Ft, w.heap[d]? = some (.cells #[.pointer (some ⟨b, 0, none⟩), vs] 47 (0, 0)) ∧ w.ownsRow 0 3 1 vs sz.length (nats sz) ∧ TrailAt w b Ft T ∧ T.cells.length = sz.length ∧
    F = d :: (ownL vs ++ Ft) ∧ F.Nodup

theorem DomAt.lt {w : World} {d : Nat} {F sz : List Nat} {T : TM} (h : DomAt w d F sz T) : ∀ k ∈ F, k < w.heap.size := by
  obtain ⟨b, vs, Ft, h1, h2, h3, -, rfl, -⟩ := h
  intro k hk
  simp only [List.mem_cons, List.mem_append] at hk
  rcases hk with rfl | hk | hk
  · exact lt_of_block h1
  · exact owns_lt h2 k (mem_ownL.1 hk)
  · exact h3.lt k hk
theorem DomAt.frame {w w' : World} {d : Nat} {F sz : List Nat} {T : TM} (h : DomAt w d F sz T) (hb : ∀ k ∈ F, w'.heap[k]? = w.heap[k]?) : DomAt w' d F sz T := by
  obtain ⟨b, vs, Ft, h1, h2, h3, h4, rfl, h5⟩ := h
  exact ⟨b, vs, Ft, (hb d (by simp)).trans h1, owns_of_heap h2 fun k hk => hb k (by simp [mem_ownL.2 hk]), h3.frame fun k hk => hb k (by simp [hk]), h4, rfl, h5⟩
theorem DomAt.below {w w' : World} {d : Nat} {F sz : List Nat} {T : TM} (h : DomAt w d F sz T) {B : Nat} (hb : Below B w w') (hB : w.heap.size ≤ B) : DomAt w' d F sz T :=
  h.frame fun k hk => hb.block k (Nat.lt_of_lt_of_le (h.lt k hk) hB)
theorem DomAt.alloc {w : World} {d : Nat} {F sz : List Nat} {T : TM} (h : DomAt w d F sz T) (o : Obj) : DomAt (w.alloc o) d F sz T :=
  h.frame fun k hk => heap_alloc_lt (h.lt k hk)
theorem DomAt.drew {w : World} {d : Nat} {F sz : List Nat} {T : TM} (h : DomAt w d F sz T) : DomAt w.drew d F sz T := h

/-- What a call leaves of a domain. -/
def DEnds (d : Nat) (F : List Nat) (v : Value) (sz : List Nat) (T : TM) (w : World) (e : Ending) (w' : World) : Prop :=
  e = .returned v ∧ ∃ F', DomAt w' d F' sz T ∧ (∀ k ∈ F', k ∈ F ∨ w.heap.size ≤ k) ∧ Chg (· ∈ F) w w'
theorem dom_idle {d : Nat} {F sz : List Nat} {v : Value} {T : TM} {w : World} (h : DomAt w d F sz T) : DEnds d F v sz T w (.returned v) w :=
  ⟨rfl, F, h, fun _ hk => .inl hk, Chg.refl _ _⟩
theorem dom_step {w w' : World} {d b : Nat} {sz Ft : List Nat} {vs v : Value} {T' : TM} {e : Ending} (h1 : w.heap[d]? = some (.cells #[.pointer (some ⟨b, 0, none⟩), vs] 47 (0, 0))) (h2 : w.ownsRow 0 3 1 vs sz.length (nats sz))
    (hN : (d :: (ownL vs ++ Ft)).Nodup) (he : TEnds b Ft v T' w e w') (hl : T'.cells.length = sz.length) : DEnds d (d :: (ownL vs ++ Ft)) v sz T' w e w' := by
  obtain ⟨rfl, F', hT, hF, hC⟩ := he
  simp only [List.nodup_cons, List.nodup_append, List.mem_append, not_or] at hN
  obtain ⟨⟨hd1, hd2⟩, hn1, hn2, hdis⟩ := hN
  have hdw := lt_of_block h1
  refine ⟨rfl, d :: (ownL vs ++ F'), ⟨b, vs, F', (hC.block d hdw hd2).trans h1, owns_chg h2 hC (fun k hk hf => hdis k hk k hf rfl), hT, hl, rfl, ?_⟩, ?_, hC.mono fun k _ hk => by simp [hk]⟩
  · have hTn : F'.Nodup := by obtain ⟨_, _, _, _, _, _, _, _, _, h⟩ := hT; exact h
    simp only [List.nodup_cons, List.nodup_append, List.mem_append, not_or]
    refine ⟨⟨hd1, fun h => ?_⟩, hn1, hTn, ?_⟩
    · rcases hF d h with h | h
      · exact hd2 h
      · omega
    · rintro a ha c hc rfl
      rcases hF a hc with h | h
      · exact hdis a ha a h rfl
      · have := owns_lt h2 a (mem_ownL.1 ha); omega
  · intro k hk
    simp only [List.mem_cons, List.mem_append] at hk ⊢
    rcases hk with hk | hk | hk
    · exact .inl (.inl hk)
    · exact .inl (.inr (.inl hk))
    · rcases hF k hk with h | h
      · exact .inl (.inr (.inr h))
      · exact .inr h

def inR (n : Nat) (v : Int) : Bool := decide (0 ≤ v ∧ v < (n : Int))
theorem slice_form {w : World} {base e size n : Nat} {v : Value} {xs : List Value} (h : w.ownsRow base e size v n xs) : ∃ ad c, v = .slice ad n c := by
  rcases owns_shape h with ⟨rfl, rfl⟩ | ⟨g, c, rfl, -, -⟩
  · exact ⟨none, 0, rfl⟩
  · exact ⟨_, c, rfl⟩
theorem size_cell {w : World} {v : Value} {sz : List Nat} (h : w.ownsRow 0 3 1 v sz.length (nats sz)) {i : Nat} (hi : i < sz.length) :
    ∃ g c, v = .slice (some ⟨g, 0, none⟩) sz.length c ∧ w.cell? ⟨g, i, none⟩ = some (.int .i64 (sz.getD i 0 : Nat)) ∧ sz.length ≤ 9223372036854775807 := by
  rcases owns_shape h with ⟨_, h0⟩ | ⟨g, c, rfl, hc, hm⟩
  · omega
  · unfold maxLen at hm
    refine ⟨g, c, rfl, ?_, by omega⟩
    rw [h.cellAt i (by omega)]
    simp [nats, hi]

theorem dhas_any (d : Nat) (F sz : List Nat) (T : TM) (v : Int) (w : World) (h : DomAt w d F sz T) :
    Calls Tryd.prog 35 #[.pointer (some ⟨d, 0, none⟩), .int .i64 v] w fun e w' => e = .returned (.bool (inR sz.length v)) ∧ w = w' := by
  obtain ⟨b, vs, Ft, h1, h2, -⟩ := h
  obtain ⟨ad, c, rfl⟩ := slice_form h2
  have c0 : w.cell? ⟨d, 0, none⟩ = some (.pointer (some ⟨b, 0, none⟩)) := cell_at 0 h1 rfl
  have c1 : w.cell? ⟨d, 1, none⟩ = some (.slice ad sz.length c) := cell_at 1 h1 rfl
  clear h1 h2
  unfold inR
  generalize sz.length = n at *
  by_cases h0 : 0 ≤ v
  · by_cases h1 : v < (n : Int)
    · rw [decide_eq_true ⟨h0, h1⟩]
      go_enter Tryd.func35, Tryd.ntmps35
      go_wp2_with fail
      go_ret
      exact ⟨rfl, rfl⟩
    · rw [decide_eq_false (fun h => h1 h.2)]
      go_enter Tryd.func35, Tryd.ntmps35
      go_wp2_with fail
      go_ret
      exact ⟨ret_bool (by simp), rfl⟩
  · rw [decide_eq_false (fun h => h0 h.1)]
    go_enter Tryd.func35, Tryd.ntmps35
    go_wp2_with fail
    go_ret
    exact ⟨rfl, rfl⟩

def mayC (sz : List Nat) (v k : Int) : Int := if inR sz.length v = true ∧ 0 ≤ k ∧ k < (sz.getD v.toNat 0 : Int) then 0 else 2
theorem dmay_any (d : Nat) (F sz : List Nat) (T : TM) (v k : Int) (w : World) (h : DomAt w d F sz T) :
    Calls Tryd.prog 28 #[.pointer (some ⟨d, 0, none⟩), .int .i64 v, .int .i64 k] w fun e w' => e = .returned (.int .i64 (mayC sz v k)) ∧ w = w' := by
  have hH := dhas_any d F sz T v w h
  obtain ⟨b, vs, Ft, h1, h2, -⟩ := h
  have c0 : w.cell? ⟨d, 0, none⟩ = some (.pointer (some ⟨b, 0, none⟩)) := cell_at 0 h1 rfl
  have c1 : w.cell? ⟨d, 1, none⟩ = some vs := cell_at 1 h1 rfl
  unfold mayC
  by_cases hv : 0 ≤ v ∧ v < (sz.length : Int)
  · have hi : inR sz.length v = true := decide_eq_true hv
    rw [hi] at hH ⊢
    obtain ⟨i, rfl⟩ := Int.eq_ofNat_of_zero_le hv.1
    rw [Int.toNat_natCast]
    obtain ⟨g, c, rfl, hc, hm⟩ := size_cell h2 (show i < sz.length by omega)
    have HH := Lib.hid hH
    generalize sz.getD i 0 = s at *
    have q0 : (0 : Int) ≤ (i : Int) := by omega
    have q1 : (i : Int) < (sz.length : Int) := hv.2
    clear h1 h2 hH hv hi
    by_cases k0 : 0 ≤ k
    · by_cases k1 : k < (s : Int)
      · rw [if_pos ⟨rfl, k0, k1⟩]
        go_enter Tryd.func28, Tryd.ntmps28
        go_wp2_with fail
        go_fit HH.out
        rintro e w' ⟨rfl, rfl⟩
        go_wp2_with fail
        go_ret
        exact ⟨rfl, rfl⟩
      · rw [if_neg (fun h => k1 h.2.2)]
        go_enter Tryd.func28, Tryd.ntmps28
        go_wp2_with fail
        go_fit HH.out
        rintro e w' ⟨rfl, rfl⟩
        go_wp2_with fail
        go_ret
        exact ⟨rfl, rfl⟩
    · rw [if_neg (fun h => k0 h.2.1)]
      go_enter Tryd.func28, Tryd.ntmps28
      go_wp2_with fail
      go_fit HH.out
      rintro e w' ⟨rfl, rfl⟩
      go_wp2_with fail
      go_ret
      exact ⟨rfl, rfl⟩
  · have hi : inR sz.length v = false := decide_eq_false hv
    rw [hi] at hH ⊢
    rw [if_neg (fun h => by cases h.1)]
    have HH := Lib.hid hH
    clear h1 h2 hH hv hi c1
    go_enter Tryd.func28, Tryd.ntmps28
    go_wp2_with fail
    go_fit HH.out
    rintro e w' ⟨rfl, rfl⟩
    go_wp2_with fail
    go_ret
    exact ⟨rfl, rfl⟩

theorem dall_any (d i : Nat) (F sz : List Nat) (T : TM) (w : World) (h : DomAt w d F sz T) (hi : i < sz.length) (hs : sz.getD i 0 ≤ 60) :
    Calls Tryd.prog 38 #[.pointer (some ⟨d, 0, none⟩), .int .i64 i] w fun e w' => e = .returned (.int .i64 (full (sz.getD i 0) : Nat)) ∧ w = w' := by
  obtain ⟨b, vs, Ft, h1, h2, -⟩ := h
  have c1 : w.cell? ⟨d, 1, none⟩ = some vs := cell_at 1 h1 rfl
  obtain ⟨g, c, rfl, hc, hm⟩ := size_cell h2 hi
  generalize sz.getD i 0 = s at *
  have q0 : (0 : Int) ≤ (i : Int) := by omega
  have q1 : (i : Int) < (sz.length : Int) := by omega
  have q2 : (0 : Int) ≤ (s : Int) := by omega
  have hp := i64_pow s (by omega)
  have hf := full_lt s hs
  have hw : wrap64 ((2 : Int) ^ s - 1) = (full s : Nat) := by
    have h0 : 0 < 2 ^ s := Nat.pos_of_ne_zero (by simp)
    have e0 : (2 : Int) ^ s = ((2 ^ s : Nat) : Int) := by simp
    have e : ((2 : Int) ^ s - 1) = ((full s : Nat) : Int) := by rw [e0]; unfold full; omega
    rw [e]; exact IntWalk.wrap64_in _ ⟨by omega, by omega⟩
  clear h1 h2 hi
  go_enter Tryd.func38, Tryd.ntmps38
  go_wp2_with fail
  go_ret
  exact ⟨ret_int hw, rfl⟩
end Go.Proofs.YtifjjcenmilohaaDoor
