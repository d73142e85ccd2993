/- The contracts of the document's trail. Conditions: at most 1000 cells. -/
import Derived.Test.YtifjjcenmilohaaTrailH
import Derived.Test.YtifjjcenmilohaaRegion
namespace Go.Proofs.Ytifjjcenmilohaa
open Go.RowKit

/-- A value that was kept: where it lies, its capacity, its cells. -/
abbrev Kept := Nat × Nat × List Int
def head (n : Nat) (h : Kept) : Value := .slice (some ⟨h.1, 0, none⟩) n h.2.1

def RefAt (w : World) (r : Nat) (F : List Nat) (n : Nat) (now : List Int) (hs : List Kept) : Prop :=
  ∃ gn cn vt, w.heap[r]? = some (.cells #[.slice (some ⟨gn, 0, none⟩) n cn, vt] 31 (0, 0)) ∧ now.length = n ∧
    w.ownsRow 0 3 1 (.slice (some ⟨gn, 0, none⟩) n cn) n (ints now) ∧ w.ownsRow 0 28 1 vt hs.length (hs.map (head n)) ∧
    (∀ h ∈ hs, h.2.2.length = n ∧ w.ownsRow 0 3 1 (head n h) n (ints h.2.2)) ∧
    F = r :: gn :: (ownL vt ++ hs.map (·.1)) ∧ F.Nodup

theorem RefAt.lt {w : World} {r : Nat} {F : List Nat} {n : Nat} {now : List Int} {hs : List Kept} (h : RefAt w r F n now hs) : ∀ k ∈ F, k < w.heap.size := by
  obtain ⟨gn, cn, vt, h1, -, h2, h3, h4, rfl, -⟩ := h
  intro k hk
  simp only [List.mem_cons, List.mem_append, List.mem_map] at hk
  rcases hk with rfl | rfl | hk | ⟨x, hx, rfl⟩
  · exact lt_of_block h1
  · exact owns_lt h2 _ rfl
  · exact owns_lt h3 _ (mem_ownL.1 hk)
  · exact owns_lt (h4 x hx).2 _ rfl

theorem RefAt.frame {w w' : World} {r : Nat} {F : List Nat} {n : Nat} {now : List Int} {hs : List Kept} (h : RefAt w r F n now hs) (hb : ∀ k ∈ F, w'.heap[k]? = w.heap[k]?) : RefAt w' r F n now hs := by
  obtain ⟨gn, cn, vt, h1, hn, h2, h3, h4, rfl, h5⟩ := h
  refine ⟨gn, cn, vt, (hb _ (by simp)).trans h1, hn, owns_of_heap h2 fun k hk => hb k (by cases hk; simp), owns_of_heap h3 fun k hk => hb k (by simp [mem_ownL.2 hk]), fun x hx => ⟨(h4 x hx).1, ?_⟩, rfl, h5⟩
  refine owns_of_heap (h4 x hx).2 fun k hk => hb k ?_
  cases hk
  simp only [List.mem_cons, List.mem_append, List.mem_map]
  exact .inr (.inr (.inr ⟨x, hx, rfl⟩))

def REnds (r : Nat) (F : List Nat) (n : Nat) (v : Value) (now : List Int) (hs : List Kept) (w : World) (e : Ending) (w' : World) : Prop :=
  e = .returned v ∧ ∃ F', RefAt w' r F' n now hs ∧ (∀ k ∈ F', k ∈ F ∨ w.heap.size ≤ k) ∧ Chg (· ∈ F) w w'

theorem same_rends {r : Nat} {F : List Nat} {n : Nat} {v : Value} {now : List Int} {hs : List Kept} {w : World} (h : RefAt w r F n now hs) : REnds r F n v now hs w (.returned v) w :=
  ⟨rfl, F, h, fun _ hk => .inl hk, Chg.refl _ _⟩

theorem ref_set_no (r : Nat) (F : List Nat) (n : Nat) (now : List Int) (hs : List Kept) (c v : Int) (w : World) (h : RefAt w r F n now hs) (hc : c < 0 ∨ n ≤ c) :
    Calls Try.prog 9 #[.pointer (some ⟨r, 0, none⟩), .int .i64 c, .int .i64 v] w (REnds r F n (.int .i64 2) now hs w) := by
  have H0 := Lib.hid h
  obtain ⟨gn, cn, vt, h1, -⟩ := h
  have c0 : w.cell? ⟨r, 0, none⟩ = some (.slice (some ⟨gn, 0, none⟩) n cn) := cell_at 0 h1 rfl
  clear h1
  by_cases h0 : c < 0
  · go_enter Try.func9, Try.ntmps9
    go_wp2
    go_ret
    exact same_rends H0.out
  · have h2 : (n : Int) ≤ c := by omega
    clear hc
    go_enter Try.func9, Try.ntmps9
    go_wp2
    go_ret
    exact same_rends H0.out

theorem ref_set_yes (r : Nat) (F : List Nat) (n : Nat) (now : List Int) (hs : List Kept) (c : Nat) (v : Int) (w : World) (h : RefAt w r F n now hs) (hc : c < n) :
    Calls Try.prog 9 #[.pointer (some ⟨r, 0, none⟩), .int .i64 c, .int .i64 v] w (REnds r F n (.int .i64 0) (now.set c v) hs w) := by
  obtain ⟨gn, cn, vt, h1, hn, h2, h3, h4, hF, hN⟩ := h
  have c0 : w.cell? ⟨r, 0, none⟩ = some (.slice (some ⟨gn, 0, none⟩) n cn) := cell_at 0 h1 rfl
  have cx : w.cell? ⟨gn, c, none⟩ = some (.int .i64 (now.getD c 0)) := (h2.cellAt c (by omega)).trans (ints_nth _ (by omega))
  have fx := h2.frozenAt c
  have hcap := (owns_shape h2).resolve_left (by rintro ⟨h, _⟩; cases h)
  obtain ⟨g', cap', hv, hle, hmx⟩ := hcap
  cases hv
  unfold maxLen at hmx
  have hst := Lib.hid (h2.stored c (.int .i64 v)).1
  have H1 := Lib.hid h1
  have HN' := Lib.hid hn
  have H3 := Lib.hid h3
  have H4 := Lib.hid h4
  have HF := Lib.hid hF
  have HN := Lib.hid hN
  clear h1 hn h2 h3 h4 hF hN
  generalize now.getD c 0 = x at *
  go_enter Try.func9, Try.ntmps9
  go_wp2
  go_ret
  have hF := HF.out
  have hN := HN.out
  rw [hF] at hN
  simp only [List.nodup_cons, List.mem_cons, List.mem_append, not_or] at hN
  obtain ⟨⟨hr1, hr2, hr3⟩, ⟨hg1, hg2⟩, hn3⟩ := hN
  have hne : ∀ k, k ≠ gn → (w.setCell ⟨gn, c, none⟩ (.int .i64 v)).heap[k]? = w.heap[k]? := fun k hk => heap_set_ne c _ hk
  refine ⟨rfl, F, ⟨gn, cn, vt, (hne r hr1).trans H1.out, by rw [List.length_set]; exact HN'.out, by rw [ints_set]; exact hst.out, ?_, ?_, hF, HN.out⟩, fun k hk => .inl hk, ?_⟩
  · exact owns_of_heap H3.out fun k hk => hne k (by rintro rfl; exact hg1 (mem_ownL.2 hk))
  · intro y hy
    refine ⟨(H4.out y hy).1, owns_of_heap (H4.out y hy).2 fun k hk => hne k ?_⟩
    cases hk
    rintro e
    exact hg2 (List.mem_map.2 ⟨y, hy, e⟩)
  · exact (Chg.refl _ _).setCell (p := ⟨gn, c, none⟩) (.inl (by rw [hF]; simp)) _

theorem ref_get (r : Nat) (F : List Nat) (n : Nat) (now : List Int) (hs : List Kept) (c : Int) (w : World) (h : RefAt w r F n now hs) :
    Calls Try.prog 17 #[.pointer (some ⟨r, 0, none⟩), .int .i64 c] w fun e w' =>
      e = .returned (.int .i64 (if 0 ≤ c ∧ c < n then now.getD c.toNat 0 else 0)) ∧ w = w' := by
  obtain ⟨gn, cn, vt, h1, hn, h2, -⟩ := h
  have c0 : w.cell? ⟨r, 0, none⟩ = some (.slice (some ⟨gn, 0, none⟩) n cn) := cell_at 0 h1 rfl
  by_cases h0 : c < 0
  · rw [if_neg (by omega)]
    clear h1 hn h2
    go_enter Try.func17, Try.ntmps17
    go_wp2
    go_ret
    exact ⟨rfl, rfl⟩
  · by_cases hl : c < n
    · rw [if_pos ⟨by omega, hl⟩]
      obtain ⟨k, rfl⟩ := Int.eq_ofNat_of_zero_le (show 0 ≤ c by omega)
      have cx : w.cell? ⟨gn, k, none⟩ = some (.int .i64 (now.getD k 0)) := (h2.cellAt k (by omega)).trans (ints_nth _ (by omega))
      have hcap := (owns_shape h2).resolve_left (by rintro ⟨h, _⟩; cases h)
      obtain ⟨g', cap', hv, hle, hmx⟩ := hcap
      cases hv
      unfold maxLen at hmx
      rw [Int.toNat_natCast]
      clear h1 hn h2
      generalize now.getD k 0 = x at *
      go_enter Try.func17, Try.ntmps17
      go_wp2
      go_ret
      exact ⟨rfl, rfl⟩
    · rw [if_neg (by omega)]
      clear h1 hn h2
      go_enter Try.func17, Try.ntmps17
      go_wp2
      go_ret
      exact ⟨rfl, rfl⟩

theorem slice_len {w : World} {e n : Nat} {vt : Value} {xs : List Value} {s : Nat} (h : w.ownsRow 0 e s vt n xs) : ∃ a c, vt = .slice a n c := by
  rcases owns_shape h with ⟨rfl, hl⟩ | ⟨g, c, rfl, _⟩
  · exact ⟨none, 0, by rw [hl]⟩
  · exact ⟨_, _, rfl⟩

theorem ref_end_none (r : Nat) (F : List Nat) (n : Nat) (now : List Int) (u : Bool) (w : World) (h : RefAt w r F n now []) :
    Calls Try.prog 13 #[.pointer (some ⟨r, 0, none⟩), .bool u] w (REnds r F n (.int .i64 3) now [] w) := by
  have H0 := Lib.hid h
  obtain ⟨gn, cn, vt, h1, -, -, h3, -⟩ := h
  have c1 : w.cell? ⟨r, 1, none⟩ = some vt := cell_at 1 h1 rfl
  obtain ⟨a, c, rfl⟩ := slice_len h3
  clear h1 h3
  go_enter Try.func13, Try.ntmps13
  go_wp2
  go_ret
  exact same_rends H0.out
end Go.Proofs.Ytifjjcenmilohaa
