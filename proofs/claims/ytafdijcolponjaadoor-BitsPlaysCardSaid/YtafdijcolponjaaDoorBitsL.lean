/- The contracts of the document's Put, Has, All, Join, and of a set's Copy. No condition but those in each statement. -/
import Derived.Test.YtafdijcolponjaaDoorBitsK
import Derived.Laws.ResultCell
namespace Go.Proofs.YtafdijcolponjaaDoor
open Go.RowKit

theorem bl_drop {ws : List Nat} (h : ws.length = 8) {n : Nat} (hn : n < 500) : bl (dropW ws n) = (bl ws).set n false := by
  refine List.ext_getElem (by simp [bl]) fun i h1 h2 => ?_
  simp only [bl, List.getElem_map, List.getElem_range, List.getElem_set]
  rw [mem_drop (by omega)]
  by_cases e : i = n
  · subst e; simp
  · have : ¬ n = i := fun e' => e e'.symm
    simp [e, this]

/-- A document's set in memory. -/
def RefAt (w : World) (c : Nat) (ws : List Nat) : Prop := w.heap[c]? = some (.cells (bools (bl ws)) 35 (0, 0))

def RPutEnds (c : Nat) (v : Int) (ws : List Nat) (w : World) (e : Ending) (w' : World) : Prop :=
  e = .returned (.int .i64 v) ∧ RefAt w' c ws ∧ Chg (· = c) w w'
def putB (is : Bool) (ws : List Nat) (n : Nat) : List Nat := if is then putW ws n else dropW ws n

set_option maxRecDepth 20000 in
theorem rput_yes (c n : Nat) (is : Bool) (ws : List Nat) (w : World) (h : RefAt w c ws) (h8 : ws.length = 8) (hn : n < 500) :
    Calls Tryd.prog 31 #[.pointer (some ⟨c, 0, none⟩), .int .i64 n, .bool is] w (RPutEnds c 0 (putB is ws n) w) := by
  have c1 : w.cell? ⟨c, n, none⟩ = some (.bool (mem ws n)) := cell_at n h (bools_at ws hn)
  have f1 := free_at n h
  have e : bl (putB is ws n) = (bl ws).set n is := by
    unfold putB
    cases is
    · exact bl_drop h8 hn
    · exact bl_put h8 hn
  have E := Lib.hid e
  have H := Lib.hid h
  have h0 : (0 : Int) ≤ (n : Int) := by omega
  have h1 : (n : Int) < 500 := by omega
  clear h e
  go_enter Tryd.func31, Tryd.ntmps31
  go_wp2_with fail
  go_ret
  refine ⟨rfl, ?_, (Chg.refl _ _).set1 _ _⟩
  unfold RefAt
  rw [heap_set n _ H.out, E.out]
  simp [bools, List.map_set]
set_option maxRecDepth 20000 in
theorem rput_no (c : Nat) (n : Int) (is : Bool) (w : World) (hn : n < 0 ∨ 500 ≤ n) :
    Calls Tryd.prog 31 #[.pointer (some ⟨c, 0, none⟩), .int .i64 n, .bool is] w fun e w' => e = .returned (.int .i64 2) ∧ w = w' := by
  by_cases h0 : n < 0
  · go_enter Tryd.func31, Tryd.ntmps31
    go_wp2_with fail
    go_ret
    exact ⟨rfl, rfl⟩
  · have h1 : 500 ≤ n := by omega
    go_enter Tryd.func31, Tryd.ntmps31
    go_wp2_with fail
    go_ret
    exact ⟨rfl, rfl⟩

set_option maxRecDepth 20000 in
theorem rhas_any (ws : List Nat) (n : Int) (w : World) :
    Calls Tryd.prog 35 #[.agg (bools (bl ws)), .int .i64 n] w (BoolEnds (memZ ws n) w) := by
  have HX := Lib.hid (fun (i : Nat) (h : i < 500) => bools_at ws h)
  by_cases hn : 0 ≤ n ∧ n < 500
  · obtain ⟨k, rfl⟩ := Int.eq_ofNat_of_zero_le hn.1
    have hk : k < 500 := by omega
    have hb := HX.out k hk
    have e : memZ ws (k : Int) = mem ws k := by unfold memZ; rw [decide_eq_true hn]; simp
    rw [e]
    clear e HX
    have h0 : (0 : Int) ≤ (k : Int) := by omega
    have h1 : (k : Int) < 500 := by omega
    generalize bools (bl ws) = cs at *
    have c1 : (w.alloc (.cells cs 35)).cell? ⟨w.heap.size, k, none⟩ = some (.bool (mem ws k)) := cell_at k (heap_new _ _) hb
    generalize mem ws k = m at *
    clear hb hn
    go_enter Tryd.func35, Tryd.ntmps35
    go_wp2_with fail
    go_ret
    exact ⟨rfl, (Below.refl _ _).alloc (Nat.le_refl _) _⟩
  · have e : memZ ws n = false := memZ_out ws hn
    rw [e]
    generalize bools (bl ws) = cs at *
    by_cases h0 : 0 ≤ n
    · have h1 : ¬ n < 500 := fun h => hn ⟨h0, h⟩
      clear e hn HX
      go_enter Tryd.func35, Tryd.ntmps35
      go_wp2_with fail
      go_ret
      exact ⟨rfl, (Below.refl _ _).alloc (Nat.le_refl _) _⟩
    · clear e hn HX
      go_enter Tryd.func35, Tryd.ntmps35
      go_wp2_with fail
      go_ret
      exact ⟨rfl, (Below.refl _ _).alloc (Nat.le_refl _) _⟩
end Go.Proofs.YtafdijcolponjaaDoor
