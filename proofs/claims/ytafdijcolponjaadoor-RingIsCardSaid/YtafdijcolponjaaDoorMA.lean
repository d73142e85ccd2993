/- Facts on the heap that all walks of this seat use: what may have changed, a block's cells. No program is walked here; no condition but those in each statement. base.Ints hands back a copy in new memory. Condition: the length times 8 is at most 2 to the power 47. Owned rows under changes elsewhere; footprints. No program is walked here; no condition but those in each statement. A region that draws its order, of which all but the last operations only read: the tail is walked in a world of its own name. No condition but those in each statement. base.SameInts tells whether two rows of integers are the same. Condition: each has at most 2 to the power 62 cells. An array by value, indexed: a law for arrays of integers or booleans. No program is walked here; no condition but those in each statement. Arguments that are slices of structs of integers, opened to their cells. No condition but those in each statement. A region that draws its order, walked by an invariant: one obligation for each operation, none for each order. No program is walked here; no condition but those in each statement. What the slots hold of the readers among a region's operations, where other operations make memory. No program is walked here; no condition but those in each statement. base.Among tells a number from 0 to n - 1. Condition: n is at least 1. A row of truths that the call itself made, told by a function; rows of numbers. No program is walked here; no condition but those in each statement. A map from int to int that the call itself made, told by a function: made, carried, looked up, written. No program is walked here; no condition but those in each statement. -/
import Derived.Test.YtafdijcolponjaaDoorRows
import Derived.WalkKit
import Derived.ProofKit
import Derived.Lib.Hide
import Derived.Deep.QuietTactic
import Derived.BigQuiet
import Derived.Deep.RegionHeld3
import Derived.OwnWalk
import Derived.Laws.AppendOwnNone
import Derived.OpenShut
import Derived.Deep.DeepCutAuto
import Derived.WalkSmall
import Derived.StillTailTactics
import Derived.Deep.MidRow
import Derived.Deep.Slices
import Derived.Deep.Fields
import Derived.ChangeSame
import Derived.Orders
import Derived.Maps.OwnSet
namespace Go.Proofs.YtafdijcolponjaaDoor
open Go.RowKit

/-- Blocks outside F, and below the old size, are as they were. -/
structure Chg (F : Nat → Prop) (w w' : World) : Prop where
  os : w'.os = w.os
  tape : w'.tape = w.tape
  output : w'.output = w.output
  size : w.heap.size ≤ w'.heap.size
  block : ∀ k, k < w.heap.size → ¬ F k → w'.heap[k]? = w.heap[k]?

theorem Chg.refl (F : Nat → Prop) (w : World) : Chg F w w := ⟨rfl, rfl, rfl, Nat.le_refl _, fun _ _ _ => rfl⟩
theorem Chg.trans {F : Nat → Prop} {a b c : World} (h : Chg F a b) (k : Chg F b c) : Chg F a c :=
  ⟨k.os.trans h.os, k.tape.trans h.tape, k.output.trans h.output, Nat.le_trans h.size k.size, fun i hi hf => (k.block i (Nat.lt_of_lt_of_le hi h.size) hf).trans (h.block i hi hf)⟩
theorem Chg.mono {F G : Nat → Prop} {w w' : World} (h : Chg F w w') (hf : ∀ k, k < w.heap.size → F k → G k) : Chg G w w' :=
  ⟨h.os, h.tape, h.output, h.size, fun k hk hg => h.block k hk (fun hF => hg (hf k hk hF))⟩
theorem Chg.alloc {F : Nat → Prop} {a w : World} (h : Chg F a w) (o : Obj) : Chg F a (w.alloc o) :=
  h.trans ⟨rfl, rfl, rfl, by simp, fun k hk _ => Below.heap_alloc _ _ _ (by omega)⟩
theorem Chg.drew {F : Nat → Prop} {a w : World} (h : Chg F a w) : Chg F a w.drew := ⟨h.os, h.tape, h.output, h.size, h.block⟩
theorem Chg.drewN {F : Nat → Prop} {a w : World} (h : Chg F a w) (n : Nat) : Chg F a (w.drewN n) := ⟨h.os, h.tape, h.output, h.size, h.block⟩
theorem Chg.setCell {F : Nat → Prop} {a w : World} (h : Chg F a w) {p : Addr} (hp : F p.block ∨ a.heap.size ≤ p.block) (u : Value) : Chg F a (w.setCell p u) :=
  ⟨h.os, h.tape, h.output, by simpa [World.setCell] using h.size, fun k hk hf => (Below.heap_setCell w p u k (by
    rintro rfl
    rcases hp with hp | hp
    · exact hf hp
    · omega)).trans (h.block k hk hf)⟩
theorem Chg.undrew {F : Nat → Prop} {w w' : World} (h : Chg F w.drew w') : Chg F w w' := ⟨h.os, h.tape, h.output, h.size, h.block⟩
theorem Chg.undrewN {F : Nat → Prop} {w w' : World} {n : Nat} (h : Chg F (w.drewN n) w') : Chg F w w' := ⟨h.os, h.tape, h.output, h.size, h.block⟩
theorem Chg.set1 {b : Nat} {a w : World} (h : Chg (· = b) a w) (i : Nat) (u : Value) : Chg (· = b) a (w.setCell ⟨b, i, none⟩ u) :=
  Chg.setCell h (Or.inl (by rfl)) u
theorem Chg.below {F : Nat → Prop} {w w' : World} (h : Chg F w w') {B : Nat} (hB : B ≤ w.heap.size) (hf : ∀ k, k < B → ¬ F k) : Below B w w' :=
  ⟨h.os, h.tape, h.output, h.size, fun k hk => h.block k (by omega) (hf k hk)⟩

theorem cell_at {w : World} {b : Nat} {cs : Array Value} {t : TypeId} {v : Value} (i : Nat) (h : w.heap[b]? = some (.cells cs t (0, 0))) (hv : cs[i]? = some v) :
    w.cell? ⟨b, i, none⟩ = some v := by simp [World.cell?, h, hv]
theorem free_at {w : World} {b : Nat} {cs : Array Value} {t : TypeId} (i : Nat) (h : w.heap[b]? = some (.cells cs t (0, 0))) :
    w.frozen? ⟨b, i, none⟩ = false := by simp [World.frozen?, h]
theorem heap_set {w : World} {b : Nat} {cs : Array Value} {t : TypeId} (i : Nat) (v : Value) (h : w.heap[b]? = some (.cells cs t (0, 0))) :
    (w.setCell ⟨b, i, none⟩ v).heap[b]? = some (.cells (cs.setIfInBounds i v) t (0, 0)) := by
  simp only [World.setCell, Array.getElem?_modify, h]
  simp
theorem heap_set_ne {w : World} {b k : Nat} (i : Nat) (v : Value) (h : k ≠ b) : (w.setCell ⟨b, i, none⟩ v).heap[k]? = w.heap[k]? :=
  Below.heap_setCell _ _ _ _ h
theorem heap_alloc_lt {w : World} {o : Obj} {k : Nat} (h : k < w.heap.size) : (w.alloc o).heap[k]? = w.heap[k]? := Below.heap_alloc _ _ _ h
theorem lt_of_block {w : World} {b : Nat} {o : Obj} (h : w.heap[b]? = some o) : b < w.heap.size := by
  rcases Nat.lt_or_ge b w.heap.size with g | g
  · exact g
  · simp [g] at h

theorem ret_bool {a b : Bool} (h : a = b) : Ending.returned (.bool a) = .returned (.bool b) := by rw [h]
theorem ret_int {k : IntKind} {a b : Int} (h : a = b) : Ending.returned (.int k a) = .returned (.int k b) := by rw [h]
theorem heap_new (w : World) (o : Obj) : (w.alloc o).heap[w.heap.size]? = some o := by
  show (w.heap.push o)[w.heap.size]? = _
  simp

theorem below_of_chg {b : Nat} {w w' : World} {B : Nat} (h : Chg (· = b) w w') (hB : B ≤ b) (hw : B ≤ w.heap.size) : Below B w w' :=
  h.below hw (fun k hk e => by omega)

/-- A slice of integers that came in: it is nil, or it leads to a row of cells. -/
def IsRow (k : IntKind) (w : World) (a : Option Addr) (len cap : Nat) (zs : List Int) : Prop :=
  (a = none ∧ len = 0 ∧ cap = 0 ∧ zs = []) ∨
  ∃ x, a = some x ∧ len ≤ cap ∧ cap ≤ maxLen ∧ zs.length = cap ∧ (∀ i, i < zs.length → w.cell? (x.add i) = some (.int k (zs.getD i 0))) ∧ ∀ n ∈ zs, (Lit.int k n).wf = true

end Go.Proofs.YtafdijcolponjaaDoor

namespace Go.Proofs.YtafdijcolponjaaDoor
open Go.RowKit

theorem cell_alloc {w : World} {o : Obj} {p : Addr} {v : Value} (h : w.cell? p = some v) : (w.alloc o).cell? p = some v :=
  (World.cell?_of_block (Below.heap_alloc _ _ _ (World.block_lt_of_cell? w _ h))).trans h

theorem owns_some {w : World} {base e size n : Nat} {v : Value} {xs : List Value} (h : w.ownsRow base e size v n xs) (hv : ¬ v = .slice none 0 0) :
    ∃ g cap, v = .slice (some ⟨g, 0, none⟩) n cap := by
  rcases h.2 with ⟨h, _⟩ | ⟨g, cap, _, h, _⟩
  · exact absurd h hv
  · exact ⟨g, cap, h⟩

/-- A slice that reads as a list of cells (nil included). -/
def Src (w : World) (a : Option Addr) (len cap size : Nat) (xs : List Value) : Prop :=
  xs.length = len * size ∧ (a = none → len = 0 ∧ cap = 0) ∧ len ≤ cap ∧ cap ≤ maxLen ∧
    (∀ ad, a = some ad → ∀ j u, xs[j]? = some u → w.cell? (ad.add j) = some u) ∧ ∀ u ∈ xs, u.oneCell' = true

theorem Src.of_block {w w' : World} {a : Option Addr} {len cap size : Nat} {xs : List Value} (h : Src w a len cap size xs)
    (hb : ∀ ad, a = some ad → len * size ≠ 0 → w'.heap[ad.block]? = w.heap[ad.block]?) : Src w' a len cap size xs := by
  obtain ⟨h1, h2, h3, h4, h5, h6⟩ := h
  refine ⟨h1, h2, h3, h4, fun ad ha j u hj => ?_, h6⟩
  have hlt : j < xs.length := by
    rcases Nat.lt_or_ge j xs.length with g | g
    · exact g
    · rw [List.getElem?_eq_none g] at hj; cases hj
  have e := hb ad ha (by omega)
  have e2 : (ad.add j).block = ad.block := by unfold Addr.add; split <;> rfl
  rw [World.cell?_of_block (w := w) (by rw [e2]; exact e)]
  exact h5 ad ha j u hj

theorem IsRow.src {k : IntKind} {w : World} {a : Option Addr} {len cap : Nat} {zs : List Int} (h : IsRow k w a len cap zs) {m : Nat} (hm : m ≤ len) :
    Src w a m cap 1 ((zs.take m).map (Value.int k)) := by
  rcases h with ⟨rfl, rfl, rfl, rfl⟩ | ⟨x, rfl, hl, hx, hz, hc, hw⟩
  · obtain rfl : m = 0 := by omega
    refine ⟨by simp, fun _ => ⟨rfl, rfl⟩, Nat.le_refl _, by decide, ?_, by simp⟩
    intro ad ha
    cases ha
  · refine ⟨by simp; omega, (fun e => by cases e), by omega, hx, ?_, ?_⟩
    · intro ad ha j u hj
      cases ha
      rw [List.getElem?_map, List.getElem?_take] at hj
      split at hj
      · rename_i hlt
        have := hc j (by omega)
        rw [this]
        rw [List.getElem?_eq_getElem (by omega)] at hj
        simp only [Option.map_some, Option.some.injEq] at hj
        rw [← hj, List.getD_eq_getElem?_getD, List.getElem?_eq_getElem (by omega)]
        rfl
      · simp at hj
    · intro u hu
      obtain ⟨n, _, rfl⟩ := List.mem_map.1 hu
      rfl

/-- What the call made: a slice value that owns the cells xs in memory from base on. -/
def Made (base e size : Nat) (len : Nat) (xs : List Value) (w : World) (en : Ending) (w' : World) : Prop :=
  ∃ g cap, en = .returned (.slice (some ⟨g, 0, none⟩) len cap) ∧ w'.ownsRow base e size (.slice (some ⟨g, 0, none⟩) len cap) len xs ∧ Below w.heap.size w w'

/-- A slot that holds a slice of the call's own, len cells xs. -/
def OwnS (base e size : Nat) (len : Nat) (xs : List Value) (w : World) (v : Value) (w' : World) : Prop :=
  ∃ g cap, v = .slice (some ⟨g, 0, none⟩) len cap ∧ w'.ownsRow base e size (.slice (some ⟨g, 0, none⟩) len cap) len xs ∧ Below base w w'

/-- Each of the first m numbers of a row, as it stands in the list of its cells. -/
theorem IsRow.nth {k : IntKind} {w : World} {a : Option Addr} {len cap : Nat} {zs : List Int} (h : IsRow k w a len cap zs) {m : Nat} (hm : m ≤ len) {j : Nat} (hj : j < m) :
    ∃ v : Int, ((zs.take m).map (Value.int k))[j]? = some (.int k v) ∧ (Lit.int k v).wf = true := by
  rcases h with ⟨rfl, rfl, rfl, rfl⟩ | ⟨x, rfl, hl, hx, hz, hc, hw⟩
  · omega
  · refine ⟨zs[j]'(by omega), ?_, hw _ (List.getElem_mem _)⟩
    rw [List.getElem?_map, List.getElem?_take, if_pos hj, List.getElem?_eq_getElem (by omega)]
    rfl

theorem infoInt : (Tryd.prog.info? 3).map (fun i => (i.zero, i.size, i.bytes)) = some (some (.int .i64 0), 1, 8) := by kernel_rfl

theorem ints_any (a : Option Addr) (len cap : Nat) (xs : List Value) (w : World) (h : Src w a len cap 1 xs) (hb : len * 8 ≤ 140737488355328) :
    Calls Tryd.prog 65 #[.slice a len cap] w (Made w.heap.size 3 1 len xs w) := by
  obtain ⟨i0, hi, hz0, hz1, hz2⟩ := info_parts infoInt
  obtain ⟨h1, h2, h3, h4, h5, h6⟩ := h
  have hown := World.ownsRow_made (base := w.heap.size) (e := 3) (size := 1) w #[] 0 (Nat.le_refl _) (by decide) rfl
  have HO := Lib.hid hown
  clear hown
  have hml : (0 : Nat) + len ≤ maxLen := by omega
  cases a with
  | none =>
    obtain ⟨rfl, rfl⟩ := h2 rfl
    have hx : xs = [] := List.eq_nil_of_length_eq_zero (by simpa using h1)
    subst hx
    clear h1 h2 h5 h6
    go_enter Tryd.func65, Tryd.ntmps65
    go_wp2_with (at_builtin; go_loud (refine wpList_append_own_none rfl _ _ _ rfl w.heap.size 3 i0 1 Tryd.underlying22 hi _ 0 [] rfl HO.out rfl ?_))
    go_ret
    exact ⟨_, _, rfl, HO.out, (Below.refl _ _).alloc (Nat.le_refl _) _⟩
  | some x =>
    have h5' := Lib.hid (h5 x rfl)
    have h6' := Lib.hid h6
    have h1' := Lib.hid h1
    clear h1 h2 h5 h6
    go_enter Tryd.func65, Tryd.ntmps65
    go_wp2_with (at_builtin; go_loud (refine wpList_append_own (w.alloc (.cells #[] 3)) rfl _ _ _ rfl w.heap.size 3 i0 (.int .i64 0) 1 8 Tryd.underlying22 hi hz0 hz1 hz2 rfl (by decide) _ 0 [] rfl HO.out x len cap xs rfl h1'.out (fun j u hj => cell_alloc (h5'.out j u hj)) h6'.out hml (by omega) (by simp) ?_))
    intro v' w1 hown1 hgrow hne
    have HN := Lib.hid hne
    clear hne
    go_wp2
    go_ret
    obtain ⟨g, c, rfl⟩ := owns_some hown1 HN.out
    exact ⟨g, c, rfl, hown1, ((Below.refl _ _).alloc (Nat.le_refl _) _).grown hgrow (by simp) (fun k hk => by cases hk; exact Nat.le_refl _)⟩
end Go.Proofs.YtafdijcolponjaaDoor

namespace Go.Proofs.YtafdijcolponjaaDoor
open Go.RowKit

theorem owns_of_heap {w w' : World} {base e size n : Nat} {v : Value} {xs : List Value} (h : w.ownsRow base e size v n xs)
    (hb : ∀ k, v.ownBlock = some k → w'.heap[k]? = w.heap[k]?) : w'.ownsRow base e size v n xs := by
  obtain ⟨h1, h2⟩ := h
  refine ⟨h1, ?_⟩
  rcases h2 with h2 | ⟨g, cap, cur, rfl, hg, hh, r⟩
  · exact .inl h2
  · exact .inr ⟨g, cap, cur, rfl, hg, (hb g rfl).trans hh, r⟩

theorem owns_base {w : World} {base base' e size n : Nat} {v : Value} {xs : List Value} (h : w.ownsRow base e size v n xs)
    (hb : ∀ k, v.ownBlock = some k → base' ≤ k) : w.ownsRow base' e size v n xs := by
  obtain ⟨h1, h2⟩ := h
  refine ⟨h1, ?_⟩
  rcases h2 with h2 | ⟨g, cap, cur, rfl, hg, hh, r⟩
  · exact .inl h2
  · exact .inr ⟨g, cap, cur, rfl, hb g rfl, hh, r⟩

theorem owns_zero {w : World} {base e size n : Nat} {v : Value} {xs : List Value} (h : w.ownsRow base e size v n xs) : w.ownsRow 0 e size v n xs :=
  owns_base h fun _ _ => Nat.zero_le _

theorem owns_lt {w : World} {base e size n : Nat} {v : Value} {xs : List Value} (h : w.ownsRow base e size v n xs) : ∀ k, v.ownBlock = some k → k < w.heap.size :=
  fun k hk => (World.ownsRow.lt h k hk).2

/-- What a row of no cells is, too. -/
theorem owns_shape {w : World} {base e size n : Nat} {v : Value} {xs : List Value} (h : w.ownsRow base e size v n xs) :
    (v = .slice none 0 0 ∧ n = 0) ∨ ∃ g cap, v = .slice (some ⟨g, 0, none⟩) n cap ∧ n ≤ cap ∧ cap ≤ maxLen := by
  rcases h.2 with h | ⟨g, cap, _, h, _, _, h1, h2, _⟩
  · exact .inl h
  · exact .inr ⟨g, cap, h, h1, h2⟩

/-- A row's first cells. -/
theorem owns_take {w : World} {base e size g cap n m : Nat} {xs : List Value} (hm : m ≤ n)
    (h : w.ownsRow base e size (.slice (some ⟨g, 0, none⟩) n cap) n xs) : w.ownsRow base e size (.slice (some ⟨g, 0, none⟩) m cap) m (xs.take (m * size)) := by
  obtain ⟨h1, h2⟩ := h
  rcases h2 with ⟨h0, _⟩ | ⟨g', cap', cur, hv, hg, hh, hn, hcap, hsz, htake⟩
  · cases h0
  · cases hv
    refine ⟨?_, .inr ⟨g, cap, cur, rfl, hg, hh, by omega, hcap, hsz, ?_⟩⟩
    · rw [List.length_take, h1]; exact Nat.min_eq_left (Nat.mul_le_mul_right _ hm)
    · rw [← htake, List.take_take, Nat.min_eq_left (Nat.mul_le_mul_right _ hm)]

/-- The blocks of a slice value. -/
def ownL (v : Value) : List Nat := v.ownBlock.toList
theorem mem_ownL {v : Value} {k : Nat} : k ∈ ownL v ↔ v.ownBlock = some k := by
  unfold ownL; cases v.ownBlock <;> simp [eq_comm]
theorem ownL_some (a : Addr) (n c : Nat) : ownL (.slice (some a) n c) = [a.block] := rfl
theorem ownL_none (n c : Nat) : ownL (.slice none n c) = [] := rfl

theorem owns_chg {F : Nat → Prop} {w w' : World} {base e size n : Nat} {v : Value} {xs : List Value} (h : w.ownsRow base e size v n xs) (hc : Chg F w w')
    (hF : ∀ k, k ∈ ownL v → ¬ F k) : w'.ownsRow base e size v n xs :=
  owns_of_heap h fun k hk => hc.block k (owns_lt h k hk) (hF k (mem_ownL.2 hk))

theorem chg_grown {w w' : World} {row : Option Nat} {F : Nat → Prop} (h : w.grownBy w' row) (hF : ∀ k, row = some k → F k) : Chg F w w' :=
  ⟨h.os, h.tape, h.output, h.size, fun k hk hf => h.block k hk (fun e => hf (hF k e.symm))⟩
theorem Chg.sizes {F : Nat → Prop} {w w' : World} (h : Chg F w w') : w.heap.size ≤ w'.heap.size := h.size
theorem chg_below {B : Nat} {w w' : World} {F : Nat → Prop} (h : Below B w w') (hF : ∀ k, B ≤ k → k < w.heap.size → F k) : Chg F w w' :=
  ⟨h.os, h.tape, h.output, h.size, fun k hk hf => h.block k (by rcases Nat.lt_or_ge k B with g | g; exact g; exact absurd (hF k g hk) hf)⟩
theorem below_chg {F : Nat → Prop} {w w' : World} {B : Nat} (h : Chg F w w') (hB : B ≤ w.heap.size) (hf : ∀ k, F k → B ≤ k) : Below B w w' :=
  h.below hB fun k hk hF => by have := hf k hF; omega
end Go.Proofs.YtafdijcolponjaaDoor

namespace Go.Proofs.YtafdijcolponjaaDoor
open Go.RowKit

/-- The same memory; only what was drawn may differ. -/
structure Same (w w' : World) : Prop where
  heap : w'.heap = w.heap
  os : w'.os = w.os
  tape : w'.tape = w.tape
  output : w'.output = w.output
theorem Same.refl (w : World) : Same w w := ⟨rfl, rfl, rfl, rfl⟩
theorem Same.drew {w w' : World} (h : Same w w') : Same w w'.drew := ⟨h.heap, h.os, h.tape, h.output⟩
theorem Same.drewN {w w' : World} (h : Same w w') (n : Nat) : Same w (w'.drewN n) := ⟨h.heap, h.os, h.tape, h.output⟩
theorem Same.trans {a b c : World} (h : Same a b) (k : Same b c) : Same a c := ⟨k.heap.trans h.heap, k.os.trans h.os, k.tape.trans h.tape, k.output.trans h.output⟩
theorem Same.chg {F : Nat → Prop} {w w' : World} (h : Same w w') : Chg F w w' := ⟨h.os, h.tape, h.output, by rw [h.heap]; exact Nat.le_refl _, fun _ _ _ => by rw [h.heap]⟩
theorem Same.below {w w' : World} (h : Same w w') {B : Nat} : Below B w w' := ⟨h.os, h.tape, h.output, by rw [h.heap]; exact Nat.le_refl _, fun _ _ => by rw [h.heap]⟩
theorem Same.at {w w' : World} (h : Same w w') (k : Nat) : w'.heap[k]? = w.heap[k]? := by rw [h.heap]
theorem Same.cell {w w' : World} (h : Same w w') {p : Addr} {v : Value} (hc : w.cell? p = some v) : w'.cell? p = some v :=
  (World.cell?_of_block (h.at p.block)).trans hc
theorem Same.free {w w' : World} (h : Same w w') {p : Addr} {b : Bool} (hc : w.frozen? p = b) : w'.frozen? p = b :=
  (World.frozen?_of_block (h.at p.block)).trans hc
theorem Same.owns {w w' : World} (h : Same w w') {base e size n : Nat} {v : Value} {xs : List Value} (ho : w.ownsRow base e size v n xs) : w'.ownsRow base e size v n xs :=
  owns_of_heap ho fun k _ => h.at k

theorem region_tail {P : Program} {id : Nat} {Q : Exit → Act → World → Prop} {a : Act} {w : World} {l : List Oper} (n : Nat) (hm : P.follows .mixedOrders = true) (hB : Region.lexTailB .any l.toArray n = true)
    (h : ∀ W : World, Same w W → wpStill P l.toArray W (fun a' => wpList P l.toArray Q (l.drop n) a' W) (l.take n) a) : (Code.region id l.toArray true).wp P Q a w :=
  wp_region_still_tail n hm hB (h _ ⟨rfl, rfl, rfl, rfl⟩)
end Go.Proofs.YtafdijcolponjaaDoor

namespace Go.Proofs.YtafdijcolponjaaDoor
open Go.RowKit

def sameB (l m : List Int) : Bool := decide (l = m)
theorem sameB_self (l : List Int) : sameB l l = true := decide_eq_true rfl

def intl (l : List Int) : List Value := l.map (Value.int .i64)

theorem Src.nth {w : World} {a : Option Addr} {len cap : Nat} {l : List Int} (h : Src w a len cap 1 (intl l)) {i : Nat} (hi : i < len) :
    ∃ x, a = some x ∧ w.cell? (x.add i) = some (.int .i64 (l.getD i 0)) := by
  obtain ⟨h1, h2, h3, h4, h5, h6⟩ := h
  have hl : i < l.length := by simp [intl] at h1; omega
  cases a with
  | none => have := h2 rfl; omega
  | some x => exact ⟨x, rfl, h5 x rfl i _ (by simp [intl, hl])⟩

/-- Where a row with cells begins, at a plain address. -/
theorem Src.plain {w : World} {a : Option Addr} {len cap : Nat} {l : List Int} (h : Src w a len cap 1 (intl l)) (hp : 0 < len) :
    ∃ b o, a = some ⟨b, o, none⟩ ∧ ∀ i, i < len → w.cell? ⟨b, o + i, none⟩ = some (.int .i64 (l.getD i 0)) := by
  obtain ⟨x, hx, h0⟩ := h.nth hp
  obtain ⟨b, o, s⟩ := x
  have hs : s = none := by
    cases s with
    | none => rfl
    | some q => simp only [World.cell?, Addr.add] at h0; split at h0 <;> simp at h0
  subst hs
  refine ⟨b, o, hx, fun i hi => ?_⟩
  obtain ⟨y, hy, hc⟩ := h.nth hi
  rw [hx] at hy
  cases hy
  rw [← hc]
  unfold Addr.add
  split
  · rename_i h0; subst h0; rfl
  · rfl

def SameRel (w : World) (n : Nat) (l m : List Int) (i : Value) (wr : World) : Prop :=
  ∃ k : Nat, k ≤ n ∧ i = .int .i64 k ∧ (∀ j, j < k → l.getD j 0 = m.getD j 0) ∧ Same w wr

def SameEnds (l m : List Int) (w : World) (e : Ending) (w' : World) : Prop := e = .returned (.bool (sameB l m)) ∧ Same w w'

theorem sameB_no_len {l m : List Int} (h : l.length ≠ m.length) : sameB l m = false := decide_eq_false fun e => h (by rw [e])
theorem sameB_no {l m : List Int} {j : Nat} (h : l.getD j 0 ≠ m.getD j 0) : sameB l m = false := decide_eq_false fun e => h (by rw [e])
theorem sameB_yes {l m : List Int} (h : l.length = m.length) (hj : ∀ j, j < l.length → l.getD j 0 = m.getD j 0) : sameB l m = true := by
  refine decide_eq_true (List.ext_getElem h fun j h1 h2 => ?_)
  have := hj j h1
  simpa [List.getD, h1, h2] using this

set_option maxHeartbeats 400000 in
theorem same_any (a b : Option Addr) (la ca lb cb : Nat) (l m : List Int) (w : World) (ha : Src w a la ca 1 (intl l)) (hb : Src w b lb cb 1 (intl m)) :
    Calls Tryd.prog 38 #[.slice a la ca, .slice b lb cb] w (SameEnds l m w) := by
  have hla : l.length = la := by have := ha.1; simpa [intl] using this
  have hlb : m.length = lb := by have := hb.1; simpa [intl] using this
  have hma := ha.2.2.1
  have hmb := hb.2.2.1
  have hxa := ha.2.2.2.1
  have hxb := hb.2.2.2.1
  unfold maxLen at hxa hxb
  have HA := Lib.hid ha
  have HB := Lib.hid hb
  have HLA := Lib.hid hla
  have HLB := Lib.hid hlb
  clear ha hb hla hlb
  by_cases hne : la = lb
  · subst hne
    go_enter Tryd.func38, Tryd.ntmps38
    go_wp2_with fail
    go_loopw [5] (fun i wr => SameRel w la l m i wr) (fun i _ => la - (intOf i).toNat)
    case atStart => exact ⟨0, Nat.zero_le _, rfl, fun j hj => by omega, Same.refl _⟩
    case round =>
      obtain ⟨k, hk, rfl, hall, hS⟩ := hrel
      have HALL := Lib.hid hall
      clear hall
      by_cases hlt : k < la
      · obtain ⟨ba, oa, rfl, hca⟩ := HA.out.plain (by omega)
        obtain ⟨bb, ob, rfl, hcb⟩ := HB.out.plain (by omega)
        have h1 := hS.cell (hca k hlt)
        have h2 := hS.cell (hcb k hlt)
        have HS := Lib.hid hS
        clear hS hca hcb
        have hk0 : (0 : Int) ≤ (k : Int) := Int.natCast_nonneg _
        have hk1 : (k : Int) < (la : Int) := by omega
        by_cases heq : l.getD k 0 = m.getD k 0
        · have HE := Lib.hid heq
          rw [heq] at h1
          clear heq
          generalize m.getD k 0 = x at h1 h2
          go_wp2_with fail
          go_quiet (fail)
          go_wp2_with fail
          go_roundw
          case rel => exact ⟨k + 1, by omega, by go_num, fun j hj => by
                        rcases Nat.lt_or_ge j k with g | g
                        · exact HALL.out j g
                        · obtain rfl : j = k := by omega
                          exact HE.out, HS.out.drewN _⟩
          case measure => simp [intOf]; omega
        · have hq : (l.getD k 0 != m.getD k 0) = true := by simpa using heq
          have HE := Lib.hid heq
          clear heq
          generalize hx : l.getD k 0 = x at h1 hq
          generalize hy : m.getD k 0 = y at h2 hq
          have HX := Lib.hid hx
          have HY := Lib.hid hy
          clear hx hy
          go_wp2_with fail
          go_quiet (fail)
          go_wp2_with fail
          go_ret
          exact ⟨ret_bool (sameB_no HE.out).symm, HS.out.drewN _⟩
      · obtain rfl : k = la := by omega
        have HS := Lib.hid hS
        clear hS
        go_wp2_with fail
        go_ret
        exact ⟨ret_bool (sameB_yes (HLA.out.trans HLB.out.symm) (by rw [HLA.out]; exact HALL.out)).symm, HS.out⟩
  · have hq : ((la : Int) != (lb : Int)) = true := by simp; omega
    have HN := Lib.hid hne
    clear hne
    go_enter Tryd.func38, Tryd.ntmps38
    go_wp2_with fail
    go_ret
    exact ⟨ret_bool (sameB_no_len (by rw [HLA.out, HLB.out]; exact HN.out)).symm, Same.refl _⟩
end Go.Proofs.YtafdijcolponjaaDoor

namespace Go.Proofs.YtafdijcolponjaaDoor
open Go.RowKit
variable {P : Program}

/-- A type whose values are one cell. -/
def plainD : TypeDesc → Bool
  | .int _ | .bool => true
  | _ => false

theorem run_index_one (w : World) (ty e : TypeId) (n : Nat) (d : TypeDesc) (cs : Array Value) (k : Nat) (v : Value) (hu : P.underlying ty = some (.array n e)) (he : P.underlying e = some d) (hd : plainD d = true)
    (hi : (P.info? e).map (·.size) = some 1) (hk : k < n) (hv : cs[k]? = some v) : (Instr.index ty (.agg cs) (.int .i64 (k : Int))).run P w = .ok v w := by
  have hagg : (isAgg e).run P w = .ok false w := by
    unfold isAgg
    rw [Sem.run_bind, run_underlying he w]
    cases d <;> simp_all [plainD]
  cases hq : P.info? e with
  | none => simp [hq] at hi
  | some i =>
    have hs : i.size = 1 := by simpa [hq] using hi
    have h1 : (0 : Int) ≤ (k : Int) ∧ (k : Int) < (n : Int) := by omega
    simp [Instr.index, Sem.run_bind, asIntOf, run_underlying hu w, h1, hk, sizeOf, typeInfo, hq, hs, part, hagg, hv]

theorem wpList_index_one {ops : Array Oper} {rest : List Oper} {op : Oper} {a : Act} {w : World} {Q : Exit → Act → World → Prop} (hgd : op.guard = none) (ty : TypeId) (x ix : Operand) (ho : op.op = .index ty x ix)
    (e : TypeId) (n : Nat) (d : TypeDesc) (cs : Array Value) (k : Nat) (v : Value) (hx : a.eval x = .agg cs) (hix : a.eval ix = .int .i64 (k : Int))
    (hu : P.underlying ty = some (.array n e)) (he : P.underlying e = some d) (hd : plainD d = true)
    (hi : (P.info? e).map (·.size) = some 1) (hk : k < n) (hv : cs[k]? = some v)
    (h : wpList P ops Q rest (a.put op.dst v) w) : wpList P ops Q (op :: rest) a w :=
  wpList_plain hgd fun _ hK => by
    unfold Oper.wp execOp
    simp only [ho, hx, hix, Sem.run_bind, Sem.run_pure, Result.andThen_ok, run_index_one w ty e n d cs k v hu he hd hi hk hv]
    exact hK _ _ h
end Go.Proofs.YtafdijcolponjaaDoor

namespace Go.Proofs.YtafdijcolponjaaDoor
open Go.RowKit Go.ChangeShapes Go.WideShapes Go.Deep

section
variable {H : Type} {enc : TypeId × Value → H} {P : Program} {w : World} {base : Nat} {spare : Nat → Bool} {held : Bool}
theorem open_slice_fields {t e : TypeId} {fs : Array Field} {fuel : Nat} {cs : List Value} {x : DataW H × List MemPlace} (ht : P.underlying t = some (.slice e)) (he : P.underlying e = some (.struct fs))
    (hone : oneCellFields P fs = true) (hC : P.cellsOf e = fs.size) (h : DataW.trod enc P w base spare held fuel t cs = some x) :
    (cs = [.slice none 0 0] ∧ x = (.nil, [])) ∨
    ∃ (a : Addr) (len cap m : Nat) (D : Nat → DataW H) (Pl : Nat → List MemPlace), cs = [.slice (some a) len cap] ∧ base ≤ a.block ∧ len ≤ cap ∧ cap ≤ maxLen ∧ m = (if spare a.block then cap else len) ∧
      x = (.slice ((List.range len).map D) ((List.range (m - len)).map fun j => D (len + j)), MemPlace.row a (m * fs.size) ++ (List.range m).flatMap Pl) ∧
      ∀ i, i < m → ∃ (ys : List (DataW H × List MemPlace)) (n : Nat), D i = .agg (ys.map (·.1)) ∧ Pl i = ys.flatMap (·.2) ∧ ys.length = fs.size ∧
        ∀ (j : Nat) (f : Field), fs[j]? = some f → ∃ (v : Value) (y : DataW H × List MemPlace), w.cell? (a.add (i * fs.size + j)) = some v ∧ ys[j]? = some y ∧ DataW.trod enc P w base spare held n f.type [v] = some y := by
  rcases open_slice ht h with h0 | ⟨a, len, cap, m, n, D, Pl, hcs, hb, hl, hm, hmm, hx, hi⟩
  · exact .inl h0
  · refine .inr ⟨a, len, cap, m, D, Pl, hcs, hb, hl, hm, hmm, by rw [hC] at hx; exact hx, fun i him => ?_⟩
    obtain ⟨cs', hc, ht'⟩ := hi i him
    rw [hC] at hc
    obtain ⟨ys, n', hn', hy, hlen, hyl, hf⟩ := DataW.trod_struct he ht'
    obtain ⟨_, hcl, hat⟩ := World.cells?_some hc
    simp only [Prod.mk.injEq] at hy
    refine ⟨ys, n', hy.1, hy.2, hyl, fun j f hj => ?_⟩
    obtain ⟨ho, hk⟩ := hone_of hone j f hj
    have hjl : j < fs.size := (Array.getElem?_eq_some_iff.1 hj).1
    have hcell := hat j hjl
    have hv : cs'[j]? = some (cs'[j]'(by omega)) := List.getElem?_eq_getElem (by omega)
    have h1 := hf j f hj
    rw [ho, hk] at h1
    have hone' : (cs'.drop j).take 1 = [cs'[j]'(by omega)] := by
      rw [List.drop_eq_getElem_cons (by omega)]
      rfl
    rw [hone'] at h1
    have hys : ys[j]? = some (ys[j]'(by omega)) := List.getElem?_eq_getElem (by omega)
    refine ⟨_, _, ?_, hys, h1.trans hys⟩
    rw [← Go.Deep.add_add, hcell, hv]
end

/-- A slice of structs of m integers each, that came in. -/
def IsRowS (m : Nat) (w : World) (a : Option Addr) (len cap : Nat) (zs : Nat → Nat → Int) : Prop :=
  (a = none ∧ len = 0 ∧ cap = 0) ∨
  ∃ x, a = some x ∧ len ≤ cap ∧ cap ≤ maxLen ∧ ∀ i, i < len → ∀ j, j < m → w.cell? (x.add (i * m + j)) = some (.int .i64 (zs i j)) ∧ (Lit.int .i64 (zs i j)).wf = true

theorem open_rowS {H : Type} {enc : TypeId × Value → H} {P : Program} {w : World} {base : Nat} {spare : Nat → Bool} {held : Bool}
    {t e ti : TypeId} {fs : Array Field} {fuel : Nat} {a : Option Addr} {len cap : Nat} {x : DataW H × List MemPlace} (ht : P.underlying t = some (.slice e)) (he : P.underlying e = some (.struct fs))
    (hone : oneCellFields P fs = true) (hC : P.cellsOf e = fs.size) (hi : P.underlying ti = some (.int .i64)) (hf : ∀ (j : Nat) (f : Field), fs[j]? = some f → f.type = ti)
    (h : DataW.trod enc P w base spare held fuel t (Value.slice a len cap).cells.toList = some x) : ∃ zs, IsRowS fs.size w a len cap zs := by
  rcases open_slice_fields ht he hone hC h with ⟨hcs, _⟩ | ⟨x, l, c, m, D, Pl, hcs, _, hl, hm, hmm, _, hcell⟩
  · simp [Value.cells] at hcs
    obtain ⟨rfl, rfl, rfl⟩ := hcs
    exact ⟨fun _ _ => 0, .inl ⟨rfl, rfl, rfl⟩⟩
  · simp [Value.cells] at hcs
    obtain ⟨rfl, rfl, rfl⟩ := hcs
    have hlm : len ≤ m := by rw [hmm]; split <;> omega
    have hz : ∀ i j : Nat, ∃ z : Int, i < len → j < fs.size → w.cell? (x.add (i * fs.size + j)) = some (.int .i64 z) ∧ (Lit.int .i64 z).wf = true := by
      intro i j
      by_cases hij : i < len ∧ j < fs.size
      · obtain ⟨hil, hjs⟩ := hij
        obtain ⟨ys, n, _, _, _, hfj⟩ := hcell i (by omega)
        obtain ⟨v, y, hc, _, hy⟩ := hfj j fs[j] (by simp [hjs])
        rw [hf j fs[j] (by simp [hjs])] at hy
        obtain ⟨q, hq, _, hwf⟩ := DataW.trod_int hi hy
        simp only [List.cons.injEq, and_true] at hq
        subst hq
        exact ⟨q, fun _ _ => ⟨hc, hwf⟩⟩
      · exact ⟨0, fun h1 h2 => absurd ⟨h1, h2⟩ hij⟩
    exact ⟨fun i j => (hz i j).choose, .inr ⟨x, rfl, hl, hm, fun i hi j hj => (hz i j).choose_spec hi hj⟩⟩

theorem IsRowS.len_le {m : Nat} {w : World} {a : Option Addr} {len cap : Nat} {zs : Nat → Nat → Int} (h : IsRowS m w a len cap zs) : len ≤ cap ∧ cap ≤ 9223372036854775807 := by
  rcases h with ⟨rfl, rfl, rfl⟩ | ⟨x, rfl, hl, hm, hc⟩
  · exact ⟨Nat.le_refl _, by omega⟩
  · exact ⟨hl, by unfold maxLen at hm; omega⟩

/-- Its cells, at a plain address. -/
theorem IsRowS.at {m : Nat} {w : World} {a : Option Addr} {len cap : Nat} {zs : Nat → Nat → Int} (h : IsRowS m w a len cap zs) (hm : 0 < m) {i : Nat} (hi : i < len) :
    ∃ b o, a = some ⟨b, o, none⟩ ∧ b < w.heap.size ∧ ∀ k, k < len → ∀ j, j < m → w.cell? ⟨b, o + (k * m + j), none⟩ = some (.int .i64 (zs k j)) ∧ (Lit.int .i64 (zs k j)).wf = true := by
  rcases h with ⟨rfl, rfl, rfl⟩ | ⟨x, rfl, hl, hcap, hc⟩
  · omega
  · obtain ⟨b, o, s⟩ := x
    have h0 := (hc 0 (by omega) 0 hm).1
    have hs : s = none := by
      cases s with
      | none => rfl
      | some q => simp [World.cell?, Addr.add] at h0; split at h0 <;> simp at h0
    subst hs
    refine ⟨b, o, rfl, World.block_lt_of_cell? w ⟨b, o, none⟩ (by simpa [Addr.add] using h0), fun k hk j hj => ?_⟩
    have := hc k hk j hj
    unfold Addr.add at this
    split at this
    · rename_i e; rw [e, Nat.add_zero]; exact this
    · exact this
end Go.Proofs.YtafdijcolponjaaDoor

namespace Go.Proofs.YtafdijcolponjaaDoor
open Go.RowKit
variable {P : Program} {ops : Array Oper} {Q : Exit → Act → World → Prop}

/-- The post of one operation: K behind it, Q at a panic. -/
def Behind (K : Act → World → Prop) (Q : Exit → Act → World → Prop) : Exit → Act → World → Prop
  | .normal, a, w => K a w
  | e, a, w => Q e a w

theorem wp_behind {o : Oper} {a : Act} {w : World} {K K' : Act → World → Prop} (hK : ∀ a w, K' a w → K a w) (h : o.wp P a w K' (Behind K Q)) : o.wp P a w K Q := by
  unfold Oper.wp at *
  generalize (execOp a.eval o).run P w = r at *
  cases r with
  | ok n w' =>
    cases n <;> simp only [Oper.upon] at h ⊢ <;>
      first
        | exact hK _ _ h
        | exact Calls.mono h (fun e w'' he => by cases e <;> first | exact hK _ _ he | exact he)
        | exact Rows.mono h (fun _ _ he => hK _ _ he)
  | halt x w' => cases x <;> simp only [Oper.upon] at h ⊢ <;> exact h

theorem wpOp_of_list {i : Nat} {o : Oper} {a : Act} {w : World} {K : Act → World → Prop} (hi : ops[i]? = some o) (h : wpList P ops (Behind K Q) [o] a w) : wpOp P ops Q i K a w := by
  unfold wpOp
  simp only [hi]
  unfold wpList at h
  split
  · rename_i hw
    simp only [hw, if_true] at h
    exact h.imp (wp_behind fun _ _ h => h) id
  · rename_i hw
    simp only [hw, Bool.false_eq_true, if_false] at h
    exact h

def left (listed : Array Bool) : Nat := listed.toList.count false

theorem left_set {listed : Array Bool} {i : Nat} (h : listed.getD i true = false) : left (listed.setIfInBounds i true) + 1 = left listed := by
  have hlt : i < listed.size := by
    rcases Nat.lt_or_ge i listed.size with g | g
    · exact g
    · simp [Array.getElem?_eq_none g] at h
  have hv : listed.toList[i]'(by simpa using hlt) = false := by simpa [hlt] using h
  unfold left
  rw [Array.toList_setIfInBounds, List.count_set (by simpa using hlt), hv]
  have : 0 < listed.toList.count false := List.count_pos_iff.2 (hv ▸ List.getElem_mem _)
  simp only [beq_self_eq_true, if_true, show (true == false) = false from rfl, Bool.false_eq_true, if_false]
  omega

/-- What has come up came up behind all that it waits for. -/
def Closed (ops : Array Oper) (listed : Array Bool) : Prop :=
  ∀ (j : Nat) (o : Oper), ops[j]? = some o → listed.getD j false = true → ∀ e ∈ o.after, Region.binds .any e = true → listed.getD e.on false = true

theorem closed_set {listed : Array Bool} {i : Nat} {o : Oper} (hc : Closed ops listed) (ho : ops[i]? = some o) (hd : ∀ e ∈ o.after, Region.binds .any e = true → listed.getD e.on false = true) : Closed ops (listed.setIfInBounds i true) := by
  intro j p hp hj e he hb
  by_cases hij : i = j
  · subst hij
    obtain rfl := Option.some.inj (ho.symm.trans hp)
    exact getD_set_true (hd e he hb)
  · rw [getD_set_ne false hij] at hj
    exact getD_set_true (hc j p hp hj e he hb)

/-- Where each operation waits for elder ones alone, none is left when none may come up. -/
theorem all_listed (hdep : ∀ (i : Nat) (o : Oper), ops[i]? = some o → ∀ e ∈ o.after, Region.binds .any e = true → e.on < i) {listed : Array Bool} (hr : Region.ready .any ops listed = []) :
    ∀ i, i < ops.size → listed.size = ops.size → listed.getD i false = true := by
  intro i
  induction i using Nat.strongRecOn with
  | ind i ih =>
    intro hi hs
    cases h : listed.getD i false with
    | true => rfl
    | false =>
      refine absurd (List.eq_nil_iff_forall_not_mem.1 hr i) (not_not_intro (mem_ready.2 ⟨?_, ops[i], Array.getElem?_eq_getElem hi, fun e he hb => ?_⟩))
      · have hl : i < listed.size := by omega
        simpa [hl] using h
      · have := hdep i _ (Array.getElem?_eq_getElem hi) e he hb
        exact ih e.on this (by omega) hs

/-- Each operation waits for elder ones alone. -/
def elder (ops : Array Oper) : Bool := (List.range ops.size).all fun i => match ops[i]? with | some o => o.after.all (fun e => !Region.binds .any e || decide (e.on < i)) | none => true
theorem elder_spec (h : elder ops = true) : ∀ (i : Nat) (o : Oper), ops[i]? = some o → ∀ e ∈ o.after, Region.binds .any e = true → e.on < i := by
  intro i o ho e he hb
  have hlt : i < ops.size := (Array.getElem?_eq_some_iff.1 ho).1
  have := List.all_eq_true.1 h i (List.mem_range.2 hlt)
  simp only [ho] at this
  have := Array.all_eq_true_iff_forall_mem.1 this e he
  rw [hb] at this
  exact of_decide_eq_true (by simpa using this)

theorem wpAny_inv {I : Array Bool → Act → World → Prop}
    (hstep : ∀ listed a w i o, I listed a w → Closed ops listed → ops[i]? = some o → listed.getD i true = false → (∀ e ∈ o.after, Region.binds .any e = true → listed.getD e.on false = true) → wpOp P ops Q i (I (listed.setIfInBounds i true)) a w)
    (hel : elder ops = true) (hend : ∀ listed a w, I listed a w → (∀ i, i < ops.size → listed.getD i false = true) → Q .normal a w) :
    ∀ (fuel : Nat) (listed : Array Bool) (a : Act) (w : World), listed.size = ops.size → left listed ≤ fuel → Closed ops listed → I listed a w → wpAny P .any ops Q fuel listed a w
  | 0, listed, a, w, hs, hl, _, h => by
    have hr : Region.ready .any ops listed = [] := by
      refine List.eq_nil_iff_forall_not_mem.2 fun j hj => ?_
      have := left_set (mem_ready.1 hj).1
      omega
    exact ⟨hr, hend _ _ _ h fun i hi => all_listed (elder_spec hel) hr i hi hs⟩
  | fuel + 1, listed, a, w, hs, hl, hc, h => by
    refine ⟨fun hr => hend _ _ _ h fun i hi => all_listed (elder_spec hel) hr i hi hs, fun i hi => ?_⟩
    obtain ⟨h0, o, ho, hd⟩ := mem_ready.1 hi
    refine wpOp_mono (fun a' w' h' => wpAny_inv hstep hel hend fuel _ a' w' (by simpa using hs) ?_ (closed_set hc ho hd) h') (hstep listed a w i o h hc ho h0 hd)
    have := left_set h0
    omega

theorem wp_region_inv {id : Nat} {a : Act} {w : World} (I : Array Bool → Act → World → Prop) (hm : P.follows .mixedOrders = true)
    (h0 : I (Array.replicate ops.size false) a w.drew)
    (hstep : ∀ listed a w i o, I listed a w → Closed ops listed → ops[i]? = some o → listed.getD i true = false → (∀ e ∈ o.after, Region.binds .any e = true → listed.getD e.on false = true) → wpList P ops (Behind (I (listed.setIfInBounds i true)) Q) [o] a w)
    (hel : elder ops = true) (hend : ∀ listed a w, I listed a w → (∀ i, i < ops.size → listed.getD i false = true) → Q .normal a w) : (Code.region id ops true).wp P Q a w :=
  wp_region_any hm (wpAny_inv (fun listed a w i o h hc ho hl hd => wpOp_of_list ho (hstep listed a w i o h hc ho hl hd)) hel hend ops.size _ a _ (by simp) (by simp [left]) (fun j o ho hj => by
    have hlt : j < ops.size := (Array.getElem?_eq_some_iff.1 ho).1
    simp [hlt] at hj) h0)

theorem wp_region_inv_from {id : Nat} {a : Act} {w : World} (I : Act → Array Bool → Act → World → Prop) (hm : P.follows .mixedOrders = true)
    (h0 : I a (Array.replicate ops.size false) a w.drew)
    (hstep : ∀ listed a' w' i o, I a listed a' w' → Closed ops listed → ops[i]? = some o → listed.getD i true = false → (∀ e ∈ o.after, Region.binds .any e = true → listed.getD e.on false = true) → wpList P ops (Behind (I a (listed.setIfInBounds i true)) Q) [o] a' w')
    (hel : elder ops = true) (hend : ∀ listed a' w', I a listed a' w' → (∀ i, i < ops.size → listed.getD i false = true) → Q .normal a' w') : (Code.region id ops true).wp P Q a w :=
  wp_region_inv (I a) hm h0 hstep hel hend

/-- The slots from n on, k of them, hold x. -/
def fill (t : Array Value) (n : Nat) (x : Nat → Value) : Nat → Array Value
  | 0 => t
  | k + 1 => (fill t n x k).setIfInBounds (n + k) (x k)

theorem fill_size (t : Array Value) (n : Nat) (x : Nat → Value) : ∀ k, (fill t n x k).size = t.size
  | 0 => rfl
  | k + 1 => by simp [fill, fill_size t n x k]

theorem fill_at (t : Array Value) (n : Nat) (x : Nat → Value) : ∀ (k j : Nat), n + k ≤ t.size → (fill t n x k)[j]? = if n ≤ j ∧ j < n + k then some (x (j - n)) else t[j]?
  | 0, j, _ => by
    rw [if_neg (by omega)]; rfl
  | k + 1, j, h => by
    have hs := fill_size t n x k
    simp only [fill]
    rw [Array.getElem?_setIfInBounds, fill_at t n x k j (by omega)]
    by_cases hj : n + k = j
    · subst hj
      rw [if_pos rfl, if_pos (by omega), if_pos (by omega)]
      congr 2; omega
    · rw [if_neg hj]
      by_cases hc : n ≤ j ∧ j < n + k
      · rw [if_pos hc, if_pos (by omega)]
      · rw [if_neg hc, if_neg (by omega)]

theorem fill_set (t : Array Value) (n : Nat) (x : Nat → Value) (k i : Nat) (v : Value) (hi : i < k) (h : n + k ≤ t.size) :
    (fill t n x k).setIfInBounds (n + i) v = fill t n (fun j => if j = i then v else x j) k := by
  refine Array.ext_getElem? fun j => ?_
  rw [Array.getElem?_setIfInBounds, fill_at t n x k j h, fill_at t n _ k j h, fill_size]
  by_cases hj : n + i = j
  · subst hj
    rw [if_pos rfl, if_pos (by omega), if_pos (by omega), if_pos (by omega)]
  · rw [if_neg hj]
    by_cases hc : n ≤ j ∧ j < n + k
    · rw [if_pos hc, if_pos hc, if_neg (by omega)]
    · rw [if_neg hc, if_neg hc]

theorem fill_self (t : Array Value) (n k : Nat) (h : n + k ≤ t.size) : fill t n (fun j => t.getD (n + j) undef) k = t := by
  refine Array.ext_getElem? fun j => ?_
  rw [fill_at t n _ k j h]
  by_cases hc : n ≤ j ∧ j < n + k
  · rw [if_pos hc]
    have : n + (j - n) = j := by omega
    rw [this]
    simp [show j < t.size by omega]
  · rw [if_neg hc]

/-- What the slots hold of the operations that have come up. -/
def Told (listed : Array Bool) (x V : Nat → Value) : Prop := ∀ i, listed.getD i false = true → x i = V i
theorem Told.set {listed : Array Bool} {x V : Nat → Value} (h : Told listed x V) (i : Nat) : Told (listed.setIfInBounds i true) (fun j => if j = i then V i else x j) V := by
  intro j hj
  show (if j = i then V i else x j) = V j
  by_cases e : j = i
  · subst e; rw [if_pos rfl]
  · rw [if_neg e]
    rw [getD_set_ne false (Ne.symm e)] at hj
    exact h j hj
theorem Told.fix {listed : Array Bool} {x V : Nat → Value} (h : Told listed x V) (i : Nat) : Told listed (fun j => if j = i then V i else x j) V := by
  intro j hj
  show (if j = i then V i else x j) = V j
  by_cases e : j = i
  · subst e; rw [if_pos rfl]
  · rw [if_neg e]; exact h j hj
theorem fresh_no {listed : Array Bool} {i : Nat} (h : listed.getD i true = false) : ¬ listed.getD i false = true := by
  rcases Nat.lt_or_ge i listed.size with g | g
  · simp [g] at h ⊢; exact h
  · simp [Array.getElem?_eq_none g] at h
theorem fresh_set {listed : Array Bool} {i : Nat} (h : listed.getD i true = false) : (listed.setIfInBounds i true).getD i false = true := by
  rcases Nat.lt_or_ge i listed.size with g | g
  · simp [g]
  · simp [Array.getElem?_eq_none g] at h
theorem Told.none {n : Nat} {x V : Nat → Value} : Told (Array.replicate n false) x V := by
  intro i hi
  by_cases h : i < n
  · simp [h] at hi
  · simp [h] at hi
end Go.Proofs.YtafdijcolponjaaDoor

namespace Go.Proofs.YtafdijcolponjaaDoor
open Go.RowKit

/-- The readers that have come up hold what they read; sl: an operation's slot. -/
def ToldS (rd : Nat → Bool) (sl : Nat → Nat) (V : Nat → Value) (listed : Array Bool) (x : Nat → Value) : Prop :=
  ∀ i, rd i = true → listed.getD i false = true → x (sl i) = V i
theorem ToldS.none {rd : Nat → Bool} {sl : Nat → Nat} {V : Nat → Value} {n : Nat} {x : Nat → Value} : ToldS rd sl V (Array.replicate n false) x := by
  intro i _ hi
  by_cases h : i < n
  · simp [h] at hi
  · simp [h] at hi
theorem ToldS.read {rd : Nat → Bool} {sl : Nat → Nat} {V : Nat → Value} {listed : Array Bool} {x : Nat → Value} (h : ToldS rd sl V listed x) (i : Nat) (inj : ∀ j, rd j = true → sl j = sl i → j = i) :
    ToldS rd sl V (listed.setIfInBounds i true) (fun j => if j = sl i then V i else x j) := by
  intro j hr hj
  show (if sl j = sl i then V i else x (sl j)) = V j
  by_cases e : sl j = sl i
  · rw [if_pos e, inj j hr e]
  · rw [if_neg e]
    have e2 : i ≠ j := fun h => e (by rw [h])
    rw [getD_set_ne false e2] at hj
    exact h j hr hj
theorem ToldS.skip {rd : Nat → Bool} {sl : Nat → Nat} {V : Nat → Value} {listed : Array Bool} {x : Nat → Value} (h : ToldS rd sl V listed x) (i : Nat) (hi : rd i = false) :
    ToldS rd sl V (listed.setIfInBounds i true) x := by
  intro j hr hj
  have e2 : i ≠ j := fun h => by subst h; rw [hi] at hr; cases hr
  rw [getD_set_ne false e2] at hj
  exact h j hr hj
theorem ToldS.write {rd : Nat → Bool} {sl : Nat → Nat} {V : Nat → Value} {listed : Array Bool} {x : Nat → Value} (h : ToldS rd sl V listed x) (i s : Nat) (v : Value) (hi : rd i = false) (hs : ∀ j, rd j = true → sl j ≠ s) :
    ToldS rd sl V (listed.setIfInBounds i true) (fun j => if j = s then v else x j) := by
  intro j hr hj
  show (if sl j = s then v else x (sl j)) = V j
  rw [if_neg (hs j hr)]
  exact h.skip i hi j hr hj
end Go.Proofs.YtafdijcolponjaaDoor

namespace Go.Proofs.YtafdijcolponjaaDoor
open Go.RowKit

def AmongEnds (n : Int) (w : World) (e : Ending) (w' : World) : Prop := ∃ d : Int, 0 ≤ d ∧ d < n ∧ e = .returned (.int .i64 d) ∧ w = w'

theorem among_any (x n : Int) (w : World) (hx : (Lit.int .i64 x).wf = true) (hn : 1 ≤ n) (hm : n ≤ 9223372036854775807) :
    Calls Tryd.prog 30 #[.int .i64 x, .int .i64 n] w (AmongEnds n w) := by
  obtain ⟨b0, b1⟩ := bounds_i64 hx
  go_enter Tryd.func30, Tryd.ntmps30
  go_wp2_with fail
  go_ret
  have hu : 0 ≤ IntKind.u64.wrap x := by rw [IntKind.wrap_u64]; omega
  have h1 := Int.tmod_nonneg n hu
  have h2 := Int.tmod_lt_of_pos (IntKind.u64.wrap x) (show 0 < n by omega)
  exact ⟨_, h1, h2, ret_int (IntWalk.wrap64_in _ ⟨by omega, by omega⟩), rfl⟩
end Go.Proofs.YtafdijcolponjaaDoor

namespace Go.Proofs.YtafdijcolponjaaDoor
open Go.RowKit

theorem infoBool : (Tryd.prog.info? 4).map (fun i => (i.zero, i.size, i.bytes)) = some (some (.bool false), 1, 1) := by kernel_rfl
def boolL (n : Nat) (p : Nat → Bool) : List Value := (List.range n).map fun j => .bool (p j)
theorem boolL_at {n : Nat} {p : Nat → Bool} {j : Nat} (h : j < n) : (boolL n p)[j]? = some (.bool (p j)) := by simp [boolL, h]
theorem boolL_set {n : Nat} {p : Nat → Bool} {j : Nat} (b : Bool) : (boolL n p).set j (.bool b) = boolL n fun i => if i = j then b else p i := by
  refine List.ext_getElem (by simp [boolL]) fun i h1 h2 => ?_
  simp only [boolL, List.getElem_set, List.getElem_map, List.getElem_range]
  by_cases e : j = i
  · subst e; simp
  · rw [if_neg e, if_neg (fun h => e h.symm)]
theorem boolL_made (n : Nat) : (madeCells #[Value.bool false] n).toList = boolL n fun _ => false := by
  rw [toList_madeCells_one]
  exact List.ext_getElem (by simp [boolL]) fun i h1 h2 => by simp [boolL]
theorem boolL_congr {n : Nat} {p q : Nat → Bool} (h : ∀ j, j < n → p j = q j) : boolL n p = boolL n q := by
  unfold boolL
  exact List.map_congr_left fun j hj => by rw [h j (List.mem_range.1 hj)]
/-- Block g is a row of n truths. -/
def BoolRow (w : World) (g n : Nat) (p : Nat → Bool) : Prop := w.ownsRow 0 4 1 (.slice (some ⟨g, 0, none⟩) n n) n (boolL n p)
variable {w w' : World} {g n : Nat} {p : Nat → Bool}
theorem BoolRow.cell (h : BoolRow w g n p) {j : Nat} (hj : j < n) : w.cell? ⟨g, j, none⟩ = some (.bool (p j)) := (h.cellAt j (by omega)).trans (boolL_at hj)
theorem BoolRow.free (h : BoolRow w g n p) (j : Nat) : w.frozen? ⟨g, j, none⟩ = false := h.frozenAt j
theorem BoolRow.lt (h : BoolRow w g n p) : g < w.heap.size := owns_lt h g rfl
theorem BoolRow.frame (h : BoolRow w g n p) (hb : w'.heap[g]? = w.heap[g]?) : BoolRow w' g n p := owns_of_heap h fun k hk => by cases hk; exact hb
theorem BoolRow.below (h : BoolRow w g n p) {B : Nat} (hB : Below B w w') (hg : g < B) : BoolRow w' g n p := h.frame (hB.block g hg)
theorem BoolRow.put (h : BoolRow w g n p) (j : Nat) (b : Bool) : BoolRow (w.setCell ⟨g, j, none⟩ (.bool b)) g n fun i => if i = j then b else p i := by
  have := (h.stored j (.bool b)).1
  rw [boolL_set] at this
  exact this
theorem BoolRow.congr (h : BoolRow w g n p) {q : Nat → Bool} (hq : ∀ j, j < n → p j = q j) : BoolRow w g n q := by
  unfold BoolRow at *
  rw [← boolL_congr hq]; exact h

/-- Block g is a row of numbers. -/
def IntRow (w : World) (g n : Nat) (l : List Int) : Prop := w.ownsRow 0 3 1 (.slice (some ⟨g, 0, none⟩) n n) n (intl l)
variable {l : List Int}
theorem IntRow.len (h : IntRow w g n l) : l.length = n := by have := h.1; simpa [intl] using this
theorem IntRow.cell (h : IntRow w g n l) {j : Nat} (hj : j < n) : w.cell? ⟨g, j, none⟩ = some (.int .i64 (l.getD j 0)) := by
  have hl := h.len
  exact (h.cellAt j (by omega)).trans (by simp [intl, List.getD, show j < l.length by omega])
theorem IntRow.free (h : IntRow w g n l) (j : Nat) : w.frozen? ⟨g, j, none⟩ = false := h.frozenAt j
theorem IntRow.lt (h : IntRow w g n l) : g < w.heap.size := owns_lt h g rfl
theorem IntRow.frame (h : IntRow w g n l) (hb : w'.heap[g]? = w.heap[g]?) : IntRow w' g n l := owns_of_heap h fun k hk => by cases hk; exact hb
theorem IntRow.below (h : IntRow w g n l) {B : Nat} (hB : Below B w w') (hg : g < B) : IntRow w' g n l := h.frame (hB.block g hg)
theorem IntRow.put (h : IntRow w g n l) (j : Nat) (x : Int) : IntRow (w.setCell ⟨g, j, none⟩ (.int .i64 x)) g n (l.set j x) := by
  have e : intl (l.set j x) = (intl l).set j (.int .i64 x) := by simp [intl, List.map_set]
  unfold IntRow
  rw [e]
  exact (h.stored j (.int .i64 x)).1
theorem IntRow.src (h : IntRow w g n l) (hn : n ≤ 9223372036854775807) : Src w (some ⟨g, 0, none⟩) n n 1 (intl l) := by
  refine ⟨h.1, (fun e => by cases e), Nat.le_refl _, by unfold maxLen; omega, fun ad had j u hj => ?_, fun u hu => ?_⟩
  · cases had
    exact h.cells rfl j u hj
  · obtain ⟨z, _, rfl⟩ := List.mem_map.1 hu
    rfl
theorem intl_made (n : Nat) : (madeCells #[Value.int .i64 0] n).toList = intl (List.replicate n 0) := by
  rw [toList_madeCells_one]; simp [intl]
end Go.Proofs.YtafdijcolponjaaDoor

namespace Go.Proofs.YtafdijcolponjaaDoor
open Go.RowKit Go.Maps

theorem keyedInt : Keyed Tryd.prog 3 := int_keyed Tryd.underlying3
theorem zeroInt (w : World) : (zeroValue 3).run Tryd.prog w = .ok (.int .i64 0) w := by kernel_rfl
def putF (f : Int → Option Int) (x v : Int) (y : Int) : Option Int := if y = x then some v else f y
/-- Block b is a map of at most n entries, which holds f. -/
def MapAt (w : World) (b n : Nat) (f : Int → Option Int) : Prop :=
  ∃ D : DataW Unit, w.ownsMap Tryd.prog 3 (plainElem Tryd.prog 3) b n D ∧ ∀ x : Int, Maps.has D (.int .i64 x) = (f x).isSome ∧ D.atKey (.int .i64 x) (.lit (.int .i64 0)) = .lit (.int .i64 ((f x).getD 0))
theorem mapAt_made (w : World) : MapAt (w.alloc (.map #[] 0)) w.heap.size 0 (fun _ => none) :=
  ⟨.map [], World.ownsMap_made _ _ _ _, fun _ => ⟨rfl, rfl⟩⟩
variable {w w' : World} {b n : Nat} {f : Int → Option Int}
theorem MapAt.lt (h : MapAt w b n f) : b < w.heap.size := by obtain ⟨D, h, -⟩ := h; exact h.lt
theorem MapAt.frame (h : MapAt w b n f) (hb : w'.heap[b]? = w.heap[b]?) : MapAt w' b n f := by
  obtain ⟨D, ⟨es, clock, h1, h2⟩, h3⟩ := h
  exact ⟨D, ⟨es, clock, hb.trans h1, h2⟩, h3⟩
theorem MapAt.below (h : MapAt w b n f) {B : Nat} (hB : Below B w w') (hb : b < B) : MapAt w' b n f := h.frame (hB.block b hb)
theorem MapAt.mono (h : MapAt w b n f) {m : Nat} (hm : n ≤ m) : MapAt w b m f := by obtain ⟨D, h1, h2⟩ := h; exact ⟨D, h1.mono hm, h2⟩
theorem keyInt {x : Int} (hx : (Lit.int .i64 x).wf = true) : keyOf Tryd.prog 3 (.int .i64 x) = some (.int .i64 x) := keyOf_int_mk Tryd.underlying3 hx
theorem MapAt.look (h : MapAt w b n f) {x : Int} (hx : (Lit.int .i64 x).wf = true) : (Instr.lookup 107 (.map (some b)) (.int .i64 x) false).run Tryd.prog w = .ok (.int .i64 ((f x).getD 0)) w := by
  obtain ⟨D, h1, h2⟩ := h
  obtain ⟨c, hrun, hat, -⟩ := h1.lookup_int keyedInt Tryd.underlying107 Tryd.underlying3 (zeroInt w) (keyInt hx)
  rw [(h2 x).2] at hat
  cases hat
  exact hrun
theorem MapAt.lookOk (h : MapAt w b n f) {x : Int} (hx : (Lit.int .i64 x).wf = true) : (Instr.lookup 107 (.map (some b)) (.int .i64 x) true).run Tryd.prog w = .ok (.tuple #[.int .i64 ((f x).getD 0), .bool (f x).isSome]) w := by
  obtain ⟨D, h1, h2⟩ := h
  obtain ⟨v, ps, hrun, hv⟩ := h1.look_ok keyedInt Tryd.underlying107 (zeroInt w) (plainElem_int Tryd.underlying3 (by decide)) (keyInt hx)
  obtain ⟨c, rfl, hc, -⟩ := plainElem_int_inv Tryd.underlying3 hv
  have hc' := congrArg Prod.fst hc
  rw [(h2 x).2] at hc'
  cases hc'
  rw [(h2 x).1] at hrun
  exact hrun
theorem MapAt.update (h : MapAt w b n f) (hn : n < maxLen) {x v : Int} (hx : (Lit.int .i64 x).wf = true) (hv : (Lit.int .i64 v).wf = true) :
    ∃ w', (Instr.mapUpdate 107 (.map (some b)) (.int .i64 x) (.int .i64 v)).run Tryd.prog w = .ok () w' ∧ MapAt w' b (n + 1) (putF f x v) ∧ w.grownBy w' (some b) := by
  obtain ⟨D, h1, h2⟩ := h
  obtain ⟨w', hrun, h3, h4⟩ := h1.update keyedInt Tryd.underlying107 hn (keyInt hx) (plainElem_int Tryd.underlying3 hv)
  have hkl : WideAt.IsKeyLit (.int .i64 x) := trivial
  refine ⟨w', hrun, ⟨_, h3, fun y => ?_⟩, h4⟩
  unfold putF
  by_cases hy : y = x
  · subst hy
    rw [if_pos rfl, has_put_same h1.isMap hkl, atKey_put_same h1.isMap hkl]
    exact ⟨rfl, rfl⟩
  · have hne : Lit.int .i64 y ≠ Lit.int .i64 x := fun e => hy (by cases e; rfl)
    rw [if_neg hy, has_put_other hne, atKey_put_other hne]
    exact h2 y
theorem wpList_map_put {ops : Array Oper} {rest : List Oper} {o : Oper} {a : Act} {Q : Exit → Act → World → Prop}
    (hg : o.guard = none) (m x v : Operand) (hop : o.op = Op.mapUpdate 107 m x v) (b n : Nat) (f : Int → Option Int) (hm : a.eval m = .map (some b)) (h : MapAt w b n f) (hn : n < maxLen)
    (k u : Int) (hx : a.eval x = .int .i64 k) (hv : a.eval v = .int .i64 u) (hk : (Lit.int .i64 k).wf = true) (hu : (Lit.int .i64 u).wf = true)
    (hK : ∀ w', MapAt w' b (n + 1) (putF f k u) → w.grownBy w' (some b) → wpList Tryd.prog ops Q rest (a.put o.dst undef) w') : wpList Tryd.prog ops Q (o :: rest) a w := by
  refine wpList_plain hg fun K' hK' => ?_
  obtain ⟨w', hrun, r1, r2⟩ := h.update hn hk hu
  unfold Oper.wp
  simp [execOp, hop, hm, hx, hv, hrun, Result.andThen]
  exact hK' _ _ (hK w' r1 r2)
end Go.Proofs.YtafdijcolponjaaDoor
