/- base.Ints hands back a copy in new memory. Condition: the length times 8 is at most 2 to the power 47. -/
import Derived.Test.YtifjjcenmilohaaDoorBase
import Derived.OwnWalk
import Derived.Laws.AppendOwnNone
import Derived.OpenShut
import Derived.Deep.DeepCutAuto
namespace Go.Proofs.YtifjjcenmilohaaDoor
open Go.RowKit

theorem cell_alloc {w : World} {o : Obj} {p : Addr} {v : Value} (h : w.cell? p = some v) : (w.alloc o).cell? p = some v :=
  (World.cell?_of_block (Below.heap_alloc _ _ _ (World.block_lt_of_cell? w _ h))).trans h

theorem owns_some {w : World} {base e size n : Nat} {v : Value} {xs : List Value} (h : w.ownsRow base e size v n xs) (hv : ¬ v = .slice none 0 0) :
    ∃ g cap, v = .slice (some ⟨g, 0, none⟩) n cap := by
  rcases h.2 with ⟨h, _⟩ | ⟨g, cap, _, h, _⟩
  · exact absurd h hv
  · exact ⟨g, cap, h⟩

/-- A slice that reads as a list of cells (nil included). -/
def Src (w : World) (a : Option Addr) (len cap size : Nat) (xs : List Value) : Prop :=
  xs.length = len * size ∧ (a = none → len = 0 ∧ cap = 0) ∧ len ≤ cap ∧ cap ≤ maxLen ∧
    (∀ ad, a = some ad → ∀ j u, xs[j]? = some u → w.cell? (ad.add j) = some u) ∧ ∀ u ∈ xs, u.oneCell' = true

theorem Src.of_block {w w' : World} {a : Option Addr} {len cap size : Nat} {xs : List Value} (h : Src w a len cap size xs)
    (hb : ∀ ad, a = some ad → len * size ≠ 0 → w'.heap[ad.block]? = w.heap[ad.block]?) : Src w' a len cap size xs := by
  obtain ⟨h1, h2, h3, h4, h5, h6⟩ := h
  refine ⟨h1, h2, h3, h4, fun ad ha j u hj => ?_, h6⟩
  have hlt : j < xs.length := by
    rcases Nat.lt_or_ge j xs.length with g | g
    · exact g
    · rw [List.getElem?_eq_none g] at hj; cases hj
  have e := hb ad ha (by omega)
  have e2 : (ad.add j).block = ad.block := by unfold Addr.add; split <;> rfl
  rw [World.cell?_of_block (w := w) (by rw [e2]; exact e)]
  exact h5 ad ha j u hj

theorem IsRow.src {k : IntKind} {w : World} {a : Option Addr} {len cap : Nat} {zs : List Int} (h : IsRow k w a len cap zs) {m : Nat} (hm : m ≤ len) :
    Src w a m cap 1 ((zs.take m).map (Value.int k)) := by
  rcases h with ⟨rfl, rfl, rfl, rfl⟩ | ⟨x, rfl, hl, hx, hz, hc, hw⟩
  · obtain rfl : m = 0 := by omega
    refine ⟨by simp, fun _ => ⟨rfl, rfl⟩, Nat.le_refl _, by decide, ?_, by simp⟩
    intro ad ha
    cases ha
  · refine ⟨by simp; omega, (fun e => by cases e), by omega, hx, ?_, ?_⟩
    · intro ad ha j u hj
      cases ha
      rw [List.getElem?_map, List.getElem?_take] at hj
      split at hj
      · rename_i hlt
        have := hc j (by omega)
        rw [this]
        rw [List.getElem?_eq_getElem (by omega)] at hj
        simp only [Option.map_some, Option.some.injEq] at hj
        rw [← hj, List.getD_eq_getElem?_getD, List.getElem?_eq_getElem (by omega)]
        rfl
      · simp at hj
    · intro u hu
      obtain ⟨n, _, rfl⟩ := List.mem_map.1 hu
      rfl

/-- What the call made: a slice value that owns the cells xs in memory from base on. -/
def Made (base e size : Nat) (len : Nat) (xs : List Value) (w : World) (en : Ending) (w' : World) : Prop :=
  ∃ g cap, en = .returned (.slice (some ⟨g, 0, none⟩) len cap) ∧ w'.ownsRow base e size (.slice (some ⟨g, 0, none⟩) len cap) len xs ∧ Below w.heap.size w w'

/-- A slot that holds a slice of the call's own, len cells xs. -/
def OwnS (base e size : Nat) (len : Nat) (xs : List Value) (w : World) (v : Value) (w' : World) : Prop :=
  ∃ g cap, v = .slice (some ⟨g, 0, none⟩) len cap ∧ w'.ownsRow base e size (.slice (some ⟨g, 0, none⟩) len cap) len xs ∧ Below base w w'

/-- Each of the first m numbers of a row, as it stands in the list of its cells. -/
theorem IsRow.nth {k : IntKind} {w : World} {a : Option Addr} {len cap : Nat} {zs : List Int} (h : IsRow k w a len cap zs) {m : Nat} (hm : m ≤ len) {j : Nat} (hj : j < m) :
    ∃ v : Int, ((zs.take m).map (Value.int k))[j]? = some (.int k v) ∧ (Lit.int k v).wf = true := by
  rcases h with ⟨rfl, rfl, rfl, rfl⟩ | ⟨x, rfl, hl, hx, hz, hc, hw⟩
  · omega
  · refine ⟨zs[j]'(by omega), ?_, hw _ (List.getElem_mem _)⟩
    rw [List.getElem?_map, List.getElem?_take, if_pos hj, List.getElem?_eq_getElem (by omega)]
    rfl

theorem infoInt : (Tryd.prog.info? 3).map (fun i => (i.zero, i.size, i.bytes)) = some (some (.int .i64 0), 1, 8) := by kernel_rfl

theorem ints_any (a : Option Addr) (len cap : Nat) (xs : List Value) (w : World) (h : Src w a len cap 1 xs) (hb : len * 8 ≤ 140737488355328) :
    Calls Tryd.prog 26 #[.slice a len cap] w (Made w.heap.size 3 1 len xs w) := by
  obtain ⟨i0, hi, hz0, hz1, hz2⟩ := info_parts infoInt
  obtain ⟨h1, h2, h3, h4, h5, h6⟩ := h
  have hown := World.ownsRow_made (base := w.heap.size) (e := 3) (size := 1) w #[] 0 (Nat.le_refl _) (by decide) rfl
  have HO := Lib.hid hown
  clear hown
  have hml : (0 : Nat) + len ≤ maxLen := by omega
  cases a with
  | none =>
    obtain ⟨rfl, rfl⟩ := h2 rfl
    have hx : xs = [] := List.eq_nil_of_length_eq_zero (by simpa using h1)
    subst hx
    clear h1 h2 h5 h6
    go_enter Tryd.func26, Tryd.ntmps26
    go_wp2_with (at_builtin; go_loud (refine wpList_append_own_none rfl _ _ _ rfl w.heap.size 3 i0 1 Tryd.underlying22 hi _ 0 [] rfl HO.out rfl ?_))
    go_ret
    exact ⟨_, _, rfl, HO.out, (Below.refl _ _).alloc (Nat.le_refl _) _⟩
  | some x =>
    have h5' := Lib.hid (h5 x rfl)
    have h6' := Lib.hid h6
    have h1' := Lib.hid h1
    clear h1 h2 h5 h6
    go_enter Tryd.func26, Tryd.ntmps26
    go_wp2_with (at_builtin; go_loud (refine wpList_append_own (w.alloc (.cells #[] 3)) rfl _ _ _ rfl w.heap.size 3 i0 (.int .i64 0) 1 8 Tryd.underlying22 hi hz0 hz1 hz2 rfl (by decide) _ 0 [] rfl HO.out x len cap xs rfl h1'.out (fun j u hj => cell_alloc (h5'.out j u hj)) h6'.out hml (by omega) (by simp) ?_))
    intro v' w1 hown1 hgrow hne
    have HN := Lib.hid hne
    clear hne
    go_wp2
    go_ret
    obtain ⟨g, c, rfl⟩ := owns_some hown1 HN.out
    exact ⟨g, c, rfl, hown1, ((Below.refl _ _).alloc (Nat.le_refl _) _).grown hgrow (by simp) (fun k hk => by cases hk; exact Nat.le_refl _)⟩
end Go.Proofs.YtifjjcenmilohaaDoor
