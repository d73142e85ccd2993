/- The contracts of bits.New and of the statements' few, and of TrailingZeros64 where its table lies. No condition but those in each statement. -/
import Derived.Test.YtafdijcolponjaaDoorBitsA
import Derived.Test.YtafdijcolponjaaDoorSame
import Derived.Laws.OwnMore
import Derived.Shelf.Spec.TrailingZeros
namespace Go.Proofs.YtafdijcolponjaaDoor
open Go.RowKit

def put1 (ws : List Nat) (z : Int) : List Nat := if 0 ≤ z ∧ z < 500 then putW ws z.toNat else ws
def newW (l : List Int) : List Nat := l.foldl put1 [0, 0, 0, 0, 0, 0, 0, 0]

theorem newW_take {l : List Int} {k : Nat} (h : k < l.length) : newW (l.take (k + 1)) = put1 (newW (l.take k)) (l.getD k 0) := by
  unfold newW
  rw [List.take_succ_eq_append_getElem h, List.foldl_append]
  simp [List.getD, h]

/-- Putting whatever number: the set is as it is then. -/
def PEnds (b : Nat) (ws : List Nat) (w : World) (e : Ending) (w' : World) : Prop :=
  (∃ c, e = .returned (.int .i64 c)) ∧ SetAt w' b ws ∧ Chg (· = b) w w'

theorem put_any (b : Nat) (z : Int) (ws : List Nat) (w : World) (h : SetAt w b ws) :
    Calls Tryd.prog 25 #[.pointer (some ⟨b, 0, none⟩), .int .i64 z] w (PEnds b (put1 ws z) w) := by
  unfold put1
  by_cases hz : 0 ≤ z ∧ z < 500
  · rw [if_pos hz]
    obtain ⟨n, rfl⟩ := Int.eq_ofNat_of_zero_le hz.1
    refine (put_yes b n ws w h (by omega)).mono ?_
    rintro e w' ⟨rfl, h1, h2⟩
    exact ⟨⟨_, rfl⟩, h1, h2⟩
  · rw [if_neg hz]
    refine (put_no b z w (by omega)).mono ?_
    rintro e w' ⟨rfl, rfl⟩
    exact ⟨⟨_, rfl⟩, h, Chg.refl _ _⟩

def NewRel (w : World) (l : List Int) (i : Value) (wr : World) : Prop :=
  ∃ k : Nat, k ≤ l.length ∧ i = .int .i64 k ∧ SetAt wr w.heap.size (newW (l.take k)) ∧ Below w.heap.size w wr

def NewEnds (ws : List Nat) (w : World) (e : Ending) (w' : World) : Prop :=
  e = .returned (.pointer (some ⟨w.heap.size, 0, none⟩)) ∧ SetAt w' w.heap.size ws ∧ Below w.heap.size w w'

theorem new_any (a : Option Addr) (len cap : Nat) (l : List Int) (w : World) (h : Src w a len cap 1 (intl l)) :
    Calls Tryd.prog 22 #[.slice a len cap] w (NewEnds (newW l) w) := by
  have hl : l.length = len := by have := h.1; simpa [intl] using this
  have hle := h.2.2.1
  have hx := h.2.2.2.1
  unfold maxLen at hx
  subst hl
  have HA := Lib.hid h
  clear h
  go_enter Tryd.func22, Tryd.ntmps22
  go_wp2_with fail
  go_loopw [10] (fun i wr => NewRel w l i wr) (fun i _ => l.length - (intOf i).toNat)
  case atStart =>
    refine ⟨0, Nat.zero_le _, rfl, ⟨heap_new _ _, rfl, ?_⟩, (Below.refl _ _).alloc (Nat.le_refl _) _⟩
    intro x hx; simp [newW] at hx; rw [hx]; decide
  case round =>
    obtain ⟨k, hk, rfl, hS, hB⟩ := hrel
    by_cases hlt : k < l.length
    · obtain ⟨b, o, hab, hc⟩ := HA.out.plain (by omega)
      cases hab
      have hc1 := hc k hlt
      have hcw := (World.cell?_of_block (hB.block b (World.block_lt_of_cell? w _ hc1))).trans hc1
      generalize hz : l.getD k 0 = z at hcw
      have HP := Lib.hid (put_any _ z _ _ hS)
      have HZ := Lib.hid hz
      have HB := Lib.hid hB
      clear hc hc1 hz hS hB
      go_wp2_with fail
      refine HP.out.mono ?_
      rintro e w' ⟨⟨c, rfl⟩, hS', hC⟩
      have HS := Lib.hid hS'
      have HC := Lib.hid hC
      clear hS' hC
      go_wp2_with fail
      go_roundw
      case rel =>
        refine ⟨k + 1, hlt, by go_num, ?_, HB.out.trans (HC.out.below HB.out.size (fun k hk e => by omega))⟩
        rw [newW_take hlt, HZ.out]
        exact HS.out
      case measure => simp [intOf]; omega
    · obtain rfl : k = l.length := by omega
      have HB := Lib.hid hB
      have HS := Lib.hid hS
      clear hB hS
      go_wp2_with fail
      go_ret
      refine ⟨rfl, ?_, HB.out⟩
      have := HS.out
      rwa [List.take_length] at this

theorem src_owned {w : World} {base e g cap n : Nat} {l : List Int} (h : w.ownsRow base e 1 (.slice (some ⟨g, 0, none⟩) n cap) n (intl l)) : Src w (some ⟨g, 0, none⟩) n cap 1 (intl l) := by
  obtain ⟨_, _, hv, hle, hmx⟩ := (owns_shape h).resolve_left (by rintro ⟨h, _⟩; cases h)
  cases hv
  refine ⟨h.1, (by intro h; cases h), hle, hmx, ?_, ?_⟩
  · intro ad had j u hj
    cases had
    have hjl : j < n := by
      have h1 := h.1
      rcases Nat.lt_or_ge j (intl l).length with g | g
      · omega
      · rw [List.getElem?_eq_none g] at hj; cases hj
    have := h.cellAt j (by omega)
    rw [hj] at this
    rw [← this]
    unfold Addr.add
    split
    · rename_i h0; subst h0; rfl
    · simp
  · intro u hu
    obtain ⟨n, _, rfl⟩ := List.mem_map.1 hu
    rfl

/-- At most a hundred numbers, in memory of the call's own. -/
def FewEnds (l : List Int) (w : World) (e : Ending) (w' : World) : Prop :=
  ∃ g cap, e = .returned (.slice (some ⟨g, 0, none⟩) (l.take 100).length cap) ∧ Below w.heap.size w w' ∧ w.heap.size ≤ g ∧ Src w' (some ⟨g, 0, none⟩) (l.take 100).length cap 1 (intl (l.take 100))

theorem few_any (a : Option Addr) (len cap : Nat) (l : List Int) (w : World) (h : Src w a len cap 1 (intl l)) :
    Calls Tryd.prog 23 #[.slice a len cap] w (FewEnds l w) := by
  have hl : l.length = len := by have := h.1; simpa [intl] using this
  have hle := h.2.2.1
  have hx := h.2.2.2.1
  unfold maxLen at hx
  have ht : (l.take 100).length = min 100 l.length := List.length_take
  have hsrc : Src w a (l.take 100).length cap 1 (intl (l.take 100)) := by
    obtain ⟨h1, h2, h3, h4, h5, h6⟩ := h
    refine ⟨by simp [intl], fun e => ⟨by have := (h2 e).1; omega, (h2 e).2⟩, by omega, h4, fun ad had j u hj => h5 ad had j u ?_, fun u hu => ?_⟩
    · simp only [intl, List.map_take, List.getElem?_take] at hj
      split at hj
      · exact hj
      · cases hj
    · obtain ⟨n, _, rfl⟩ := List.mem_map.1 hu
      rfl
  have HI := Lib.hid (ints_any a (l.take 100).length cap (intl (l.take 100)) w hsrc (by omega))
  have HE : Hid (∀ e w', Made w.heap.size 3 1 (l.take 100).length (intl (l.take 100)) w e w' → FewEnds l w e w') := by
    rintro e w' ⟨g, c, rfl, hown, hB⟩
    exact ⟨g, c, rfl, hB, (World.ownsRow.lt hown g rfl).1, src_owned hown⟩
  have hnil : a = none → l.length = 0 := fun e => by have := h.2.1 e; omega
  clear h hsrc
  generalize hq : l.take 100 = q at ht HI HE
  clear hq
  rw [← hl] at *
  generalize l.length = n at *
  rcases Nat.lt_or_ge 100 n with hn | hn
  · have hi : ¬ ((n : Int) ≤ 100) := by omega
    have he : q.length = 100 := by omega
    rw [he] at HI HE
    clear he ht
    cases a with
    | none => have := hnil rfl; omega
    | some x =>
      go_enter Tryd.func23, Tryd.ntmps23
      go_wp2_with fail
      refine HI.out.mono ?_
      rintro e w' hM
      obtain ⟨g, c, rfl, hown, hB⟩ := hM
      go_wp2_with fail
      go_ret
      exact HE.out _ _ ⟨g, c, rfl, hown, hB⟩
  · have hi : ((n : Int) ≤ 100) := by omega
    have he : q.length = n := by omega
    rw [he] at HI HE
    clear he ht hnil
    cases a with
    | none =>
      go_enter Tryd.func23, Tryd.ntmps23
      go_wp2_with fail
      refine HI.out.mono ?_
      rintro e w' hM
      obtain ⟨g, c, rfl, hown, hB⟩ := hM
      go_wp2_with fail
      go_ret
      exact HE.out _ _ ⟨g, c, rfl, hown, hB⟩
    | some x =>
      go_enter Tryd.func23, Tryd.ntmps23
      go_wp2_with fail
      refine HI.out.mono ?_
      rintro e w' hM
      obtain ⟨g, c, rfl, hown, hB⟩ := hM
      go_wp2_with fail
      go_ret
      exact HE.out _ _ ⟨g, c, rfl, hown, hB⟩
end Go.Proofs.YtafdijcolponjaaDoor
