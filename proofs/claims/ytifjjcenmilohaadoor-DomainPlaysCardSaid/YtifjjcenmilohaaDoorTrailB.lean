/- The contracts of a trail's calls that change it. No condition but those in each statement. -/
import Derived.Test.YtifjjcenmilohaaDoorTrailA
import Derived.Test.YtifjjcenmilohaaDoorRegion
import Derived.Outline
import Derived.RegionTactic
import Derived.BigRegion
namespace Go.Proofs.YtifjjcenmilohaaDoor
open Go.RowKit

/-- How a call that changes a trail ends. -/
def TEnds (b : Nat) (F : List Nat) (v : Value) (T : TM) (w : World) (e : Ending) (w' : World) : Prop :=
  e = .returned v ∧ ∃ F', TrailAt w' b F' T ∧ (∀ k ∈ F', k ∈ F ∨ w.heap.size ≤ k) ∧ Chg (· ∈ F) w w'

theorem nats_snoc (l : List Nat) (n : Nat) : nats (l ++ [n]) = nats l ++ [.int .i64 (n : Int)] := by simp [nats]

theorem end_none (b : Nat) (F : List Nat) (T : TM) (w : World) (h : TrailAt w b F T) (hm : T.marks = []) :
    Calls Tryd.prog 41 #[.pointer (some ⟨b, 0, none⟩)] w fun e w' => e = .returned (.tuple #[.int .i64 0, .int .i64 3]) ∧ w = w' := by
  have his := Lib.hid (is_any b F T w h)
  obtain ⟨gc, cc, vch, vm, h1, -, -, ho, -⟩ := h
  have c2 : w.cell? ⟨b, 2, none⟩ = some vm := cell_at 2 h1 rfl
  rw [hm] at ho
  clear h1 hm
  rcases owns_shape ho with ⟨rfl, hl⟩ | ⟨g, c, rfl, hl, hx⟩
  all_goals
    clear ho hl
    go_enter Tryd.func41, Tryd.ntmps41
    go_wp2_with fail
    refine his.out.mono ?_
    rintro e w' ⟨rfl, rfl⟩
    go_wp2_with fail
    go_ret2
    exact ⟨rfl, rfl⟩

theorem end_some (b : Nat) (F : List Nat) (T : TM) (ms : List Nat) (m : Nat) (w : World) (h : TrailAt w b F T) (hm : T.marks = ms ++ [m]) :
    Calls Tryd.prog 41 #[.pointer (some ⟨b, 0, none⟩)] w (TEnds b F (.tuple #[.int .i64 m, .int .i64 0]) { T with marks := ms } w) := by
  have his := Lib.hid (is_any b F T w h)
  have hh := Lib.hid h
  obtain ⟨gc, cc, vch, vm, h1, hc, hch, ho, hF, hN⟩ := h
  have f2 := free_at 2 h1
  have c2 : w.cell? ⟨b, 2, none⟩ = some vm := cell_at 2 h1 rfl
  rw [hm, nats_snoc] at ho
  have hlen : (ms ++ [m]).length = ms.length + 1 := by simp
  rw [hlen] at ho
  clear hm hlen
  rcases owns_shape ho with ⟨rfl, hl⟩ | ⟨g, c, rfl, hl, hx⟩
  · omega
  · have cm : w.cell? ⟨g, ms.length, none⟩ = some (.int .i64 m) := by
      rw [ho.cellAt ms.length (by omega)]
      rw [List.getElem?_append_right (by simp [nats])]
      simp [nats]
    unfold maxLen at hx
    have hpop := Lib.hid (ownsRow_pop (by simp [nats]) ho)
    have H1 := Lib.hid h1
    have HC := Lib.hid hc
    have HCH := Lib.hid hch
    have HF := Lib.hid hF
    have HN := Lib.hid hN
    clear ho h1 hc hch hF hN
    have hw1 : IntKind.i64.wrap ((ms.length : Int) + 1 - 1) = ms.length := by rw [IntWalk.i64_in _ (by omega)]; omega
    generalize hn : ms.length = n at *
    have HNN := Lib.hid hn
    clear hn
    go_enter Tryd.func41, Tryd.ntmps41
    go_wp2_with fail
    refine his.out.mono ?_
    rintro e w' ⟨rfl, rfl⟩
    go_wp2_with fail
    go_quiet (fail)
    go_wp2_with fail
    go_region
    go_wp2_with fail
    go_ret2
    obtain rfl := HNN.out
    have hN := HN.out
    have hF := HF.out
    have hne : ∀ k, k ∈ F → k ≠ b → ((w.drewN (nq + 1)).setCell ⟨b, 2, none⟩ (.slice (some ⟨g, 0, none⟩) ms.length c)).heap[k]? = w.heap[k]? := fun k _ hk => heap_set_ne 2 _ hk
    rw [hF] at hN hne
    simp only [List.nodup_cons, List.mem_cons, List.mem_append, not_or] at hN
    obtain ⟨⟨hb1, hb2, hb3⟩, ⟨hg1, hg2⟩, hn3⟩ := hN
    refine ⟨rfl, F, ⟨gc, cc, vch, _, heap_set 2 _ H1.out, ?_, ?_, ?_, ?_, HN.out⟩, fun k hk => .inl hk, ?_⟩
    · exact owns_of_heap HC.out fun k hk => by cases hk; exact hne gc (by simp) (Ne.symm hb1)
    · exact owns_of_heap HCH.out fun k hk => hne k (by simp [mem_ownL.2 hk]) (by rintro rfl; exact hb2 (mem_ownL.2 hk))
    · exact owns_of_heap hpop.out fun k hk => by cases hk; exact hne g (by simp [ownL_some]) (by rintro rfl; exact hb3 (by simp [ownL_some]))
    · rw [hF]; simp [ownL_some]
    · exact ((Chg.refl _ _).drewN _).setCell (.inl (by rw [hF]; simp)) _

end Go.Proofs.YtifjjcenmilohaaDoor
