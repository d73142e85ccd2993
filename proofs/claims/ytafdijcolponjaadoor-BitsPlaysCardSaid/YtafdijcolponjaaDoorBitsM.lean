/- The contracts of a set's Copy and Join. No condition but those in each statement. -/
import Derived.Test.YtafdijcolponjaaDoorBitsL
import Derived.Test.YtafdijcolponjaaDoorStill
namespace Go.Proofs.YtafdijcolponjaaDoor
open Go.RowKit

theorem infoSet : (Tryd.prog.info? 101).map (fun i => (i.zero, i.size)) = some (some (.agg (words W0)), 8) := by kernel_rfl
theorem infoArr : (Tryd.prog.info? 99).map (fun i => (i.zero, i.size)) = some (some (.agg (words W0)), 8) := by kernel_rfl
theorem words_size {ws : List Nat} (h : ws.length = 8) : (words ws).size = 8 := by simp [words, h]
theorem words_one (ws : List Nat) : (words ws).all (·.oneCell') = true := by
  simp only [words, List.all_toArray, List.all_map]
  refine List.all_eq_true.2 fun x _ => rfl

theorem copy_any (b : Nat) (ws : List Nat) (w : World) (h : SetAt w b ws) :
    Calls Tryd.prog 34 #[.pointer (some ⟨b, 0, none⟩)] w (NewEnds ws w) := by
  obtain ⟨h1, h2, h3⟩ := h
  have HZ := Lib.hid (zero_of_info infoSet)
  have HSz := Lib.hid (words_size h2)
  have HSz0 := Lib.hid (words_size (ws := W0) rfl)
  have HO := Lib.hid (words_one ws)
  have HI : Hid ((Tryd.prog.info? 101).map (·.size) = some (words ws).size) := by show _ = _; rw [HSz.out]; exact HZ.out.2
  have hW : ∀ w', w'.heap[w.heap.size]? = some (.cells (words ws) 101 (0, 0)) → SetAt w' w.heap.size ws := fun w' hw => ⟨hw, h2, h3⟩
  have HW := Lib.hid hW
  have H1 := Lib.hid h1
  have HEq : Hid ((words W0).size = (words ws).size) := by show _ = _; rw [HSz.out, HSz0.out]
  clear h1 h2 h3 hW
  generalize words ws = cs at *
  generalize words W0 = c0 at *
  have HN := Lib.hid (heap_new w (.cells c0 101))
  have HB := Lib.hid ((Below.refl w.heap.size w).alloc (Nat.le_refl _) (.cells c0 101))
  go_enter Tryd.func34, Tryd.ntmps34
  go_wp2_with (first | (refine wpList_load_whole rfl 101 _ rfl b cs 101 _ rfl H1.out Tryd.underlying101 rfl HI.out ?_) | (refine wpList_alloc_zero rfl 101 rfl c0 HZ.out.1 ?_) | (refine wpList_store_whole rfl 101 _ _ rfl w.heap.size c0 cs 101 rfl rfl HN.out HI.out HEq.out HO.out ?_; intro w1 hw1 hC1; have HW1 := Lib.hid hw1; have HC1 := Lib.hid hC1; clear hw1 hC1) | fail)
  go_ret
  refine ⟨rfl, HW.out w1 HW1.out, HB.out.trans (HC1.out.below (by simp) (fun k hk e => by omega))⟩
end Go.Proofs.YtafdijcolponjaaDoor
