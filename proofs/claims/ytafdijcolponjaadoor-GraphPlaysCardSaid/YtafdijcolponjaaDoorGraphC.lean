/- The contract of a graph's Put. Condition: at most 2 to the power 40 edges. -/
import Derived.Test.YtafdijcolponjaaDoorGraphB
namespace Go.Proofs.YtafdijcolponjaaDoor
open Go.RowKit

theorem infoEdge : (Tryd.prog.info? 61).map (fun i => (i.zero, i.size, i.bytes)) = some (some (.agg #[.int .i64 0, .int .i64 0]), 2, 16) := by kernel_rfl

/-- What a call leaves of a graph. -/
def GEnds (b : Nat) (F : List Nat) (v : Value) (G : GM) (w : World) (e : Ending) (w' : World) : Prop :=
  e = .returned v ∧ ∃ F', GraphAt w' b F' G ∧ (∀ k ∈ F', k ∈ F ∨ w.heap.size ≤ k) ∧ Chg (· ∈ F) w w'

def two (x : Bool) (c : Int) : Value := .tuple #[.bool x, .int .i64 c]

theorem gput_no (b : Nat) (F : List Nat) (G : GM) (a z : Int) (w : World) (h : GraphAt w b F G) (hn : ¬ (inG G.n a = true ∧ inG G.n z = true)) :
    Calls Tryd.prog 48 #[.pointer (some ⟨b, 0, none⟩), .int .i64 a, .int .i64 z] w fun e w' => e = .returned (two false 2) ∧ w = w' := by
  have HI := Lib.hid (is_any b F G w h)
  have HA := Lib.hid (node_any b F G a w h)
  have HZ := Lib.hid (node_any b F G z w h)
  clear h
  cases ha : inG G.n a with
  | false =>
    rw [ha] at HA
    clear hn ha
    go_enter Tryd.func48, Tryd.ntmps48
    go_wp2_with fail
    go_fit HI.out
    rintro e w' ⟨rfl, rfl⟩
    go_wp2_with fail
    go_fit HA.out
    rintro e w' ⟨rfl, rfl⟩
    go_wp2_with fail
    go_ret2
    exact ⟨rfl, rfl⟩
  | true =>
    have hz : inG G.n z = false := by
      cases h : inG G.n z with
      | false => rfl
      | true => exact absurd ⟨ha, h⟩ hn
    rw [ha] at HA
    rw [hz] at HZ
    clear hn ha hz
    go_enter Tryd.func48, Tryd.ntmps48
    go_wp2_with fail
    go_fit HI.out
    rintro e w' ⟨rfl, rfl⟩
    go_wp2_with fail
    go_fit HA.out
    rintro e w' ⟨rfl, rfl⟩
    go_wp2_with fail
    go_fit HZ.out
    rintro e w' ⟨rfl, rfl⟩
    go_wp2_with fail
    go_ret2
    exact ⟨rfl, rfl⟩

theorem gput_has (b : Nat) (F : List Nat) (G : GM) (a z : Int) (w : World) (h : GraphAt w b F G) (ha : inG G.n a = true) (hz : inG G.n z = true) (hh : G.hasB a z = true) :
    Calls Tryd.prog 48 #[.pointer (some ⟨b, 0, none⟩), .int .i64 a, .int .i64 z] w fun e w' => e = .returned (two false 0) ∧ w = w' := by
  have HI := Lib.hid (is_any b F G w h)
  have HA := Lib.hid (node_any b F G a w h)
  have HZ := Lib.hid (node_any b F G z w h)
  have HH := Lib.hid (ghas_any b F G a z w h)
  rw [ha] at HA
  rw [hz] at HZ
  rw [hh] at HH
  clear h ha hz hh
  go_enter Tryd.func48, Tryd.ntmps48
  go_wp2_with fail
  go_fit HI.out
  rintro e w' ⟨rfl, rfl⟩
  go_wp2_with fail
  go_fit HA.out
  rintro e w' ⟨rfl, rfl⟩
  go_wp2_with fail
  go_fit HZ.out
  rintro e w' ⟨rfl, rfl⟩
  go_wp2_with fail
  go_fit HH.out
  rintro e w' ⟨rfl, rfl⟩
  go_wp2_with fail
  go_ret2
  exact ⟨rfl, rfl⟩

def GM.put (G : GM) (i j : Nat) : GM :=
  { G with L := G.L ++ [(i, j)], tow := fun k => if k = i then putW (G.tow i) j else G.tow k, frw := fun k => if k = j then putW (G.frw j) i else G.frw k }

theorem GM.put_ok {G : GM} (h : G.ok) (h8 : ∀ i, i < G.n → (G.tow i).length = 8 ∧ (G.frw i).length = 8) {i j : Nat} (hi : i < G.n) (hj : j < G.n) (hn : (i, j) ∉ G.L) : (G.put i j).ok := by
  have hn5 := h.n500
  refine ⟨h.n500, ?_, ?_, ?_, ?_⟩
  · intro e he
    rcases List.mem_append.1 he with he | he
    · exact h.inr e he
    · simp only [List.mem_singleton] at he; subst he; exact ⟨hi, hj⟩
  · refine List.nodup_append.2 ⟨h.once, by simp, ?_⟩
    intro e he e' he' heq
    simp only [List.mem_singleton] at he'
    subst he' heq
    exact hn he
  · intro k hk m
    show mem (if k = i then putW (G.tow i) j else G.tow k) m = decide ((k, m) ∈ G.L ++ [(i, j)])
    by_cases e : k = i
    · subst e
      rw [if_pos rfl, mem_put (by have := (h8 k hk).1; omega), h.mto k hk]
      by_cases e2 : m = j
      · subst e2; simp
      · simp [e2]
    · rw [if_neg e, h.mto k hk]
      simp [e]
  · intro k hk m
    show mem (if k = j then putW (G.frw j) i else G.frw k) m = decide ((m, k) ∈ G.L ++ [(i, j)])
    by_cases e : k = j
    · subst e
      rw [if_pos rfl, mem_put (by have := (h8 k hk).2; omega), h.mfr k hk]
      by_cases e2 : m = i
      · subst e2; simp
      · simp [e2]
    · rw [if_neg e, h.mfr k hk]
      simp [e]

theorem getD_of_mem {l : List Nat} {x : Nat} (h : x ∈ l) : ∃ i, i < l.length ∧ l.getD i 0 = x := by
  obtain ⟨i, hi, he⟩ := List.getElem_of_mem h
  exact ⟨i, hi, by rw [List.getD_eq_getElem?_getD, List.getElem?_eq_getElem hi]; exact he⟩
theorem getD_inj {l : List Nat} (h : l.Nodup) {i j : Nat} (hi : i < l.length) (hj : j < l.length) (he : l.getD i 0 = l.getD j 0) : i = j := by
  rw [List.getD_eq_getElem?_getD, List.getD_eq_getElem?_getD, List.getElem?_eq_getElem hi, List.getElem?_eq_getElem hj] at he
  have he' : l[i] = l[j] := he
  rcases Nat.lt_trichotomy i j with g | g | g
  · exact absurd he' (List.pairwise_iff_getElem.1 h i j hi hj g)
  · exact g
  · exact absurd he'.symm (List.pairwise_iff_getElem.1 h j i hj hi g)

/-- All its blocks are there. -/
theorem graph_lt {w : World} {b : Nat} {F : List Nat} {G : GM} (h : GraphAt w b F G) : ∀ k ∈ F, k < w.heap.size := by
  obtain ⟨vt, vf, vl, ts, fs, h1, ht, hf, hl, hts, hfs, hT, hR, -, rfl, -⟩ := h
  intro k hk
  simp only [List.mem_cons, List.mem_append] at hk
  rcases hk with rfl | (((hk | hk) | hk) | hk) | hk
  · exact lt_of_block h1
  · exact owns_lt ht k (mem_ownL.1 hk)
  · exact owns_lt hf k (mem_ownL.1 hk)
  · exact owns_lt hl k (mem_ownL.1 hk)
  · obtain ⟨i, hi, rfl⟩ := getD_of_mem hk
    exact lt_of_block (hT i (by omega)).1
  · obtain ⟨i, hi, rfl⟩ := getD_of_mem hk
    exact lt_of_block (hR i (by omega)).1

/-- One block of a footprint for another, that was there or is new. -/
theorem nodup_swap {A X B : List Nat} {g H : Nat} (hN : (A ++ X ++ B).Nodup) (hlt : ∀ k ∈ A ++ B, k < H) (hg : g ∈ X ∨ H ≤ g) : (A ++ [g] ++ B).Nodup := by
  simp only [List.nodup_append, List.mem_append, List.mem_singleton] at hN ⊢
  obtain ⟨⟨hA, -, hAX⟩, hB, hAB⟩ := hN
  refine ⟨⟨hA, by simp, ?_⟩, hB, ?_⟩
  · rintro a ha c rfl
    rcases hg with hg | hg
    · exact hAX a ha c hg
    · have := hlt a (List.mem_append_left _ ha); omega
  · rintro a (ha | rfl) c hc
    · exact hAB a (.inl ha) c hc
    · rcases hg with hg | hg
      · exact hAB a (.inr hg) c hc
      · have := hlt c (List.mem_append_right _ hc); omega
end Go.Proofs.YtafdijcolponjaaDoor
