/- FuelPlays' walk: a store that is asked anyhow answers as the document's store. No condition. -/
import Derived.Test.YthmbkdlgelmglaaFuelD
import Derived.Test.YthmbkdlgelmglaaInv
import Derived.Deep.DeepFit
namespace Go.Proofs.Ythmbkdlgelmglaa
open Go.RowKit

def PlaysRel (w : World) (f r g m cap : Nat) (xs : List Value) (l : Int) (i : Value) (wr : World) : Prop :=
  ∃ (k : Nat) (s : FS), k ≤ m ∧ i = .int .i64 k ∧ FuelAt wr f s ∧ RefAt wr r l s.used s.spent ∧ s.ok ∧ s.left + s.used = l ∧
    wr.ownsRow w.heap.size 3 1 (.slice (some ⟨g, 0, none⟩) m cap) m xs ∧ Below w.heap.size w wr ∧ r < wr.heap.size

def PlaysCut (w : World) (f r g m cap : Nat) (xs : List Value) (l : Int) (s : FS) (v : Value) (wr : World) : Prop :=
  v = .bool false ∧ FuelAt wr f s ∧ RefAt wr r l s.used s.spent ∧ s.ok ∧ s.left + s.used = l ∧
    wr.ownsRow w.heap.size 3 1 (.slice (some ⟨g, 0, none⟩) m cap) m xs ∧ Below w.heap.size w wr ∧ r < wr.heap.size

def FV (f r g m c k : Nat) (v a0 q1 : Int) (q2 : FS) (i : Nat) : Value :=
  ([.pointer (some ⟨f, 0, none⟩), .slice (some ⟨g, 0, none⟩) m c, .int .i64 k, .pointer (some ⟨g, k, none⟩), .int .i64 v, .int .i64 q1, .pointer (some ⟨r, 0, none⟩), .slice (some ⟨g, 0, none⟩) m c, .int .i64 k, .pointer (some ⟨g, k, none⟩), .int .i64 v, .int .i64 q1, .bool false, .bool false, .pointer (some ⟨f, 0, none⟩), .int .i64 q2.used, .pointer (some ⟨r, 0, none⟩), .pointer (some ⟨r, 0, none⟩), .pointer (some ⟨r, 1, none⟩), .int .i64 q2.used, .bool false, .bool false, .bool false, .pointer (some ⟨f, 0, none⟩), .int .i64 q2.left, .int .i64 a0, .pointer (some ⟨r, 0, none⟩), .pointer (some ⟨r, 0, none⟩), .pointer (some ⟨r, 1, none⟩), .int .i64 q2.used, .int .i64 q2.left, .bool false, .bool false, .bool false, .pointer (some ⟨f, 0, none⟩), .bool q2.spent, .pointer (some ⟨r, 0, none⟩), .pointer (some ⟨r, 0, none⟩), .pointer (some ⟨r, 2, none⟩), .bool q2.spent, .bool false, .bool false] : List Value).getD i undef
def FInv (f r g m c k : Nat) (v a0 q1 : Int) (s q2 : FS) (wr : World) (base : Act) (listed : Array Bool) (a : Act) (w : World) : Prop :=
  ∃ x : Nat → Value, a = ⟨fill base.tmps 46 x 42, base.defers⟩ ∧ Told listed x (FV f r g m c k v a0 q1 q2) ∧ FuelAt w f (if listed.getD 5 false = true then q2 else s) ∧
    RefAt w r a0 (if listed.getD 11 false = true then q2 else s).used (if listed.getD 11 false = true then q2 else s).spent ∧ Chg (fun b => b = f ∨ b = r) wr w

theorem takeF_sum (s : FS) (n : Int) (h : s.ok) : (takeF s n).2.left + (takeF s n).2.used = s.left + s.used ∧ (takeF s n).2.ok := by
  refine ⟨?_, takeF_ok s n h⟩
  unfold takeF
  split
  · rfl
  · split
    · rfl
    · split <;> simp only <;> omega

set_option maxRecDepth 100000 in
set_option maxHeartbeats 8000000 in
theorem plays_any (a0 : Int) (a1 : Option Addr) (len cap : Nat) (zs : List Int) (w : World) (w0 : (Lit.int .i64 a0).wf = true) (w1 : IsRow .i64 w a1 len cap zs) :
    Calls Try.prog 3 #[.int .i64 a0, .slice a1 len cap] w fun e w' => e = .returned (.bool true) ∧ Below w.heap.size w w' := by
  obtain ⟨b0l, b0h⟩ := bounds_i64 w0
  obtain ⟨hlen, hcap⟩ := w1.len_le
  obtain ⟨m, hm⟩ : ∃ m : Nat, m = min len 60 := ⟨_, rfl⟩
  have hm60 : m ≤ 60 := by omega
  have hml : m ≤ len := by omega
  have hsrc := w1.src hml
  generalize hxs : (zs.take m).map (Value.int .i64) = xs at hsrc
  have hx : ∀ j, j < m → ∃ v : Int, xs[j]? = some (.int .i64 v) ∧ (Lit.int .i64 v).wf = true := by
    intro j hj
    rw [← hxs]
    exact w1.nth hml hj
  have HX := Lib.hid hx
  have HS := Lib.hid hsrc
  have HM := Lib.hid hm
  clear hx hsrc hm hxs
  go_enter Try.func3, Try.ntmps3
  go_upto_region 1 with fail
  go_cut [1] (fun s1 wc => OwnS w.heap.size 3 1 m xs w s1 wc)
  case first =>
    by_cases h60 : len ≤ 60
    · obtain rfl : m = len := by have := HM.out; omega
      go_wp2_with fail
      refine (ints_any _ _ _ _ _ HS.out (by omega)).mono ?_
      rintro e w2 ⟨g, c, rfl, hown, hbel⟩
      go_wp2_with fail
      go_meet
      exact ⟨g, c, rfl, hown, hbel⟩
    · obtain rfl : m = 60 := by have := HM.out; omega
      go_wp2_with fail
      refine (ints_any _ _ _ _ _ HS.out (by omega)).mono ?_
      rintro e w2 ⟨g, c, rfl, hown, hbel⟩
      go_wp2_with fail
      go_meet
      exact ⟨g, c, rfl, hown, hbel⟩
  case rest =>
    obtain ⟨g, c, rfl, hown, hbel⟩ := hcut
    clear HS HM w1
    by_cases h0 : a0 < 0
    · go_wp2_with fail
      refine (new_bad _ _ h0).mono ?_
      rintro e w' ⟨rfl, rfl⟩
      go_wp2_with fail
      refine (works_any _).mono ?_
      rintro e w3 ⟨rfl, hB3⟩
      go_wp2_with fail
      go_ret
      have := hbel.size
      exact ⟨rfl, hbel.trans (hB3.mono (by omega))⟩
    · go_wp2_with fail
      refine (new_ok _ _ (by omega)).mono ?_
      rintro e w3 ⟨rfl, h1⟩
      obtain ⟨f, hf⟩ : ∃ f, f = wc.heap.size := ⟨_, rfl⟩
      have hbs := hbel.size
      have hF : FuelAt w3 f ⟨a0, 0, false⟩ := by subst h1 hf; exact heap_new _ _
      have hO3 : w3.ownsRow w.heap.size 3 1 (.slice (some ⟨g, 0, none⟩) m c) m xs := h1 ▸ hown.alloc _
      have hB3 : Below w.heap.size w w3 := by subst h1; exact hbel.alloc (by omega) _
      have hS3 : f < w3.heap.size := by subst h1 hf; simp
      rw [← hf]
      have HF' := Lib.hid hf
      clear h1 hf
      go_wp2_with fail
      have hF4 : FuelAt (w3.alloc (.cells #[.int .i64 a0, .int .i64 0, .bool false] 31)) f ⟨a0, 0, false⟩ := (heap_alloc_lt hS3).trans hF
      have hR4 : RefAt (w3.alloc (.cells #[.int .i64 a0, .int .i64 0, .bool false] 31)) w3.heap.size a0 0 false := heap_new _ _
      have hO4 := hO3.alloc (.cells #[.int .i64 a0, .int .i64 0, .bool false] 31)
      have hB4 : Below w.heap.size w (w3.alloc (.cells #[.int .i64 a0, .int .i64 0, .bool false] 31)) := hB3.alloc hB3.size _
      have hS4 : (w3.alloc (.cells #[.int .i64 a0, .int .i64 0, .bool false] 31)).heap.size = w3.heap.size + 1 := by simp
      generalize w3.alloc (.cells #[.int .i64 a0, .int .i64 0, .bool false] 31) = w4 at *
      obtain ⟨r, hr⟩ : ∃ r, r = w3.heap.size := ⟨_, rfl⟩
      rw [← hr] at hR4 hS4 hS3 ⊢
      have hrw : r + 1 ≤ w4.heap.size := by omega
      clear hS4 hr
      have hgf : g < f := by rw [HF'.out]; exact (World.ownsRow.lt hown g rfl).2
      have hgb : w.heap.size ≤ g := (World.ownsRow.lt hown g rfl).1
      clear hF hO3 hB3 hown hbel w3
      go_loopw [8] (fun i wr => PlaysRel w f r g m c xs a0 i wr) (fun i _ => m - (intOf i).toNat)
      case atStart => exact ⟨0, _, Nat.zero_le _, rfl, hF4, hR4, ⟨by simp only; omega, by simp, by simp only; omega⟩, by simp, hO4, hB4, by omega⟩
      case round =>
        clear hF4 hR4 hO4 hB4 hrw w4
        obtain ⟨k, s, hk, rfl, hFs, hRs, hok, hsum, hOr, hBr, hrr⟩ := hrel
        by_cases hlt : k < m
        · obtain ⟨v, hv, hwv⟩ := HX.out k hlt
          obtain ⟨v0, v1⟩ := bounds_i64 hwv
          have hc : wr.cell? ⟨g, k, none⟩ = some (.int .i64 v) := (hOr.cellAt k (by omega)).trans hv
          have HV := Lib.hid hv
          clear hv
          go_upto_region 11 with fail
          obtain ⟨hw1, hw2, hw3⟩ := hok
          have hok : s.ok := ⟨hw1, hw2, hw3⟩
          have hgb' : g < wr.heap.size := World.block_lt_of_cell? wr _ hc
          go_cut [87] (fun s87 wc => PlaysCut w f r g m c xs a0 (takeF s v).2 s87 wc)
          case first =>
            have hFs' : FuelAt wr.drew f s := hFs
            have hRs' : RefAt wr.drew r a0 s.used s.spent := hRs
            obtain ⟨hsum', hok'⟩ := takeF_sum s v hok
            rw [hsum] at hsum'
            have hu2 : 0 ≤ (takeF s v).2.used := hok'.2.1
            have hl2 : 0 ≤ (takeF s v).2.left := hok'.1
            have hwl : IntKind.i64.wrap (a0 - (takeF s v).2.used) = (takeF s v).2.left := by rw [IntWalk.i64_in _ (by omega)]; omega
            have hk0 : (0 : Int) ≤ (k : Int) := Int.natCast_nonneg _
            have hk1 : (k : Int) < (m : Int) := by omega
            have hdrw := hOr.drew
            have hT := Lib.hid (fun W h => take_any f s v W h hok)
            have hRf := Lib.hid (fun W h => ref_any r a0 s v W h hok hsum)
            generalize takeF s v = q at *
            obtain ⟨q1, q2⟩ := q
            simp only at hsum' hok' hu2 hl2 hwl
            have HQ := Lib.hid hsum'
            have hd0 : (q1 != q1) = false := by simp
            have hd1 : (q2.used != q2.used) = false := by simp
            have hd2 : (q2.left != q2.left) = false := by simp
            have hd3 : (q2.spent != q2.spent) = false := by simp
            have HFs := Lib.hid hFs'
            clear hsum' hFs' hFs
            refine wp_region_inv_from (FInv f r g m c k v a0 q1 s q2 wr) rfl ?_ ?_ (by decide +kernel) ?_
            · exact ⟨_, by rw [fill_self _ _ _ (show 46 + 42 ≤ 89 by decide)], Told.none, HFs.out, hRs', (Chg.refl _ _).drew⟩
            · have HRs := Lib.hid hrr
              intro listed a' w' i o hI hcl ho hl hd
              obtain ⟨x, rfl, hx, hF, hR, hC⟩ := hI
              have hlt : i < 42 := (Array.getElem?_eq_some_iff.1 ho).1
              rcases (by omega : i = 0 ∨ i = 1 ∨ i = 2 ∨ i = 3 ∨ i = 4 ∨ i = 5 ∨ i = 6 ∨ i = 7 ∨ i = 8 ∨ i = 9 ∨ i = 10 ∨ i = 11 ∨ i = 12 ∨ i = 13 ∨ i = 14 ∨ i = 15 ∨ i = 16 ∨ i = 17 ∨ i = 18 ∨ i = 19 ∨ i = 20 ∨ i = 21 ∨ i = 22 ∨ i = 23 ∨ i = 24 ∨ i = 25 ∨ i = 26 ∨ i = 27 ∨ i = 28 ∨ i = 29 ∨ i = 30 ∨ i = 31 ∨ i = 32 ∨ i = 33 ∨ i = 34 ∨ i = 35 ∨ i = 36 ∨ i = 37 ∨ i = 38 ∨ i = 39 ∨ i = 40 ∨ i = 41) with rfl | rfl | rfl | rfl | rfl | rfl | rfl | rfl | rfl | rfl | rfl | rfl | rfl | rfl | rfl | rfl | rfl | rfl | rfl | rfl | rfl | rfl | rfl | rfl | rfl | rfl | rfl | rfl | rfl | rfl | rfl | rfl | rfl | rfl | rfl | rfl | rfl | rfl | rfl | rfl | rfl | rfl
              · simp only [List.getElem?_toArray, List.getElem?_cons_zero, Option.some.injEq] at ho
                subst ho
                have HX2 := Lib.hid hx
                have HF2 := Lib.hid hF
                have HR2 := Lib.hid hR
                have HC2 := Lib.hid hC
                clear hx hF hR hC hd hcl hl
                simp only [fill, Nat.reduceAdd]
                go_wp2_with fail
                refine ⟨_, ?_, HX2.out.set 0, by rw [getD_set_ne false (by decide)]; exact HF2.out, by rw [getD_set_ne false (by decide)]; exact HR2.out, HC2.out⟩
                simp only [fill, Nat.reduceAdd]
                simp [FV]
              · simp only [List.getElem?_toArray, List.getElem?_cons_succ, List.getElem?_cons_zero, Option.some.injEq] at ho
                subst ho
                have HX2 := Lib.hid hx
                have HF2 := Lib.hid hF
                have HR2 := Lib.hid hR
                have HC2 := Lib.hid hC
                clear hx hF hR hC hd hcl hl
                simp only [fill, Nat.reduceAdd]
                go_wp2_with fail
                refine ⟨_, ?_, HX2.out.set 1, by rw [getD_set_ne false (by decide)]; exact HF2.out, by rw [getD_set_ne false (by decide)]; exact HR2.out, HC2.out⟩
                simp only [fill, Nat.reduceAdd]
                simp [FV]
              · simp only [List.getElem?_toArray, List.getElem?_cons_succ, List.getElem?_cons_zero, Option.some.injEq] at ho
                subst ho
                have HX2 := Lib.hid hx
                have HF2 := Lib.hid hF
                have HR2 := Lib.hid hR
                have HC2 := Lib.hid hC
                clear hx hF hR hC hd hcl hl
                simp only [fill, Nat.reduceAdd]
                go_wp2_with fail
                refine ⟨_, ?_, HX2.out.set 2, by rw [getD_set_ne false (by decide)]; exact HF2.out, by rw [getD_set_ne false (by decide)]; exact HR2.out, HC2.out⟩
                simp only [fill, Nat.reduceAdd]
                simp [FV]
              · simp only [List.getElem?_toArray, List.getElem?_cons_succ, List.getElem?_cons_zero, Option.some.injEq] at ho
                subst ho
                have d1 : listed.getD 1 false = true := hd _ (Array.getElem_mem (i := 0) (by decide)) rfl
                have d2 : listed.getD 2 false = true := hd _ (Array.getElem_mem (i := 1) (by decide)) rfl
                have e1 : x 1 = Value.slice (some ⟨g, 0, none⟩) m c := hx 1 d1
                have e2 : x 2 = Value.int .i64 k := hx 2 d2
                have HX2 := Lib.hid hx
                have HF2 := Lib.hid hF
                have HR2 := Lib.hid hR
                have HC2 := Lib.hid hC
                clear hx hF hR hC hd hcl hl
                simp only [fill, Nat.reduceAdd]
                go_wp2_with fail
                refine ⟨_, ?_, HX2.out.set 3, by rw [getD_set_ne false (by decide)]; exact HF2.out, by rw [getD_set_ne false (by decide)]; exact HR2.out, HC2.out⟩
                simp only [fill, Nat.reduceAdd]
                simp [FV, e1, e2]
              · simp only [List.getElem?_toArray, List.getElem?_cons_succ, List.getElem?_cons_zero, Option.some.injEq] at ho
                subst ho
                have d3 : listed.getD 3 false = true := hd _ (Array.getElem_mem (i := 0) (by decide)) rfl
                have e3 : x 3 = Value.pointer (some ⟨g, k, none⟩) := hx 3 d3
                have HX2 := Lib.hid hx
                have HF2 := Lib.hid hF
                have HR2 := Lib.hid hR
                have HC2 := Lib.hid hC
                have cg := (World.cell?_of_block (hC.block g hgb' (by omega))).trans hc
                clear hx hF hR hC hd hcl hl
                simp only [fill, Nat.reduceAdd]
                go_wp2_with fail
                refine ⟨_, ?_, HX2.out.set 4, by rw [getD_set_ne false (by decide)]; exact HF2.out, by rw [getD_set_ne false (by decide)]; exact HR2.out, HC2.out⟩
                simp only [fill, Nat.reduceAdd]
                simp [FV, e3]
              · simp only [List.getElem?_toArray, List.getElem?_cons_succ, List.getElem?_cons_zero, Option.some.injEq] at ho
                subst ho
                have d0 : listed.getD 0 false = true := hd _ (Array.getElem_mem (i := 0) (by decide)) rfl
                have d4 : listed.getD 4 false = true := hd _ (Array.getElem_mem (i := 1) (by decide)) rfl
                have e0 : x 0 = Value.pointer (some ⟨f, 0, none⟩) := hx 0 d0
                have e4 : x 4 = Value.int .i64 v := hx 4 d4
                have HX2 := Lib.hid hx
                have HF2 := Lib.hid hF
                have HR2 := Lib.hid hR
                have HC2 := Lib.hid hC
                rw [if_neg (fresh_no hl)] at hF
                have HK := Lib.hid (hT.out w' hF)
                have HL := Lib.hid hl
                clear hx hF hR hC hd hcl hl
                simp only [fill, Nat.reduceAdd]
                go_wp2_with fail
                go_fit HK.out
                rintro e w'' ⟨rfl, hF6, hC6⟩
                go_wp2_with fail
                refine ⟨_, ?_, HX2.out.set 5, by rw [if_pos (fresh_set HL.out)]; exact hF6, by rw [getD_set_ne false (by decide)]; exact (hC6.block r (by have := HC2.out.size; omega) (by omega)).trans HR2.out, HC2.out.trans (hC6.mono fun _ _ h => .inl h)⟩
                simp only [fill, Nat.reduceAdd]
                simp [FV, e0, e4]
              · simp only [List.getElem?_toArray, List.getElem?_cons_succ, List.getElem?_cons_zero, Option.some.injEq] at ho
                subst ho
                have HX2 := Lib.hid hx
                have HF2 := Lib.hid hF
                have HR2 := Lib.hid hR
                have HC2 := Lib.hid hC
                clear hx hF hR hC hd hcl hl
                simp only [fill, Nat.reduceAdd]
                go_wp2_with fail
                refine ⟨_, ?_, HX2.out.set 6, by rw [getD_set_ne false (by decide)]; exact HF2.out, by rw [getD_set_ne false (by decide)]; exact HR2.out, HC2.out⟩
                simp only [fill, Nat.reduceAdd]
                simp [FV]
              · simp only [List.getElem?_toArray, List.getElem?_cons_succ, List.getElem?_cons_zero, Option.some.injEq] at ho
                subst ho
                have HX2 := Lib.hid hx
                have HF2 := Lib.hid hF
                have HR2 := Lib.hid hR
                have HC2 := Lib.hid hC
                clear hx hF hR hC hd hcl hl
                simp only [fill, Nat.reduceAdd]
                go_wp2_with fail
                refine ⟨_, ?_, HX2.out.set 7, by rw [getD_set_ne false (by decide)]; exact HF2.out, by rw [getD_set_ne false (by decide)]; exact HR2.out, HC2.out⟩
                simp only [fill, Nat.reduceAdd]
                simp [FV]
              · simp only [List.getElem?_toArray, List.getElem?_cons_succ, List.getElem?_cons_zero, Option.some.injEq] at ho
                subst ho
                have HX2 := Lib.hid hx
                have HF2 := Lib.hid hF
                have HR2 := Lib.hid hR
                have HC2 := Lib.hid hC
                clear hx hF hR hC hd hcl hl
                simp only [fill, Nat.reduceAdd]
                go_wp2_with fail
                refine ⟨_, ?_, HX2.out.set 8, by rw [getD_set_ne false (by decide)]; exact HF2.out, by rw [getD_set_ne false (by decide)]; exact HR2.out, HC2.out⟩
                simp only [fill, Nat.reduceAdd]
                simp [FV]
              · simp only [List.getElem?_toArray, List.getElem?_cons_succ, List.getElem?_cons_zero, Option.some.injEq] at ho
                subst ho
                have d7 : listed.getD 7 false = true := hd _ (Array.getElem_mem (i := 0) (by decide)) rfl
                have d8 : listed.getD 8 false = true := hd _ (Array.getElem_mem (i := 1) (by decide)) rfl
                have e7 : x 7 = Value.slice (some ⟨g, 0, none⟩) m c := hx 7 d7
                have e8 : x 8 = Value.int .i64 k := hx 8 d8
                have HX2 := Lib.hid hx
                have HF2 := Lib.hid hF
                have HR2 := Lib.hid hR
                have HC2 := Lib.hid hC
                clear hx hF hR hC hd hcl hl
                simp only [fill, Nat.reduceAdd]
                go_wp2_with fail
                refine ⟨_, ?_, HX2.out.set 9, by rw [getD_set_ne false (by decide)]; exact HF2.out, by rw [getD_set_ne false (by decide)]; exact HR2.out, HC2.out⟩
                simp only [fill, Nat.reduceAdd]
                simp [FV, e7, e8]
              · simp only [List.getElem?_toArray, List.getElem?_cons_succ, List.getElem?_cons_zero, Option.some.injEq] at ho
                subst ho
                have d9 : listed.getD 9 false = true := hd _ (Array.getElem_mem (i := 0) (by decide)) rfl
                have e9 : x 9 = Value.pointer (some ⟨g, k, none⟩) := hx 9 d9
                have HX2 := Lib.hid hx
                have HF2 := Lib.hid hF
                have HR2 := Lib.hid hR
                have HC2 := Lib.hid hC
                have cg := (World.cell?_of_block (hC.block g hgb' (by omega))).trans hc
                clear hx hF hR hC hd hcl hl
                simp only [fill, Nat.reduceAdd]
                go_wp2_with fail
                refine ⟨_, ?_, HX2.out.set 10, by rw [getD_set_ne false (by decide)]; exact HF2.out, by rw [getD_set_ne false (by decide)]; exact HR2.out, HC2.out⟩
                simp only [fill, Nat.reduceAdd]
                simp [FV, e9]
              · simp only [List.getElem?_toArray, List.getElem?_cons_succ, List.getElem?_cons_zero, Option.some.injEq] at ho
                subst ho
                have d6 : listed.getD 6 false = true := hd _ (Array.getElem_mem (i := 0) (by decide)) rfl
                have d10 : listed.getD 10 false = true := hd _ (Array.getElem_mem (i := 1) (by decide)) rfl
                have d5 : listed.getD 5 false = true := hd _ (Array.getElem_mem (i := 2) (by decide)) rfl
                have e6 : x 6 = Value.pointer (some ⟨r, 0, none⟩) := hx 6 d6
                have e10 : x 10 = Value.int .i64 v := hx 10 d10
                have e5 : x 5 = Value.int .i64 q1 := hx 5 d5
                have HX2 := Lib.hid hx
                have HF2 := Lib.hid hF
                have HR2 := Lib.hid hR
                have HC2 := Lib.hid hC
                rw [if_pos d5] at hF
                rw [if_neg (fresh_no hl)] at hR
                have HK := Lib.hid (hRf.out w' hR)
                have HL := Lib.hid hl
                clear hx hF hR hC hd hcl hl
                simp only [fill, Nat.reduceAdd]
                go_wp2_with fail
                go_fit HK.out
                rintro e w'' ⟨rfl, hF6, hC6⟩
                go_wp2_with fail
                refine ⟨_, ?_, HX2.out.set 11, by rw [getD_set_ne false (by decide)]; exact (hC6.block f (by have := HC2.out.size; omega) (by omega)).trans HF2.out, by rw [if_pos (fresh_set HL.out)]; exact hF6, HC2.out.trans (hC6.mono fun _ _ h => .inr h)⟩
                simp only [fill, Nat.reduceAdd]
                simp [FV, e6, e10, e5]
              · simp only [List.getElem?_toArray, List.getElem?_cons_succ, List.getElem?_cons_zero, Option.some.injEq] at ho
                subst ho
                have d5 : listed.getD 5 false = true := hd _ (Array.getElem_mem (i := 0) (by decide)) rfl
                have d11 : listed.getD 11 false = true := hd _ (Array.getElem_mem (i := 1) (by decide)) rfl
                have e5 : x 5 = Value.int .i64 q1 := hx 5 d5
                have e11 : x 11 = Value.int .i64 q1 := hx 11 d11
                have HX2 := Lib.hid hx
                have HF2 := Lib.hid hF
                have HR2 := Lib.hid hR
                have HC2 := Lib.hid hC
                clear hx hF hR hC hd hcl hl
                simp only [fill, Nat.reduceAdd]
                go_wp2_with fail
                refine ⟨_, ?_, HX2.out.set 12, by rw [getD_set_ne false (by decide)]; exact HF2.out, by rw [getD_set_ne false (by decide)]; exact HR2.out, HC2.out⟩
                simp only [fill, Nat.reduceAdd]
                simp [FV, e5, e11]
              · simp only [List.getElem?_toArray, List.getElem?_cons_succ, List.getElem?_cons_zero, Option.some.injEq] at ho
                subst ho
                have d12 : listed.getD 12 false = true := hd _ (Array.getElem_mem (i := 0) (by decide)) rfl
                have d11 : listed.getD 11 false = true := hd _ (Array.getElem_mem (i := 1) (by decide)) rfl
                have e12 : x 12 = Value.bool false := hx 12 d12
                have e11 : x 11 = Value.int .i64 q1 := hx 11 d11
                have HX2 := Lib.hid hx
                have HF2 := Lib.hid hF
                have HR2 := Lib.hid hR
                have HC2 := Lib.hid hC
                clear hx hF hR hC hd hcl hl
                simp only [fill, Nat.reduceAdd]
                go_wp2_with fail
                refine ⟨_, ?_, HX2.out.set 13, by rw [getD_set_ne false (by decide)]; exact HF2.out, by rw [getD_set_ne false (by decide)]; exact HR2.out, HC2.out⟩
                simp only [fill, Nat.reduceAdd]
                simp [FV, e12, e11]
              · simp only [List.getElem?_toArray, List.getElem?_cons_succ, List.getElem?_cons_zero, Option.some.injEq] at ho
                subst ho
                have d13 : listed.getD 13 false = true := hd _ (Array.getElem_mem (i := 0) (by decide)) rfl
                have e13 : x 13 = Value.bool false := hx 13 d13
                have HX2 := Lib.hid hx
                have HF2 := Lib.hid hF
                have HR2 := Lib.hid hR
                have HC2 := Lib.hid hC
                clear hx hF hR hC hd hcl hl
                simp only [fill, Nat.reduceAdd]
                go_wp2_with fail
                refine ⟨_, ?_, HX2.out.set 14, by rw [getD_set_ne false (by decide)]; exact HF2.out, by rw [getD_set_ne false (by decide)]; exact HR2.out, HC2.out⟩
                simp only [fill, Nat.reduceAdd]
                simp [FV, e13]
              · simp only [List.getElem?_toArray, List.getElem?_cons_succ, List.getElem?_cons_zero, Option.some.injEq] at ho
                subst ho
                have d14 : listed.getD 14 false = true := hd _ (Array.getElem_mem (i := 0) (by decide)) rfl
                have d13 : listed.getD 13 false = true := hd _ (Array.getElem_mem (i := 1) (by decide)) rfl
                have e14 : x 14 = Value.pointer (some ⟨f, 0, none⟩) := hx 14 d14
                have e13 : x 13 = Value.bool false := hx 13 d13
                have d12 : listed.getD 12 false = true := hcl 13 _ rfl d13 _ (Array.getElem_mem (i := 0) (by decide)) rfl
                have d5 : listed.getD 5 false = true := hcl 12 _ rfl d12 _ (Array.getElem_mem (i := 0) (by decide)) rfl
                have d11 : listed.getD 11 false = true := hcl 12 _ rfl d12 _ (Array.getElem_mem (i := 1) (by decide)) rfl
                have HX2 := Lib.hid hx
                have HF2 := Lib.hid hF
                have HR2 := Lib.hid hR
                have HC2 := Lib.hid hC
                rw [if_pos d5] at hF
                rw [if_pos d11] at hR
                have HK := Lib.hid (used_any _ _ _ hF)
                clear hx hF hR hC hd hcl hl
                simp only [fill, Nat.reduceAdd]
                go_wp2_with fail
                go_fit HK.out
                rintro e w'' ⟨rfl, rfl⟩
                go_wp2_with fail
                refine ⟨_, ?_, HX2.out.set 15, by rw [getD_set_ne false (by decide)]; exact HF2.out, by rw [getD_set_ne false (by decide)]; exact HR2.out, HC2.out⟩
                simp only [fill, Nat.reduceAdd]
                simp [FV, e14, e13]
              · simp only [List.getElem?_toArray, List.getElem?_cons_succ, List.getElem?_cons_zero, Option.some.injEq] at ho
                subst ho
                have d13 : listed.getD 13 false = true := hd _ (Array.getElem_mem (i := 0) (by decide)) rfl
                have e13 : x 13 = Value.bool false := hx 13 d13
                have HX2 := Lib.hid hx
                have HF2 := Lib.hid hF
                have HR2 := Lib.hid hR
                have HC2 := Lib.hid hC
                clear hx hF hR hC hd hcl hl
                simp only [fill, Nat.reduceAdd]
                go_wp2_with fail
                refine ⟨_, ?_, HX2.out.set 16, by rw [getD_set_ne false (by decide)]; exact HF2.out, by rw [getD_set_ne false (by decide)]; exact HR2.out, HC2.out⟩
                simp only [fill, Nat.reduceAdd]
                simp [FV, e13]
              · simp only [List.getElem?_toArray, List.getElem?_cons_succ, List.getElem?_cons_zero, Option.some.injEq] at ho
                subst ho
                have d16 : listed.getD 16 false = true := hd _ (Array.getElem_mem (i := 0) (by decide)) rfl
                have d13 : listed.getD 13 false = true := hd _ (Array.getElem_mem (i := 1) (by decide)) rfl
                have e16 : x 16 = Value.pointer (some ⟨r, 0, none⟩) := hx 16 d16
                have e13 : x 13 = Value.bool false := hx 13 d13
                have HX2 := Lib.hid hx
                have HF2 := Lib.hid hF
                have HR2 := Lib.hid hR
                have HC2 := Lib.hid hC
                clear hx hF hR hC hd hcl hl
                simp only [fill, Nat.reduceAdd]
                go_wp2_with fail
                refine ⟨_, ?_, HX2.out.set 17, by rw [getD_set_ne false (by decide)]; exact HF2.out, by rw [getD_set_ne false (by decide)]; exact HR2.out, HC2.out⟩
                simp only [fill, Nat.reduceAdd]
                simp [FV, e16, e13]
              · simp only [List.getElem?_toArray, List.getElem?_cons_succ, List.getElem?_cons_zero, Option.some.injEq] at ho
                subst ho
                have d17 : listed.getD 17 false = true := hd _ (Array.getElem_mem (i := 0) (by decide)) rfl
                have d13 : listed.getD 13 false = true := hd _ (Array.getElem_mem (i := 1) (by decide)) rfl
                have e17 : x 17 = Value.pointer (some ⟨r, 0, none⟩) := hx 17 d17
                have e13 : x 13 = Value.bool false := hx 13 d13
                have HX2 := Lib.hid hx
                have HF2 := Lib.hid hF
                have HR2 := Lib.hid hR
                have HC2 := Lib.hid hC
                clear hx hF hR hC hd hcl hl
                simp only [fill, Nat.reduceAdd]
                go_wp2_with fail
                refine ⟨_, ?_, HX2.out.set 18, by rw [getD_set_ne false (by decide)]; exact HF2.out, by rw [getD_set_ne false (by decide)]; exact HR2.out, HC2.out⟩
                simp only [fill, Nat.reduceAdd]
                simp [FV, e17, e13]
              · simp only [List.getElem?_toArray, List.getElem?_cons_succ, List.getElem?_cons_zero, Option.some.injEq] at ho
                subst ho
                have d18 : listed.getD 18 false = true := hd _ (Array.getElem_mem (i := 0) (by decide)) rfl
                have d13 : listed.getD 13 false = true := hd _ (Array.getElem_mem (i := 1) (by decide)) rfl
                have e18 : x 18 = Value.pointer (some ⟨r, 1, none⟩) := hx 18 d18
                have e13 : x 13 = Value.bool false := hx 13 d13
                have d12 : listed.getD 12 false = true := hcl 13 _ rfl d13 _ (Array.getElem_mem (i := 0) (by decide)) rfl
                have d5 : listed.getD 5 false = true := hcl 12 _ rfl d12 _ (Array.getElem_mem (i := 0) (by decide)) rfl
                have d11 : listed.getD 11 false = true := hcl 12 _ rfl d12 _ (Array.getElem_mem (i := 1) (by decide)) rfl
                have HX2 := Lib.hid hx
                have HF2 := Lib.hid hF
                have HR2 := Lib.hid hR
                have HC2 := Lib.hid hC
                rw [if_pos d5] at hF
                rw [if_pos d11] at hR
                have c1 := cell_at 1 hR rfl
                clear hx hF hR hC hd hcl hl
                simp only [fill, Nat.reduceAdd]
                go_wp2_with fail
                refine ⟨_, ?_, HX2.out.set 19, by rw [getD_set_ne false (by decide)]; exact HF2.out, by rw [getD_set_ne false (by decide)]; exact HR2.out, HC2.out⟩
                simp only [fill, Nat.reduceAdd]
                simp [FV, e18, e13]
              · simp only [List.getElem?_toArray, List.getElem?_cons_succ, List.getElem?_cons_zero, Option.some.injEq] at ho
                subst ho
                have d15 : listed.getD 15 false = true := hd _ (Array.getElem_mem (i := 0) (by decide)) rfl
                have d19 : listed.getD 19 false = true := hd _ (Array.getElem_mem (i := 1) (by decide)) rfl
                have d13 : listed.getD 13 false = true := hd _ (Array.getElem_mem (i := 2) (by decide)) rfl
                have e15 : x 15 = Value.int .i64 q2.used := hx 15 d15
                have e19 : x 19 = Value.int .i64 q2.used := hx 19 d19
                have e13 : x 13 = Value.bool false := hx 13 d13
                have HX2 := Lib.hid hx
                have HF2 := Lib.hid hF
                have HR2 := Lib.hid hR
                have HC2 := Lib.hid hC
                clear hx hF hR hC hd hcl hl
                simp only [fill, Nat.reduceAdd]
                go_wp2_with fail
                refine ⟨_, ?_, HX2.out.set 20, by rw [getD_set_ne false (by decide)]; exact HF2.out, by rw [getD_set_ne false (by decide)]; exact HR2.out, HC2.out⟩
                simp only [fill, Nat.reduceAdd]
                simp [FV, e15, e19, e13]
              · simp only [List.getElem?_toArray, List.getElem?_cons_succ, List.getElem?_cons_zero, Option.some.injEq] at ho
                subst ho
                have d13 : listed.getD 13 false = true := hd _ (Array.getElem_mem (i := 0) (by decide)) rfl
                have d20 : listed.getD 20 false = true := hd _ (Array.getElem_mem (i := 1) (by decide)) rfl
                have e13 : x 13 = Value.bool false := hx 13 d13
                have e20 : x 20 = Value.bool false := hx 20 d20
                have HX2 := Lib.hid hx
                have HF2 := Lib.hid hF
                have HR2 := Lib.hid hR
                have HC2 := Lib.hid hC
                clear hx hF hR hC hd hcl hl
                simp only [fill, Nat.reduceAdd]
                go_wp2_with fail
                refine ⟨_, ?_, HX2.out.set 21, by rw [getD_set_ne false (by decide)]; exact HF2.out, by rw [getD_set_ne false (by decide)]; exact HR2.out, HC2.out⟩
                simp only [fill, Nat.reduceAdd]
                simp [FV, e13, e20]
              · simp only [List.getElem?_toArray, List.getElem?_cons_succ, List.getElem?_cons_zero, Option.some.injEq] at ho
                subst ho
                have d21 : listed.getD 21 false = true := hd _ (Array.getElem_mem (i := 0) (by decide)) rfl
                have d15 : listed.getD 15 false = true := hd _ (Array.getElem_mem (i := 1) (by decide)) rfl
                have e21 : x 21 = Value.bool false := hx 21 d21
                have e15 : x 15 = Value.int .i64 q2.used := hx 15 d15
                have HX2 := Lib.hid hx
                have HF2 := Lib.hid hF
                have HR2 := Lib.hid hR
                have HC2 := Lib.hid hC
                clear hx hF hR hC hd hcl hl
                simp only [fill, Nat.reduceAdd]
                go_wp2_with fail
                refine ⟨_, ?_, HX2.out.set 22, by rw [getD_set_ne false (by decide)]; exact HF2.out, by rw [getD_set_ne false (by decide)]; exact HR2.out, HC2.out⟩
                simp only [fill, Nat.reduceAdd]
                simp [FV, e21, e15]
              · simp only [List.getElem?_toArray, List.getElem?_cons_succ, List.getElem?_cons_zero, Option.some.injEq] at ho
                subst ho
                have d22 : listed.getD 22 false = true := hd _ (Array.getElem_mem (i := 0) (by decide)) rfl
                have e22 : x 22 = Value.bool false := hx 22 d22
                have HX2 := Lib.hid hx
                have HF2 := Lib.hid hF
                have HR2 := Lib.hid hR
                have HC2 := Lib.hid hC
                clear hx hF hR hC hd hcl hl
                simp only [fill, Nat.reduceAdd]
                go_wp2_with fail
                refine ⟨_, ?_, HX2.out.set 23, by rw [getD_set_ne false (by decide)]; exact HF2.out, by rw [getD_set_ne false (by decide)]; exact HR2.out, HC2.out⟩
                simp only [fill, Nat.reduceAdd]
                simp [FV, e22]
              · simp only [List.getElem?_toArray, List.getElem?_cons_succ, List.getElem?_cons_zero, Option.some.injEq] at ho
                subst ho
                have d23 : listed.getD 23 false = true := hd _ (Array.getElem_mem (i := 0) (by decide)) rfl
                have d22 : listed.getD 22 false = true := hd _ (Array.getElem_mem (i := 1) (by decide)) rfl
                have e23 : x 23 = Value.pointer (some ⟨f, 0, none⟩) := hx 23 d23
                have e22 : x 22 = Value.bool false := hx 22 d22
                have d21 : listed.getD 21 false = true := hcl 22 _ rfl d22 _ (Array.getElem_mem (i := 0) (by decide)) rfl
                have d13 : listed.getD 13 false = true := hcl 21 _ rfl d21 _ (Array.getElem_mem (i := 0) (by decide)) rfl
                have d12 : listed.getD 12 false = true := hcl 13 _ rfl d13 _ (Array.getElem_mem (i := 0) (by decide)) rfl
                have d5 : listed.getD 5 false = true := hcl 12 _ rfl d12 _ (Array.getElem_mem (i := 0) (by decide)) rfl
                have d11 : listed.getD 11 false = true := hcl 12 _ rfl d12 _ (Array.getElem_mem (i := 1) (by decide)) rfl
                have HX2 := Lib.hid hx
                have HF2 := Lib.hid hF
                have HR2 := Lib.hid hR
                have HC2 := Lib.hid hC
                rw [if_pos d5] at hF
                rw [if_pos d11] at hR
                have HK := Lib.hid (left_any _ _ _ hF)
                clear hx hF hR hC hd hcl hl
                simp only [fill, Nat.reduceAdd]
                go_wp2_with fail
                go_fit HK.out
                rintro e w'' ⟨rfl, rfl⟩
                go_wp2_with fail
                refine ⟨_, ?_, HX2.out.set 24, by rw [getD_set_ne false (by decide)]; exact HF2.out, by rw [getD_set_ne false (by decide)]; exact HR2.out, HC2.out⟩
                simp only [fill, Nat.reduceAdd]
                simp [FV, e23, e22]
              · simp only [List.getElem?_toArray, List.getElem?_cons_succ, List.getElem?_cons_zero, Option.some.injEq] at ho
                subst ho
                have d22 : listed.getD 22 false = true := hd _ (Array.getElem_mem (i := 0) (by decide)) rfl
                have e22 : x 22 = Value.bool false := hx 22 d22
                have HX2 := Lib.hid hx
                have HF2 := Lib.hid hF
                have HR2 := Lib.hid hR
                have HC2 := Lib.hid hC
                clear hx hF hR hC hd hcl hl
                simp only [fill, Nat.reduceAdd]
                go_wp2_with fail
                refine ⟨_, ?_, HX2.out.set 25, by rw [getD_set_ne false (by decide)]; exact HF2.out, by rw [getD_set_ne false (by decide)]; exact HR2.out, HC2.out⟩
                simp only [fill, Nat.reduceAdd]
                simp [FV, e22]
              · simp only [List.getElem?_toArray, List.getElem?_cons_succ, List.getElem?_cons_zero, Option.some.injEq] at ho
                subst ho
                have d22 : listed.getD 22 false = true := hd _ (Array.getElem_mem (i := 0) (by decide)) rfl
                have e22 : x 22 = Value.bool false := hx 22 d22
                have HX2 := Lib.hid hx
                have HF2 := Lib.hid hF
                have HR2 := Lib.hid hR
                have HC2 := Lib.hid hC
                clear hx hF hR hC hd hcl hl
                simp only [fill, Nat.reduceAdd]
                go_wp2_with fail
                refine ⟨_, ?_, HX2.out.set 26, by rw [getD_set_ne false (by decide)]; exact HF2.out, by rw [getD_set_ne false (by decide)]; exact HR2.out, HC2.out⟩
                simp only [fill, Nat.reduceAdd]
                simp [FV, e22]
              · simp only [List.getElem?_toArray, List.getElem?_cons_succ, List.getElem?_cons_zero, Option.some.injEq] at ho
                subst ho
                have d26 : listed.getD 26 false = true := hd _ (Array.getElem_mem (i := 0) (by decide)) rfl
                have d22 : listed.getD 22 false = true := hd _ (Array.getElem_mem (i := 1) (by decide)) rfl
                have e26 : x 26 = Value.pointer (some ⟨r, 0, none⟩) := hx 26 d26
                have e22 : x 22 = Value.bool false := hx 22 d22
                have HX2 := Lib.hid hx
                have HF2 := Lib.hid hF
                have HR2 := Lib.hid hR
                have HC2 := Lib.hid hC
                clear hx hF hR hC hd hcl hl
                simp only [fill, Nat.reduceAdd]
                go_wp2_with fail
                refine ⟨_, ?_, HX2.out.set 27, by rw [getD_set_ne false (by decide)]; exact HF2.out, by rw [getD_set_ne false (by decide)]; exact HR2.out, HC2.out⟩
                simp only [fill, Nat.reduceAdd]
                simp [FV, e26, e22]
              · simp only [List.getElem?_toArray, List.getElem?_cons_succ, List.getElem?_cons_zero, Option.some.injEq] at ho
                subst ho
                have d27 : listed.getD 27 false = true := hd _ (Array.getElem_mem (i := 0) (by decide)) rfl
                have d22 : listed.getD 22 false = true := hd _ (Array.getElem_mem (i := 1) (by decide)) rfl
                have e27 : x 27 = Value.pointer (some ⟨r, 0, none⟩) := hx 27 d27
                have e22 : x 22 = Value.bool false := hx 22 d22
                have HX2 := Lib.hid hx
                have HF2 := Lib.hid hF
                have HR2 := Lib.hid hR
                have HC2 := Lib.hid hC
                clear hx hF hR hC hd hcl hl
                simp only [fill, Nat.reduceAdd]
                go_wp2_with fail
                refine ⟨_, ?_, HX2.out.set 28, by rw [getD_set_ne false (by decide)]; exact HF2.out, by rw [getD_set_ne false (by decide)]; exact HR2.out, HC2.out⟩
                simp only [fill, Nat.reduceAdd]
                simp [FV, e27, e22]
              · simp only [List.getElem?_toArray, List.getElem?_cons_succ, List.getElem?_cons_zero, Option.some.injEq] at ho
                subst ho
                have d28 : listed.getD 28 false = true := hd _ (Array.getElem_mem (i := 0) (by decide)) rfl
                have d22 : listed.getD 22 false = true := hd _ (Array.getElem_mem (i := 1) (by decide)) rfl
                have e28 : x 28 = Value.pointer (some ⟨r, 1, none⟩) := hx 28 d28
                have e22 : x 22 = Value.bool false := hx 22 d22
                have d21 : listed.getD 21 false = true := hcl 22 _ rfl d22 _ (Array.getElem_mem (i := 0) (by decide)) rfl
                have d13 : listed.getD 13 false = true := hcl 21 _ rfl d21 _ (Array.getElem_mem (i := 0) (by decide)) rfl
                have d12 : listed.getD 12 false = true := hcl 13 _ rfl d13 _ (Array.getElem_mem (i := 0) (by decide)) rfl
                have d5 : listed.getD 5 false = true := hcl 12 _ rfl d12 _ (Array.getElem_mem (i := 0) (by decide)) rfl
                have d11 : listed.getD 11 false = true := hcl 12 _ rfl d12 _ (Array.getElem_mem (i := 1) (by decide)) rfl
                have HX2 := Lib.hid hx
                have HF2 := Lib.hid hF
                have HR2 := Lib.hid hR
                have HC2 := Lib.hid hC
                rw [if_pos d5] at hF
                rw [if_pos d11] at hR
                have c1 := cell_at 1 hR rfl
                clear hx hF hR hC hd hcl hl
                simp only [fill, Nat.reduceAdd]
                go_wp2_with fail
                refine ⟨_, ?_, HX2.out.set 29, by rw [getD_set_ne false (by decide)]; exact HF2.out, by rw [getD_set_ne false (by decide)]; exact HR2.out, HC2.out⟩
                simp only [fill, Nat.reduceAdd]
                simp [FV, e28, e22]
              · simp only [List.getElem?_toArray, List.getElem?_cons_succ, List.getElem?_cons_zero, Option.some.injEq] at ho
                subst ho
                have d25 : listed.getD 25 false = true := hd _ (Array.getElem_mem (i := 0) (by decide)) rfl
                have d29 : listed.getD 29 false = true := hd _ (Array.getElem_mem (i := 1) (by decide)) rfl
                have d22 : listed.getD 22 false = true := hd _ (Array.getElem_mem (i := 2) (by decide)) rfl
                have e25 : x 25 = Value.int .i64 a0 := hx 25 d25
                have e29 : x 29 = Value.int .i64 q2.used := hx 29 d29
                have e22 : x 22 = Value.bool false := hx 22 d22
                have HX2 := Lib.hid hx
                have HF2 := Lib.hid hF
                have HR2 := Lib.hid hR
                have HC2 := Lib.hid hC
                clear hx hF hR hC hd hcl hl
                simp only [fill, Nat.reduceAdd]
                go_wp2_with fail
                refine ⟨_, ?_, HX2.out.set 30, by rw [getD_set_ne false (by decide)]; exact HF2.out, by rw [getD_set_ne false (by decide)]; exact HR2.out, HC2.out⟩
                simp only [fill, Nat.reduceAdd]
                simp [FV, e25, e29, e22]
              · simp only [List.getElem?_toArray, List.getElem?_cons_succ, List.getElem?_cons_zero, Option.some.injEq] at ho
                subst ho
                have d24 : listed.getD 24 false = true := hd _ (Array.getElem_mem (i := 0) (by decide)) rfl
                have d30 : listed.getD 30 false = true := hd _ (Array.getElem_mem (i := 1) (by decide)) rfl
                have d22 : listed.getD 22 false = true := hd _ (Array.getElem_mem (i := 2) (by decide)) rfl
                have e24 : x 24 = Value.int .i64 q2.left := hx 24 d24
                have e30 : x 30 = Value.int .i64 q2.left := hx 30 d30
                have e22 : x 22 = Value.bool false := hx 22 d22
                have HX2 := Lib.hid hx
                have HF2 := Lib.hid hF
                have HR2 := Lib.hid hR
                have HC2 := Lib.hid hC
                clear hx hF hR hC hd hcl hl
                simp only [fill, Nat.reduceAdd]
                go_wp2_with fail
                refine ⟨_, ?_, HX2.out.set 31, by rw [getD_set_ne false (by decide)]; exact HF2.out, by rw [getD_set_ne false (by decide)]; exact HR2.out, HC2.out⟩
                simp only [fill, Nat.reduceAdd]
                simp [FV, e24, e30, e22]
              · simp only [List.getElem?_toArray, List.getElem?_cons_succ, List.getElem?_cons_zero, Option.some.injEq] at ho
                subst ho
                have d22 : listed.getD 22 false = true := hd _ (Array.getElem_mem (i := 0) (by decide)) rfl
                have d31 : listed.getD 31 false = true := hd _ (Array.getElem_mem (i := 1) (by decide)) rfl
                have e22 : x 22 = Value.bool false := hx 22 d22
                have e31 : x 31 = Value.bool false := hx 31 d31
                have HX2 := Lib.hid hx
                have HF2 := Lib.hid hF
                have HR2 := Lib.hid hR
                have HC2 := Lib.hid hC
                clear hx hF hR hC hd hcl hl
                simp only [fill, Nat.reduceAdd]
                go_wp2_with fail
                refine ⟨_, ?_, HX2.out.set 32, by rw [getD_set_ne false (by decide)]; exact HF2.out, by rw [getD_set_ne false (by decide)]; exact HR2.out, HC2.out⟩
                simp only [fill, Nat.reduceAdd]
                simp [FV, e22, e31]
              · simp only [List.getElem?_toArray, List.getElem?_cons_succ, List.getElem?_cons_zero, Option.some.injEq] at ho
                subst ho
                have d32 : listed.getD 32 false = true := hd _ (Array.getElem_mem (i := 0) (by decide)) rfl
                have d24 : listed.getD 24 false = true := hd _ (Array.getElem_mem (i := 1) (by decide)) rfl
                have e32 : x 32 = Value.bool false := hx 32 d32
                have e24 : x 24 = Value.int .i64 q2.left := hx 24 d24
                have HX2 := Lib.hid hx
                have HF2 := Lib.hid hF
                have HR2 := Lib.hid hR
                have HC2 := Lib.hid hC
                clear hx hF hR hC hd hcl hl
                simp only [fill, Nat.reduceAdd]
                go_wp2_with fail
                refine ⟨_, ?_, HX2.out.set 33, by rw [getD_set_ne false (by decide)]; exact HF2.out, by rw [getD_set_ne false (by decide)]; exact HR2.out, HC2.out⟩
                simp only [fill, Nat.reduceAdd]
                simp [FV, e32, e24]
              · simp only [List.getElem?_toArray, List.getElem?_cons_succ, List.getElem?_cons_zero, Option.some.injEq] at ho
                subst ho
                have d33 : listed.getD 33 false = true := hd _ (Array.getElem_mem (i := 0) (by decide)) rfl
                have e33 : x 33 = Value.bool false := hx 33 d33
                have HX2 := Lib.hid hx
                have HF2 := Lib.hid hF
                have HR2 := Lib.hid hR
                have HC2 := Lib.hid hC
                clear hx hF hR hC hd hcl hl
                simp only [fill, Nat.reduceAdd]
                go_wp2_with fail
                refine ⟨_, ?_, HX2.out.set 34, by rw [getD_set_ne false (by decide)]; exact HF2.out, by rw [getD_set_ne false (by decide)]; exact HR2.out, HC2.out⟩
                simp only [fill, Nat.reduceAdd]
                simp [FV, e33]
              · simp only [List.getElem?_toArray, List.getElem?_cons_succ, List.getElem?_cons_zero, Option.some.injEq] at ho
                subst ho
                have d34 : listed.getD 34 false = true := hd _ (Array.getElem_mem (i := 0) (by decide)) rfl
                have d33 : listed.getD 33 false = true := hd _ (Array.getElem_mem (i := 1) (by decide)) rfl
                have e34 : x 34 = Value.pointer (some ⟨f, 0, none⟩) := hx 34 d34
                have e33 : x 33 = Value.bool false := hx 33 d33
                have d32 : listed.getD 32 false = true := hcl 33 _ rfl d33 _ (Array.getElem_mem (i := 0) (by decide)) rfl
                have d31 : listed.getD 31 false = true := hcl 32 _ rfl d32 _ (Array.getElem_mem (i := 1) (by decide)) rfl
                have d22 : listed.getD 22 false = true := hcl 31 _ rfl d31 _ (Array.getElem_mem (i := 2) (by decide)) rfl
                have d21 : listed.getD 21 false = true := hcl 22 _ rfl d22 _ (Array.getElem_mem (i := 0) (by decide)) rfl
                have d13 : listed.getD 13 false = true := hcl 21 _ rfl d21 _ (Array.getElem_mem (i := 0) (by decide)) rfl
                have d12 : listed.getD 12 false = true := hcl 13 _ rfl d13 _ (Array.getElem_mem (i := 0) (by decide)) rfl
                have d5 : listed.getD 5 false = true := hcl 12 _ rfl d12 _ (Array.getElem_mem (i := 0) (by decide)) rfl
                have d11 : listed.getD 11 false = true := hcl 12 _ rfl d12 _ (Array.getElem_mem (i := 1) (by decide)) rfl
                have HX2 := Lib.hid hx
                have HF2 := Lib.hid hF
                have HR2 := Lib.hid hR
                have HC2 := Lib.hid hC
                rw [if_pos d5] at hF
                rw [if_pos d11] at hR
                have HK := Lib.hid (spent_any _ _ _ hF)
                clear hx hF hR hC hd hcl hl
                simp only [fill, Nat.reduceAdd]
                go_wp2_with fail
                go_fit HK.out
                rintro e w'' ⟨rfl, rfl⟩
                go_wp2_with fail
                refine ⟨_, ?_, HX2.out.set 35, by rw [getD_set_ne false (by decide)]; exact HF2.out, by rw [getD_set_ne false (by decide)]; exact HR2.out, HC2.out⟩
                simp only [fill, Nat.reduceAdd]
                simp [FV, e34, e33]
              · simp only [List.getElem?_toArray, List.getElem?_cons_succ, List.getElem?_cons_zero, Option.some.injEq] at ho
                subst ho
                have d33 : listed.getD 33 false = true := hd _ (Array.getElem_mem (i := 0) (by decide)) rfl
                have e33 : x 33 = Value.bool false := hx 33 d33
                have HX2 := Lib.hid hx
                have HF2 := Lib.hid hF
                have HR2 := Lib.hid hR
                have HC2 := Lib.hid hC
                clear hx hF hR hC hd hcl hl
                simp only [fill, Nat.reduceAdd]
                go_wp2_with fail
                refine ⟨_, ?_, HX2.out.set 36, by rw [getD_set_ne false (by decide)]; exact HF2.out, by rw [getD_set_ne false (by decide)]; exact HR2.out, HC2.out⟩
                simp only [fill, Nat.reduceAdd]
                simp [FV, e33]
              · simp only [List.getElem?_toArray, List.getElem?_cons_succ, List.getElem?_cons_zero, Option.some.injEq] at ho
                subst ho
                have d36 : listed.getD 36 false = true := hd _ (Array.getElem_mem (i := 0) (by decide)) rfl
                have d33 : listed.getD 33 false = true := hd _ (Array.getElem_mem (i := 1) (by decide)) rfl
                have e36 : x 36 = Value.pointer (some ⟨r, 0, none⟩) := hx 36 d36
                have e33 : x 33 = Value.bool false := hx 33 d33
                have HX2 := Lib.hid hx
                have HF2 := Lib.hid hF
                have HR2 := Lib.hid hR
                have HC2 := Lib.hid hC
                clear hx hF hR hC hd hcl hl
                simp only [fill, Nat.reduceAdd]
                go_wp2_with fail
                refine ⟨_, ?_, HX2.out.set 37, by rw [getD_set_ne false (by decide)]; exact HF2.out, by rw [getD_set_ne false (by decide)]; exact HR2.out, HC2.out⟩
                simp only [fill, Nat.reduceAdd]
                simp [FV, e36, e33]
              · simp only [List.getElem?_toArray, List.getElem?_cons_succ, List.getElem?_cons_zero, Option.some.injEq] at ho
                subst ho
                have d37 : listed.getD 37 false = true := hd _ (Array.getElem_mem (i := 0) (by decide)) rfl
                have d33 : listed.getD 33 false = true := hd _ (Array.getElem_mem (i := 1) (by decide)) rfl
                have e37 : x 37 = Value.pointer (some ⟨r, 0, none⟩) := hx 37 d37
                have e33 : x 33 = Value.bool false := hx 33 d33
                have HX2 := Lib.hid hx
                have HF2 := Lib.hid hF
                have HR2 := Lib.hid hR
                have HC2 := Lib.hid hC
                clear hx hF hR hC hd hcl hl
                simp only [fill, Nat.reduceAdd]
                go_wp2_with fail
                refine ⟨_, ?_, HX2.out.set 38, by rw [getD_set_ne false (by decide)]; exact HF2.out, by rw [getD_set_ne false (by decide)]; exact HR2.out, HC2.out⟩
                simp only [fill, Nat.reduceAdd]
                simp [FV, e37, e33]
              · simp only [List.getElem?_toArray, List.getElem?_cons_succ, List.getElem?_cons_zero, Option.some.injEq] at ho
                subst ho
                have d38 : listed.getD 38 false = true := hd _ (Array.getElem_mem (i := 0) (by decide)) rfl
                have d33 : listed.getD 33 false = true := hd _ (Array.getElem_mem (i := 1) (by decide)) rfl
                have e38 : x 38 = Value.pointer (some ⟨r, 2, none⟩) := hx 38 d38
                have e33 : x 33 = Value.bool false := hx 33 d33
                have d32 : listed.getD 32 false = true := hcl 33 _ rfl d33 _ (Array.getElem_mem (i := 0) (by decide)) rfl
                have d31 : listed.getD 31 false = true := hcl 32 _ rfl d32 _ (Array.getElem_mem (i := 1) (by decide)) rfl
                have d22 : listed.getD 22 false = true := hcl 31 _ rfl d31 _ (Array.getElem_mem (i := 2) (by decide)) rfl
                have d21 : listed.getD 21 false = true := hcl 22 _ rfl d22 _ (Array.getElem_mem (i := 0) (by decide)) rfl
                have d13 : listed.getD 13 false = true := hcl 21 _ rfl d21 _ (Array.getElem_mem (i := 0) (by decide)) rfl
                have d12 : listed.getD 12 false = true := hcl 13 _ rfl d13 _ (Array.getElem_mem (i := 0) (by decide)) rfl
                have d5 : listed.getD 5 false = true := hcl 12 _ rfl d12 _ (Array.getElem_mem (i := 0) (by decide)) rfl
                have d11 : listed.getD 11 false = true := hcl 12 _ rfl d12 _ (Array.getElem_mem (i := 1) (by decide)) rfl
                have HX2 := Lib.hid hx
                have HF2 := Lib.hid hF
                have HR2 := Lib.hid hR
                have HC2 := Lib.hid hC
                rw [if_pos d5] at hF
                rw [if_pos d11] at hR
                have c2 := cell_at 2 hR rfl
                clear hx hF hR hC hd hcl hl
                simp only [fill, Nat.reduceAdd]
                go_wp2_with fail
                refine ⟨_, ?_, HX2.out.set 39, by rw [getD_set_ne false (by decide)]; exact HF2.out, by rw [getD_set_ne false (by decide)]; exact HR2.out, HC2.out⟩
                simp only [fill, Nat.reduceAdd]
                simp [FV, e38, e33]
              · simp only [List.getElem?_toArray, List.getElem?_cons_succ, List.getElem?_cons_zero, Option.some.injEq] at ho
                subst ho
                have d35 : listed.getD 35 false = true := hd _ (Array.getElem_mem (i := 0) (by decide)) rfl
                have d39 : listed.getD 39 false = true := hd _ (Array.getElem_mem (i := 1) (by decide)) rfl
                have d33 : listed.getD 33 false = true := hd _ (Array.getElem_mem (i := 2) (by decide)) rfl
                have e35 : x 35 = Value.bool q2.spent := hx 35 d35
                have e39 : x 39 = Value.bool q2.spent := hx 39 d39
                have e33 : x 33 = Value.bool false := hx 33 d33
                have HX2 := Lib.hid hx
                have HF2 := Lib.hid hF
                have HR2 := Lib.hid hR
                have HC2 := Lib.hid hC
                clear hx hF hR hC hd hcl hl
                simp only [fill, Nat.reduceAdd]
                go_wp2_with fail
                refine ⟨_, ?_, HX2.out.set 40, by rw [getD_set_ne false (by decide)]; exact HF2.out, by rw [getD_set_ne false (by decide)]; exact HR2.out, HC2.out⟩
                simp only [fill, Nat.reduceAdd]
                simp [FV, e35, e39, e33]
              · simp only [List.getElem?_toArray, List.getElem?_cons_succ, List.getElem?_cons_zero, Option.some.injEq] at ho
                subst ho
                have d33 : listed.getD 33 false = true := hd _ (Array.getElem_mem (i := 0) (by decide)) rfl
                have d40 : listed.getD 40 false = true := hd _ (Array.getElem_mem (i := 1) (by decide)) rfl
                have e33 : x 33 = Value.bool false := hx 33 d33
                have e40 : x 40 = Value.bool false := hx 40 d40
                have HX2 := Lib.hid hx
                have HF2 := Lib.hid hF
                have HR2 := Lib.hid hR
                have HC2 := Lib.hid hC
                clear hx hF hR hC hd hcl hl
                simp only [fill, Nat.reduceAdd]
                go_wp2_with fail
                refine ⟨_, ?_, HX2.out.set 41, by rw [getD_set_ne false (by decide)]; exact HF2.out, by rw [getD_set_ne false (by decide)]; exact HR2.out, HC2.out⟩
                simp only [fill, Nat.reduceAdd]
                simp [FV, e33, e40]
            · intro listed a' w' hI hall
              obtain ⟨x, rfl, hx, hF, hR, hC⟩ := hI
              have e41 : x 41 = .bool false := hx 41 (hall 41 (by decide))
              rw [if_pos (hall 5 (by decide))] at hF
              rw [if_pos (hall 11 (by decide))] at hR
              clear hx hall
              have hOw := owns_chg hOr hC (fun k hk => by rw [ownL_some] at hk; simp only [List.mem_singleton] at hk; omega)
              have hBw := hBr.trans (hC.below hBr.size (fun k hk hF => by omega))
              have hrw := Nat.lt_of_lt_of_le hrr hC.size
              have HF2 := Lib.hid hF
              have HR2 := Lib.hid hR
              clear hF hR hC hOr hBr hRs hRs' hdrw
              simp only [fill, Nat.reduceAdd]
              go_wp2_with fail
              go_meet
              exact ⟨rfl, HF2.out, HR2.out, hok', HQ.out, hOw, hBw, hrw⟩
          case rest =>
            obtain ⟨rfl, hF7, hR7, hok7, hsum7, hO7, hB7, hr7⟩ := hcut
            go_wp2_with fail
            go_roundw
            case rel => exact ⟨k + 1, _, by omega, by go_num, hF7, hR7, hok7, hsum7, hO7, hB7, hr7⟩
            case measure => simp [intOf]; omega
        · go_wp2_with fail
          refine (works_any _).mono ?_
          rintro e w3 ⟨rfl, hB3⟩
          go_wp2_with fail
          go_ret
          have := hBr.size
          exact ⟨rfl, hBr.trans (hB3.mono (by omega))⟩
end Go.Proofs.Ythmbkdlgelmglaa
