/- TrailPlays' walk: a trail that is changed, begun, undone and kept anyhow has what the document says. No condition. -/
import Derived.Test.YtifjjcenmilohaaTrailM
import Derived.Test.YtifjjcenmilohaaAmong
import Derived.Deep.CutBlock
namespace Go.Proofs.Ytifjjcenmilohaa
open Go.RowKit

/-- Both trails in memory, apart from each other and from a block X of the round's own. -/
structure PX (w0 : World) (b r n X : Nat) (o : Option Obj) (F G : List Nat) (T S : TM) (wr : World) : Prop where
  tr : TrailAt wr b F T
  rf : ∃ now hs, RRel n S now hs ∧ RefAt wr r G n now hs
  dis : ∀ k ∈ F, k ∉ G
  fb : ∀ k ∈ F, w0.heap.size ≤ k
  gb : ∀ k ∈ G, w0.heap.size ≤ k
  bel : Below w0.heap.size w0 wr
  xo : ∀ q, o = some q → wr.heap[X]? = some q ∧ X ∉ F ∧ X ∉ G

theorem PX.trail {w0 : World} {b r n X : Nat} {o : Option Obj} {F F' G : List Nat} {T T' S : TM} {wr w' : World} (h : PX w0 b r n X o F G T S wr) (hT : TrailAt w' b F' T')
    (hF : ∀ k ∈ F', k ∈ F ∨ wr.heap.size ≤ k) (hC : Chg (· ∈ F) wr w') : PX w0 b r n X o F' G T' S w' := by
  obtain ⟨tr, ⟨now, hs, hR, hA⟩, dis, fb, gb, bel, hxo⟩ := h
  obtain ⟨hB, hF4⟩ := TEnds.below bel fb hF hC
  refine ⟨hT, ⟨now, hs, hR, hA.frame fun k hk => hC.block k (hA.lt k hk) (fun hf => dis k hf hk)⟩, fun k hk hg => ?_, hF4, gb, hB, fun q hq => ?_⟩
  · rcases hF k hk with e | e
    · exact dis k e hg
    · have := hA.lt k hg; omega
  · obtain ⟨xo, xf, xg⟩ := hxo q hq
    have hX := lt_of_block xo
    refine ⟨(hC.block X hX xf).trans xo, fun hx => ?_, xg⟩
    rcases hF X hx with e | e
    · exact xf e
    · omega

theorem PX.ref {w0 : World} {b r n X : Nat} {o : Option Obj} {F G : List Nat} {T S S' : TM} {wr w' : World} {e : Ending} {v : Value} (h : PX w0 b r n X o F G T S wr) (hp : PEnds r G n v S' wr e w') :
    e = .returned v ∧ ∃ G', PX w0 b r n X o F G' T S' w' := by
  obtain ⟨tr, -, dis, fb, gb, bel, hxo⟩ := h
  obtain ⟨now, hs, hR, rfl, G', hA, hG, hC⟩ := hp
  obtain ⟨hB, hG4⟩ := TEnds.below bel gb hG hC
  refine ⟨rfl, G', ⟨tr.frame fun k hk => hC.block k (tr.lt k hk) (fun hg => dis k hk hg), ⟨now, hs, hR, hA⟩, fun k hk hg => ?_, fb, hG4, hB, fun q hq => ?_⟩⟩
  · rcases hG k hg with e | e
    · exact dis k hk e
    · have := tr.lt k hk; omega
  · obtain ⟨xo, xf, xg⟩ := hxo q hq
    have hX := lt_of_block xo
    refine ⟨(hC.block X hX xg).trans xo, xf, fun hx => ?_⟩
    rcases hG X hx with e | e
    · exact xg e
    · omega

theorem PX.drew {w0 : World} {b r n X : Nat} {o : Option Obj} {F G : List Nat} {T S : TM} {wr : World} (h : PX w0 b r n X o F G T S wr) : PX w0 b r n X o F G T S wr.drew :=
  ⟨h.tr, h.rf, h.dis, h.fb, h.gb, h.bel.drew, h.xo⟩

def PlayRel (w0 : World) (b r n m : Nat) (i : Value) (wr : World) : Prop :=
  ∃ (k : Nat) (F G : List Nat) (T : TM), k ≤ m ∧ k ≤ 80 ∧ i = .int .i64 k ∧ (∃ X o, PX w0 b r n X o F G T T wr) ∧ T.ok k

/-- Behind a switch's arm: both have gone on, and answered the same. -/
def PlayCut (w0 : World) (b r n X k : Nat) (o : Option Obj) (ok : Value) (wr : World) : Prop :=
  ∃ (F G : List Nat) (T : TM), ok = .bool true ∧ PX w0 b r n X o F G T T wr ∧ T.ok (k + 1)

theorem PX.alloc {w0 : World} {b r n X : Nat} {o : Option Obj} {F G : List Nat} {T S : TM} {wr : World} (h : PX w0 b r n X o F G T S wr) (o' : Obj) : PX w0 b r n wr.heap.size (some o') F G T S (wr.alloc o') := by
  obtain ⟨tr, ⟨now, hs, hR, hA⟩, dis, fb, gb, bel, -⟩ := h
  refine ⟨tr.alloc o', ⟨now, hs, hR, hA.frame fun k hk => heap_alloc_lt (hA.lt k hk)⟩, dis, fb, gb, bel.alloc bel.size _, fun q hq => ?_⟩
  cases hq
  refine ⟨heap_new _ _, fun hx => ?_, fun hx => ?_⟩
  · have := tr.lt _ hx; omega
  · have := hA.lt _ hx; omega

theorem PX.below {w0 : World} {b r n X : Nat} {o : Option Obj} {F G : List Nat} {T S : TM} {wr w' : World} (h : PX w0 b r n X o F G T S wr) (hB : Below wr.heap.size wr w') : PX w0 b r n X o F G T S w' := by
  obtain ⟨tr, ⟨now, hs, hR, hA⟩, dis, fb, gb, bel, hxo⟩ := h
  refine ⟨tr.frame fun k hk => hB.block k (tr.lt k hk), ⟨now, hs, hR, hA.frame fun k hk => hB.block k (hA.lt k hk)⟩, dis, fb, gb, bel.trans (hB.mono bel.size), fun q hq => ?_⟩
  obtain ⟨xo, xf, xg⟩ := hxo q hq
  exact ⟨(hB.block X (lt_of_block xo)).trans xo, xf, xg⟩
theorem PX.same {w0 : World} {b r n X : Nat} {o : Option Obj} {F G : List Nat} {T S : TM} {wr w' : World} (h : PX w0 b r n X o F G T S wr) (hS : Same wr w') : PX w0 b r n X o F G T S w' := h.below hS.below

set_option maxRecDepth 100000 in
set_option maxHeartbeats 4000000 in
theorem plays_any (a0 : Int) (a1 : Option Addr) (len cap : Nat) (zs : Nat → Nat → Int) (w : World) (w0 : (Lit.int .u8 a0).wf = true) (w1 : IsRowS 3 w a1 len cap zs) :
    Calls Try.prog 3 #[.int .u8 a0, .slice a1 len cap] w fun e w' => e = .returned (.bool true) ∧ Below w.heap.size w w' := by
  obtain ⟨hlen, hcap⟩ := w1.len_le
  obtain ⟨d0, d1⟩ := bounds_u8 w0
  obtain ⟨i0, hi, hz0, hz1, hz2⟩ := info_parts infoInt
  obtain ⟨n, hn⟩ : ∃ n : Nat, a0 % 9 = (n : Int) := ⟨(a0 % 9).toNat, by omega⟩
  have hn9 : n ≤ 8 := by omega
  go_enter Try.func3, Try.ntmps3
  go_wp2_with fail
  refine (new_ok n _ (by omega)).mono ?_
  rintro e w2 ⟨b, rfl, hb, ⟨F, hT, hF⟩, hB⟩
  have hs2 := hB.size
  have HT := Lib.hid hT
  have HF := Lib.hid hF
  have HB := Lib.hid hB
  clear hT hF hB
  go_wp2_with (at_make; refine wpList_make_full _ rfl _ _ 28 rfl 0 3 i0 (.int .i64 0) 1 Try.underlying28 hi hz0 hz1 .i64 .i64 _ _ n rfl rfl rfl rfl (by rw [hz2]; omega) (by unfold maxLen; omega) (Nat.zero_le _) ?_)
  intro w3 hown hgrow
  obtain ⟨gn, hgn⟩ : ∃ g, g = w2.heap.size := ⟨_, rfl⟩
  rw [← hgn] at hown ⊢
  have hgw := owns_lt hown gn rfl
  have hs3 := hgrow.size
  have HO := Lib.hid hown
  have HG := Lib.hid hgrow
  have HGN := Lib.hid hgn
  clear hown hgrow hgn
  go_wp2_with fail
  have hPX : PX w b w3.heap.size n 0 none F [w3.heap.size, gn] ⟨List.replicate n 0, [], []⟩ ⟨List.replicate n 0, [], []⟩ (w3.alloc (.cells #[.slice (some ⟨gn, 0, none⟩) n n, .slice none 0 0] 31)) := by
    have hrow : (madeCells #[Value.int .i64 0] n).toList = ints (List.replicate n 0) := by
      rw [toList_madeCells_one]; simp [ints]
    have ho := HO.out
    rw [hrow] at ho
    have hB3 : Below w.heap.size w w3 := HB.out.grown HG.out (by omega) (fun k hk => by cases hk)
    have hne : ¬ w3.heap.size = gn := by omega
    have hgnw := HGN.out
    refine ⟨(HT.out.frame (w' := w3) fun k hk => HG.out.block k (HT.out.lt k hk) (fun e => by cases e)).alloc _, ⟨List.replicate n 0, [], ⟨rfl, by simp, rfl⟩, gn, n, .slice none 0 0, heap_new _ _, by simp, ?_, World.ownsRow_nil _ _ _ _, by simp, rfl, by simp [hne]⟩, ?_, HF.out, ?_, hB3.alloc (by omega) _, fun q hq => by cases hq⟩
    · exact owns_of_heap ho fun k hk => by cases hk; exact heap_alloc_lt hgw
    · intro k hk hg
      have := HT.out.lt k hk
      simp only [List.mem_cons, List.not_mem_nil, or_false] at hg
      omega
    · intro k hk
      simp only [List.mem_cons, List.not_mem_nil, or_false] at hk
      omega
  have HPX := Lib.hid hPX
  clear hPX HO HG HGN HT HB HF hgw hs3 hs2 hb
  generalize w3.alloc (.cells #[.slice (some ⟨gn, 0, none⟩) n n, .slice none 0 0] 31) = w4 at *
  generalize w3.heap.size = r at *
  clear w3 w2
  go_loopw [9] (fun i wr => PlayRel w b r n len i wr) (fun i _ => len - (intOf i).toNat)
  case atStart => exact ⟨0, F, _, _, Nat.zero_le _, by omega, rfl, ⟨_, _, HPX.out⟩, ok_new n 0⟩
  case round =>
    clear HPX w4
    obtain ⟨k, F6, G6, T, hk, hk80, rfl, ⟨X, o, hpx⟩, hok⟩ := hrel
    have HPX := Lib.hid hpx
    have HK := Lib.hid hok
    clear hpx hok
    by_cases hlt : k < len
    · by_cases hlt80 : k < 80
      · obtain ⟨xb, xo, rfl, hxb, hcell⟩ := w1.at (by decide) hlt
        have hBr := HPX.out.bel
        have e0 := (hBr.cell (p := ⟨xb, xo + (k * 3 + 0), none⟩) hxb).trans (hcell k hlt 0 (by decide)).1
        have e1 := (hBr.cell (p := ⟨xb, xo + (k * 3 + 1), none⟩) hxb).trans (hcell k hlt 1 (by decide)).1
        have e2 := (hBr.cell (p := ⟨xb, xo + (k * 3 + 2), none⟩) hxb).trans (hcell k hlt 2 (by decide)).1
        have hwf := (hcell k hlt 0 (by decide)).2
        rw [← Nat.add_assoc] at e1 e2
        rw [Nat.add_zero] at e0
        clear hcell hBr
        generalize zs k 0 = x at *
        generalize zs k 1 = y at *
        generalize zs k 2 = z at *
        have hk0 : (0 : Int) ≤ (k : Int) := Int.natCast_nonneg _
        have hk1 : (k : Int) < (len : Int) := by omega
        go_wp2_with fail
        have HPXa := Lib.hid (HPX.out.alloc (.cells #[.int .i64 x, .int .i64 y, .int .i64 z] 33))
        generalize wr.alloc (.cells #[.int .i64 x, .int .i64 y, .int .i64 z] 33) = wa at *
        generalize wr.heap.size = q at *
        clear e0 e1 e2 HPX hxb wr
        obtain ⟨qx, -, -⟩ := HPXa.out.xo _ rfl
        have c1 : wa.cell? ⟨q, 1, none⟩ = some (.int .i64 y) := cell_at 1 qx rfl
        have c2 : wa.cell? ⟨q, 2, none⟩ = some (.int .i64 z) := cell_at 2 qx rfl
        clear qx
        refine (among_any x 4 _ hwf (by decide) (by decide)).mono ?_
        rintro e w' ⟨d, d0', d1', rfl, rfl⟩
        have hc := set_any b F6 T y z wa.drew HPXa.out.tr HK.out (by omega)
        have hk1' := ok_set HK.out y z
        have HC0 := Lib.hid hc
        have HK0 := Lib.hid hk1'
        have HB0 := Lib.hid (begin_any b F6 T wa HPXa.out.tr HK.out (by omega))
        have HU0 := Lib.hid (undo_any b F6 T wa HPXa.out.tr HK.out (by omega))
        have HE0 := Lib.hid (keep_any b F6 T wa HPXa.out.tr)
        clear hc hk1'
        go_upto_block 2 with fail
        go_cut [11] (fun s11 wc => PlayCut w b r n q k (some (.cells #[.int .i64 x, .int .i64 y, .int .i64 z] 33)) s11 wc)
        case first =>
          have hd : d = 0 ∨ d = 1 ∨ d = 2 ∨ d = 3 := by omega
          rcases hd with rfl | rfl | rfl | rfl
          · go_wp2_with fail
            go_region_held3 (fun w' => w'.cell? ⟨q, 1, none⟩ = some (.int .i64 y) ∧ w'.cell? ⟨q, 2, none⟩ = some (.int .i64 z))
              (first
                | exact ⟨m1, m2⟩
                | exact ⟨l1, l2⟩
                | exact ⟨c1, c2⟩
                | fail)
              ((first
                | (go_at_call 8
                   (with_reducible refine HC0.out.mono ?_)
                   rintro e w6 ⟨rfl, F7, hT7, hF7, hC7⟩
                   have HPX1 := Lib.hid (HPXa.out.trail hT7 hF7 hC7.undrew)
                   obtain ⟨qx, -, -⟩ := HPX1.out.xo _ rfl
                   have l1 : w6.cell? ⟨q, 1, none⟩ = some (.int .i64 y) := cell_at 1 qx rfl
                   have l2 : w6.cell? ⟨q, 2, none⟩ = some (.int .i64 z) := cell_at 2 qx rfl
                   obtain ⟨now, hs, hR, hA⟩ := HPX1.out.rf
                   have HP0 := Lib.hid (pset_any r G6 n k T now hs y z w6 hA hR HK.out)
                   clear hT7 hF7 hC7 qx hR hA)
                | (go_at_call 9
                   (with_reducible refine HP0.out.mono ?_)
                   intro e w7 hp7
                   obtain ⟨rfl, G7, hp8⟩ := HPX1.out.ref hp7
                   obtain ⟨qx, -, -⟩ := hp8.xo _ rfl
                   have m1 : w7.cell? ⟨q, 1, none⟩ = some (.int .i64 y) := cell_at 1 qx rfl
                   have m2 : w7.cell? ⟨q, 2, none⟩ = some (.int .i64 z) := cell_at 2 qx rfl
                   have HPX2 := Lib.hid hp8
                   clear hp7 hp8 qx)
                | fail))
            go_wp2_with fail
            go_meet
            exact ⟨F7, G7, _, rfl, HPX2.out, HK0.out⟩
          · go_wp2_with fail
            refine HB0.out.mono ?_
            rintro e w6 ⟨rfl, F7, hT7, hF7, hC7⟩
            have HPX1 := Lib.hid (HPXa.out.trail hT7 hF7 hC7)
            obtain ⟨now, hs, hR, hA⟩ := HPX1.out.rf
            have HP0 := Lib.hid (pbegin_any r G6 n k T now hs w6 hA hR HK.out (by omega))
            clear hT7 hF7 hC7 hR hA
            go_wp2_with fail
            refine HP0.out.mono ?_
            intro e w7 hp7
            obtain ⟨rfl, G7, hp8⟩ := HPX1.out.ref hp7
            have HPX2 := Lib.hid hp8
            clear hp7 hp8
            go_wp2_with fail
            go_meet
            exact ⟨F7, G7, _, rfl, HPX2.out, ok_mono (ok_begin HK.out) (Nat.le_succ k)⟩
          · go_wp2_with fail
            refine HU0.out.mono ?_
            rintro e w6 ⟨rfl, F7, hT7, hF7, hC7⟩
            have HPX1 := Lib.hid (HPXa.out.trail hT7 hF7 hC7)
            obtain ⟨now, hs, hR, hA⟩ := HPX1.out.rf
            have HP0 := Lib.hid (show Calls _ _ _ w6 (PEnds r G6 n (.int .i64 (undoF T).1) (undoF T).2 w6) from pend_any r G6 n k T now hs true w6 hA hR HK.out)
            clear hT7 hF7 hC7 hR hA
            go_wp2_with fail
            refine HP0.out.mono ?_
            intro e w7 hp7
            obtain ⟨rfl, G7, hp8⟩ := HPX1.out.ref hp7
            have HPX2 := Lib.hid hp8
            clear hp7 hp8
            go_wp2_with fail
            go_meet
            exact ⟨F7, G7, _, rfl, HPX2.out, ok_mono (ok_undo HK.out) (Nat.le_succ k)⟩
          · go_wp2_with fail
            refine HE0.out.mono ?_
            rintro e w6 ⟨rfl, F7, hT7, hF7, hC7⟩
            have HPX1 := Lib.hid (HPXa.out.trail hT7 hF7 hC7)
            obtain ⟨now, hs, hR, hA⟩ := HPX1.out.rf
            have HP0 := Lib.hid (show Calls _ _ _ w6 (PEnds r G6 n (.int .i64 (keepF T).1) (keepF T).2 w6) from pend_any r G6 n k T now hs false w6 hA hR HK.out)
            clear hT7 hF7 hC7 hR hA
            go_wp2_with fail
            refine HP0.out.mono ?_
            intro e w7 hp7
            obtain ⟨rfl, G7, hp8⟩ := HPX1.out.ref hp7
            have HPX2 := Lib.hid hp8
            clear hp7 hp8
            go_wp2_with fail
            go_meet
            exact ⟨F7, G7, _, rfl, HPX2.out, ok_mono (ok_keep HK.out) (Nat.le_succ k)⟩
        case rest =>
          clear HC0 HK0 HB0 HU0 HE0 HPXa c1 c2 d0' d1' HK wa
          obtain ⟨F7, G7, T7, rfl, hpx, hok7⟩ := hcut
          have HPX := Lib.hid hpx
          have HOK := Lib.hid hok7
          clear hok7
          obtain ⟨htr, ⟨now, hs, hR, hA⟩, -, -, -, -, hxo⟩ := hpx
          obtain ⟨qx, -, -⟩ := hxo _ rfl
          have q1 : wc.cell? ⟨q, 1, none⟩ = some (.int .i64 y) := cell_at 1 qx rfl
          have hlv := level_any b F7 T7 wc.drew htr
          rw [← hR.size] at hlv
          have HLV := Lib.hid hlv
          have hg1 := get_any b F7 T7 y wc.drew htr
          have hg2 := ref_get r G7 n now hs y wc.drew hA
          rw [hR.cells, show now.length = n from by rw [← hR.cells]; exact hR.len] at hg1
          generalize (if 0 ≤ y ∧ y < (n : Int) then now.getD y.toNat 0 else 0) = gv at hg1 hg2
          have HG1 := Lib.hid hg1
          have HG2 := Lib.hid hg2
          have hall := all_any b F7 T7 wc.drew htr (by rw [hR.len]; omega)
          rw [hR.cells, show now.length = n from by rw [← hR.cells]; exact hR.len] at hall
          have HALL := Lib.hid hall
          obtain ⟨gn2, cn2, vt, hr1, -, hown2, hvt, -⟩ := hA
          have r0 : wc.cell? ⟨r, 0, none⟩ = some (.slice (some ⟨gn2, 0, none⟩) n cn2) := cell_at 0 hr1 rfl
          obtain ⟨av, kv, rfl⟩ := slice_len hvt
          have r1 : wc.cell? ⟨r, 1, none⟩ = some (.slice av hs.length kv) := cell_at 1 hr1 rfl
          have HO2 := Lib.hid hown2
          have hqw := lt_of_block qx
          have hrw := lt_of_block hr1
          clear htr hR hxo qx hlv hg1 hg2 hall hr1 hown2 hvt
          have hlenq : ((hs.length : Int) != (hs.length : Int)) = false := by simp
          have hgvq : (gv != gv) = false := by simp
          go_wp2_with fail
          go_region_held3 (fun w' => w'.cell? ⟨q, 1, none⟩ = some (.int .i64 y) ∧ w'.cell? ⟨r, 0, none⟩ = some (.slice (some ⟨gn2, 0, none⟩) n cn2) ∧ w'.cell? ⟨r, 1, none⟩ = some (.slice av hs.length kv))
            (first
              | exact ⟨n1, n2, n3⟩
              | exact ⟨m1, m2, m3⟩
              | exact ⟨q1, r0, r1⟩
              | fail)
            ((first
              | (go_at_call 15
                 (with_reducible refine HLV.out.mono ?_)
                 rintro e w' ⟨rfl, rfl⟩)
              | (go_at_call 16
                 (with_reducible refine HG1.out.mono ?_)
                 rintro e w' ⟨rfl, rfl⟩)
              | (go_at_call 17
                 (with_reducible refine HG2.out.mono ?_)
                 rintro e w' ⟨rfl, rfl⟩)
              | (go_at_call 19
                 (with_reducible refine HALL.out.mono ?_)
                 rintro e w8 ⟨g8, c8, rfl, hO8, hB8⟩
                 have m1 := (hB8.cell (p := ⟨q, 1, none⟩) hqw).trans q1
                 have m2 := (hB8.cell (p := ⟨r, 0, none⟩) hrw).trans r0
                 have m3 := (hB8.cell (p := ⟨r, 1, none⟩) hrw).trans r1
                 have hsm := same_any _ _ _ _ _ _ _ _ w8 (src_of_owns hO8) (src_of_owns (owns_of_heap HO2.out (w' := w8) fun k hk => by cases hk; exact hB8.block gn2 (owns_lt HO2.out gn2 rfl)))
                 have HSM := Lib.hid hsm
                 have HB8 := Lib.hid hB8
                 clear hO8 hB8 hsm)
              | (go_at_call 18
                 (with_reducible refine HSM.out.mono ?_)
                 rintro e w9 ⟨rfl, hS9⟩
                 rw [sameB_self]
                 have n1 := hS9.cell m1
                 have n2 := hS9.cell m2
                 have n3 := hS9.cell m3
                 have HS9 := Lib.hid hS9
                 clear hS9)
              | fail))
          go_wp2_with fail
          go_roundw
          case rel => exact ⟨k + 1, F7, G7, T7, by omega, by omega, by go_num, ⟨_, _, (HPX.out.drew.below HB8.out).same HS9.out⟩, HOK.out⟩
          case measure => simp [intOf]; omega
      · go_wp2_with fail
        refine (works_any _).mono ?_
        rintro e w6 ⟨rfl, hB6⟩
        go_wp2_with fail
        go_ret
        exact ⟨rfl, HPX.out.bel.trans (hB6.mono HPX.out.bel.size)⟩
    · go_wp2_with fail
      refine (works_any _).mono ?_
      rintro e w6 ⟨rfl, hB6⟩
      go_wp2_with fail
      go_ret
      exact ⟨rfl, HPX.out.bel.trans (hB6.mono HPX.out.bel.size)⟩
end Go.Proofs.Ytifjjcenmilohaa
