/- OnesCount64, and the contracts of a set's Len and Copy. No condition but those in each statement. -/
import Derived.Test.YtafdijcolponjaaDoorBitsF
import Derived.Test.YtafdijcolponjaaDoorPop
import Derived.Laws.Bits128
namespace Go.Proofs.YtafdijcolponjaaDoor
open Go.RowKit

theorem pop_core (x a1 a2 b1 b2 c r : Nat) (w : World)
    (h1 : bits .and .u64 ((x : Int) / 2) 6148914691236517205 = (a1 : Int)) (h2 : bits .and .u64 (x : Int) 6148914691236517205 = (a2 : Int)) (ha1 : (a1 : Int) ≤ 6148914691236517205) (ha2 : (a2 : Int) ≤ 6148914691236517205)
    (h3 : bits .and .u64 (((a1 : Int) + a2) / 4) 3689348814741910323 = (b1 : Int)) (h4 : bits .and .u64 ((a1 : Int) + a2) 3689348814741910323 = (b2 : Int)) (hb1 : (b1 : Int) ≤ 3689348814741910323) (hb2 : (b2 : Int) ≤ 3689348814741910323)
    (h5 : bits .and .u64 (((b1 : Int) + b2) / 16 + ((b1 : Int) + b2)) 1085102592571150095 = (c : Int)) (hc : (c : Int) ≤ 1085102592571150095)
    (h6 : bits .and .i64 ((c : Int) + c / 256 + (c + c / 256) / 65536 + (c + c / 256 + (c + c / 256) / 65536) / 4294967296) 127 = (r : Int)) :
    Calls Tryd.prog 86 #[.int .u64 x] w fun e w' => e = .returned (.int .i64 r) ∧ w = w' := by
  have p1 : (0 : Int) ≤ a1 := by omega
  have p2 : (0 : Int) ≤ a2 := by omega
  have p3 : (0 : Int) ≤ b1 := by omega
  have p4 : (0 : Int) ≤ b2 := by omega
  have p5 : (0 : Int) ≤ c := by omega
  have u1 : IntKind.u64.wrap ((a1 : Int) + a2) = (a1 : Int) + a2 := IntWalk.u64_in _ (by omega)
  have u2 : IntKind.u64.wrap ((b1 : Int) + b2) = (b1 : Int) + b2 := IntWalk.u64_in _ (by omega)
  have u3 : IntKind.u64.wrap (((b1 : Int) + b2) / 16 + ((b1 : Int) + b2)) = ((b1 : Int) + b2) / 16 + ((b1 : Int) + b2) := IntWalk.u64_in _ (by omega)
  have u4 : IntKind.u64.wrap ((c : Int) + c / 256) = (c : Int) + c / 256 := IntWalk.u64_in _ (by omega)
  have u5 : IntKind.u64.wrap ((c : Int) + c / 256 + (c + c / 256) / 65536) = (c : Int) + c / 256 + (c + c / 256) / 65536 := IntWalk.u64_in _ (by omega)
  have u6 : IntKind.u64.wrap ((c : Int) + c / 256 + (c + c / 256) / 65536 + (c + c / 256 + (c + c / 256) / 65536) / 4294967296) = (c : Int) + c / 256 + (c + c / 256) / 65536 + (c + c / 256 + (c + c / 256) / 65536) / 4294967296 := IntWalk.u64_in _ (by omega)
  have u7 : IntKind.i64.wrap ((c : Int) + c / 256 + (c + c / 256) / 65536 + (c + c / 256 + (c + c / 256) / 65536) / 4294967296) = (c : Int) + c / 256 + (c + c / 256) / 65536 + (c + c / 256 + (c + c / 256) / 65536) / 4294967296 := IntWalk.i64_in _ (by omega)
  clear ha1 ha2 hb1 hb2 hc p1 p2 p3 p4 p5
  go_enter Tryd.func86, Tryd.ntmps86
  go_wp2_with fail
  go_ret
  exact ⟨rfl, rfl⟩

theorem pop_any (x : Nat) (hx : x < 2 ^ 64) (w : World) :
    Calls Tryd.prog 86 #[.int .u64 x] w fun e w' => e = .returned (.int .i64 ((bitL x).length : Nat)) ∧ w = w' := by
  rw [← pop_bits x hx]
  have ha1 : x / 2 &&& 6148914691236517205 ≤ 6148914691236517205 := Nat.and_le_right
  have ha2 : x &&& 6148914691236517205 ≤ 6148914691236517205 := Nat.and_le_right
  have h1 : bits .and .u64 ((x : Int) / 2) 6148914691236517205 = ((x / 2 &&& 6148914691236517205 : Nat) : Int) := by
    rw [show (x : Int) / 2 = ((x / 2 : Nat) : Int) by omega]
    exact u64_and_nat _ _ (by omega) (by decide)
  have h2 : bits .and .u64 (x : Int) 6148914691236517205 = ((x &&& 6148914691236517205 : Nat) : Int) := u64_and_nat _ _ hx (by decide)
  unfold popW sA
  generalize x / 2 &&& 6148914691236517205 = a1 at *
  generalize x &&& 6148914691236517205 = a2 at *
  have hb1 : (a1 + a2) / 4 &&& 3689348814741910323 ≤ 3689348814741910323 := Nat.and_le_right
  have hb2 : (a1 + a2) &&& 3689348814741910323 ≤ 3689348814741910323 := Nat.and_le_right
  have h3 : bits .and .u64 (((a1 : Int) + a2) / 4) 3689348814741910323 = (((a1 + a2) / 4 &&& 3689348814741910323 : Nat) : Int) := by
    rw [show ((a1 : Int) + a2) / 4 = (((a1 + a2) / 4 : Nat) : Int) by omega]
    exact u64_and_nat _ _ (by omega) (by decide)
  have h4 : bits .and .u64 ((a1 : Int) + a2) 3689348814741910323 = (((a1 + a2) &&& 3689348814741910323 : Nat) : Int) := by
    rw [show ((a1 : Int) + a2) = ((a1 + a2 : Nat) : Int) by omega]
    exact u64_and_nat _ _ (by omega) (by decide)
  unfold sB
  generalize (a1 + a2) / 4 &&& 3689348814741910323 = b1 at *
  generalize (a1 + a2) &&& 3689348814741910323 = b2 at *
  have hc : ((b1 + b2) / 16 + (b1 + b2)) &&& 1085102592571150095 ≤ 1085102592571150095 := Nat.and_le_right
  have h5 : bits .and .u64 (((b1 : Int) + b2) / 16 + ((b1 : Int) + b2)) 1085102592571150095 = ((((b1 + b2) / 16 + (b1 + b2)) &&& 1085102592571150095 : Nat) : Int) := by
    rw [show ((b1 : Int) + b2) / 16 + ((b1 : Int) + b2) = (((b1 + b2) / 16 + (b1 + b2) : Nat) : Int) by omega]
    exact u64_and_nat _ _ (by omega) (by decide)
  unfold sC
  generalize ((b1 + b2) / 16 + (b1 + b2)) &&& 1085102592571150095 = c at *
  refine pop_core x a1 a2 b1 b2 c _ w h1 h2 (by omega) (by omega) h3 h4 (by omega) (by omega) h5 (by omega) ?_
  unfold sF sE sD
  have e : (c : Int) + c / 256 + (c + c / 256) / 65536 + (c + c / 256 + (c + c / 256) / 65536) / 4294967296 = ((c + c / 256 + (c + c / 256) / 65536 + (c + c / 256 + (c + c / 256) / 65536) / 4294967296 : Nat) : Int) := by omega
  rw [e]
  generalize c + c / 256 + (c + c / 256) / 65536 + (c + c / 256 + (c + c / 256) / 65536) / 4294967296 = z at *
  rw [i64_and127]
  omega

def LenRel (w : World) (ws : List Nat) (n i : Value) (wr : World) : Prop :=
  ∃ k : Nat, k ≤ 8 ∧ i = .int .i64 k ∧ n = .int .i64 ((preL ws k).length : Nat) ∧ w = wr

theorem len_any (b : Nat) (ws : List Nat) (w : World) (h : SetAt w b ws) :
    Calls Tryd.prog 36 #[.pointer (some ⟨b, 0, none⟩)] w fun e w' => e = .returned (.int .i64 ((preL ws 8).length : Nat)) ∧ w = w' := by
  have hr := set_range h
  obtain ⟨h1, h2, h3⟩ := h
  have hsz : (words ws).toList.length = 8 := by simp [words, h2]
  have HP := Lib.hid (fun (k : Nat) => pop_any (ws.getD k 0) (getD_lt h3 k) w)
  have HN := Lib.hid (fun (j : Nat) (hj : j < 8) => words_nth ws (i := j) (by omega))
  have HR := Lib.hid hr
  have HI := Lib.hid (by rw [hsz]; exact infoWords : (Tryd.prog.info? 99).map (·.size) = some (words ws).toList.length)
  clear h1 h2 h3 hr hsz
  go_enter Tryd.func36, Tryd.ntmps36
  go_wp2_with (first | (refine wpList_load_mid rfl 99 _ rfl b 0 rfl (words ws).toList _ HR.out Tryd.underlying99 rfl HI.out ?_) | fail)
  go_loopw [3, 12] (fun n i wr => LenRel w ws n i wr) (fun _ i _ => 8 - (intOf i).toNat)
  case atStart => exact ⟨0, by omega, rfl, rfl, rfl⟩
  case round =>
    obtain ⟨k, hk, rfl, rfl, rfl⟩ := hrel
    by_cases hlt : k < 8
    · have hn := HN.out k hlt
      have hp := HP.out k
      have hl1 := preL_len ws k
      have hl2 := bitL_len (ws.getD k 0)
      have hs : (preL ws (k + 1)).length = (preL ws k).length + (bitL (ws.getD k 0)).length := by rw [preL_succ, List.length_append, List.length_map]
      generalize ws.getD k 0 = x at *
      have HS := Lib.hid hs
      have HP2 := Lib.hid hp
      clear hs hp HP
      generalize words ws = cs at *
      generalize (preL ws k).length = p at *
      generalize (bitL x).length = q at *
      have e0 : (0 : Int) ≤ (p : Int) := by omega
      have e1 : (p : Int) ≤ 512 := by omega
      have e2 : (0 : Int) ≤ (q : Int) := by omega
      have e3 : (q : Int) ≤ 64 := by omega
      have hq0 : (0 : Int) ≤ (k : Int) := by omega
      have hq1 : (k : Int) < 8 := by omega
      clear hl1 hl2
      go_wp2_with (first | (refine wpList_index_one rfl 99 _ _ rfl 98 8 _ _ k _ rfl rfl Tryd.underlying99 Tryd.underlying98 rfl infoWord hlt hn ?_) | fail)
      go_fit HP2.out
      rintro e w' ⟨rfl, rfl⟩
      go_wp2_with fail
      go_roundw
      case rel => exact ⟨k + 1, by omega, by go_num, by rw [HS.out]; go_num, rfl⟩
      case measure => simp [intOf]; omega
    · obtain rfl : k = 8 := by omega
      go_wp2_with fail
      go_ret
      exact ⟨rfl, rfl⟩
end Go.Proofs.YtafdijcolponjaaDoor
