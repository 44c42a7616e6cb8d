/-
  The walks of the document's package strongboxref01: Filled.
-/
import Derived.Test.YtgfojmbmibgijaaGreatDoorOwnG
import Derived.Test.YtgfojmbmibgijaaGreatDoorInfo
import Derived.Test.YtgfojmbmibgijaaGreatDoorShaEat
namespace Go.Proofs.YtgfojmbmibgijaaGreatDoor
open Go.RowKit
namespace R1
open Sha

attribute [local go_sem ↓] appSem_eq


def slen : Value → Nat
  | .slice _ n _ => n
  | _ => 0

def onez (k : Nat) : List UInt8 := 128 :: List.replicate k 0
theorem onez_snoc (k : Nat) : onez (k + 1) = onez k ++ [0] := by simp [onez, List.replicate_succ']
theorem cells_snoc (l : List UInt8) (b : UInt8) (x : Int) (h : x = (b.toNat : Int)) : Lib.byteCells l ++ [Value.int .u8 x] = Lib.byteCells (l ++ [b]) := by rw [h]; simp [Lib.byteCells]

/-- how Filled ends -/
def FilledEnd (s : ByteArray) (w : World) (e : Ending) (w' : World) : Prop := ∃ v, e = .returned v ∧ OwnG w' w.heap.size 5 1 v (s.data.toList ++ pad s.size).length (Lib.byteCells (s.data.toList ++ pad s.size)) ∧ Below w.heap.size w w'

set_option maxRecDepth 100000 in
set_option maxHeartbeats 2000000 in
theorem filled_any (s : ByteArray) (hs : s.size ≤ 70368744177664) (w : World) :
    Calls Tryz.prog 151 #[.string s] w (FilledEnd s w) := by
  have hsl : s.data.toList.length = s.size := by simp
  have hcv := fun (w : World) => Lib.run_convert_string_bytes (P := Tryz.prog) w 9 132 5 s Tryz.underlying9 Tryz.underlying132 Tryz.underlying5
  have hcw := hcv w
  have hb1 := Lib.bytesWorld_below w 5 s
  have ho1 := ownG_bytes w 5 s w.heap.size (Nat.le_refl _) hs
  have hz1 := Lib.bytesWorld_size w 5 s
  clear hcv
  generalize Lib.bytesWorld w 5 s = w1 at *
  generalize grownCap w s.size 0 5 = c1 at *
  obtain ⟨g5, c5, w5, hrun, hown, hb5, _⟩ := ownG_new (c := 1) (m := 1) (C := #[.int .u8 128]) Tryz.underlying132 info_u8 rfl (by omega) (by omega) ho1 rfl (by simp [Value.oneCell']) (by omega) (by omega) hb1.size
  have HO := Lib.hid hown
  have HB := Lib.hid (hb1.trans hb5)
  have HZ := Lib.hid hz1
  clear hown hb5 hb1 hz1 ho1
  go_enter Tryz.func151, Tryz.ntmps151
  go_wp2_with fail
  have ho := HO.out
  rw [show Lib.byteCells s.data.toList ++ (#[Value.int IntKind.u8 128] : Array Value).toList = Lib.byteCells (s.data.toList ++ onez 0) from cells_snoc _ 128 _ rfl] at ho
  have hbb := HB.out
  clear hrun hcw
  go_loopw [3] (fun v wr => ∃ k : Nat, k ≤ zeros s.size ∧ OwnG wr w.heap.size 5 1 v (s.size + 1 + k) (Lib.byteCells (s.data.toList ++ onez k)) ∧ Below w.heap.size w wr) (fun v _ => s.size + 1 + zeros s.size - slen v)
  case atStart => exact ⟨0, by omega, ho, hbb⟩
  case round =>
    obtain ⟨k, hk, hv, hbl⟩ := hrel
    clear ho hbb
    obtain ⟨A', cap', rfl⟩ := hv.shape
    have hzd : zeros s.size = (119 - s.size % 64) % 64 := rfl
    have hu : (0 : Int) ≤ ((s.size + 1 + k : Nat) : Int) := by omega
    by_cases hlt : k < zeros s.size
    · have t1 : (((s.size + 1 + k : Nat) : Int) % 64 != 56) = true := by simp; omega
      have hm : (Nat.cast (s.size + 1 + k) : Int) = (s.size : Int) + 1 + (k : Int) := by omega
      rw [hm] at t1 hu
      obtain ⟨g6, c6, w6, hrun, hown, hb6, _⟩ := ownG_new (c := 1) (m := 1) (C := #[.int .u8 0]) Tryz.underlying132 info_u8 rfl (by omega) (by omega) hv rfl (by simp [Value.oneCell']) (by omega) (by omega) hbl.size
      have HO2 := Lib.hid hown
      have HB2 := Lib.hid (hbl.trans hb6)
      clear hown hb6 hzd hm
      go_wp2_with fail
      go_roundw
      case rel => exact ⟨k + 1, by omega, by rw [onez_snoc, ← List.append_assoc, ← cells_snoc _ 0 0 rfl]; exact HO2.out, HB2.out⟩
      case measure => simp [slen]; omega
    · obtain rfl : k = zeros s.size := by omega
      have t1 : (((s.size + 1 + zeros s.size : Nat) : Int) % 64 != 56) = false := by simp; omega
      have hm : (Nat.cast (s.size + 1 + zeros s.size) : Int) = (s.size : Int) + 1 + (zeros s.size : Int) := by omega
      rw [hm] at t1 hu
      clear hzd hm
      go_wp2_with fail
      have hv0 : OwnG wr w.heap.size 5 1 (.slice A' (s.size + 1 + zeros s.size) cap') (s.size + 1 + zeros s.size + 0) (Lib.byteCells (s.data.toList ++ onez (zeros s.size) ++ (lenBytes s.size).take 0)) := by simpa using hv
      go_loopw [3, 5] (fun v i wr => ∃ (j : Nat) (I : Int), j ≤ 8 ∧ I = 56 - 8 * (j : Int) ∧ i = .int .i64 I ∧ OwnG wr w.heap.size 5 1 v (s.size + 1 + zeros s.size + j) (Lib.byteCells (s.data.toList ++ onez (zeros s.size) ++ (lenBytes s.size).take j)) ∧ Below w.heap.size w wr) (fun _ i _ => (intOf i + 8).toNat)
      case atStart => exact ⟨0, 56, by omega, rfl, rfl, hv0, hbl⟩
      case round =>
        obtain ⟨j, I, hj, hI, rfl, hv, hbl⟩ := hrel
        clear hv0
        obtain ⟨A', cap', rfl⟩ := hv.shape
        by_cases hlt : j < 8
        · have hlb : (lenBytes s.size).take (j + 1) = (lenBytes s.size).take j ++ [UInt8.ofNat (s.size * 8 % 18446744073709551616 / 256 ^ (7 - j))] := by
            rw [List.take_succ_eq_append_getElem (by simp [lenBytes]; omega)]
            simp [lenBytes]
          have HLB := Lib.hid hlb
          clear hlb
          have HV := Lib.hid hv
          have HBL := Lib.hid hbl
          have HI := Lib.hid hI
          have i0 : 0 ≤ I := by omega
          have i1 : I < 64 := by omega
          clear hv hbl hI
          obtain ⟨X, hX⟩ : ∃ X : Int, (s.size : Int) * 8 / 2 ^ I.toNat % 256 = X := ⟨_, rfl⟩
          have hXB : X = ((UInt8.ofNat (s.size * 8 % 18446744073709551616 / 256 ^ (7 - j))).toNat : Int) := by
            have e1 : I.toNat = 8 * (7 - j) := by have := HI.out; omega
            rw [← hX, e1, UInt8.toNat_ofNat', Nat.mod_eq_of_lt (by omega : s.size * 8 < 18446744073709551616)]
            have e2 : ((s.size : Int) * 8 / 2 ^ (8 * (7 - j))) = ((s.size * 8 / 2 ^ (8 * (7 - j)) : Nat) : Int) := by
              rw [Int.natCast_ediv, Int.natCast_pow, Int.natCast_mul]; rfl
            rw [e2, Nat.pow_mul, show (2 : Nat) ^ 8 = 256 from rfl]
            generalize s.size * 8 / 256 ^ (7 - j) = q
            omega
          obtain ⟨g6, c6, w6, hrun, hown, hb6, _⟩ := ownG_new (c := 1) (m := 1) (C := #[.int .u8 X]) Tryz.underlying132 info_u8 rfl (by omega) (by omega) HV.out rfl (by simp [Value.oneCell']) (by omega) (by have : zeros s.size < 64 := Nat.mod_lt _ (by omega); omega) HBL.out.size
          have HO2 := Lib.hid hown
          have HB2 := Lib.hid (HBL.out.trans hb6)
          have HXB := Lib.hid hXB
          clear hown hb6 hXB
          go_wp2_with fail
          go_roundw
          case rel =>
            refine ⟨j + 1, I - 8, by omega, by have := HI.out; omega, rfl, ?_, HB2.out⟩
            have h1 := HO2.out
            rw [cells_snoc _ _ X HXB.out] at h1
            rw [HLB.out, ← List.append_assoc]
            exact h1
          case measure => simp [intOf]; omega
        · have hj8 : j = 8 := by omega
          subst hj8
          have hI8 : I = -8 := by omega
          have i0 : ¬ (0 ≤ I) := by omega
          have hz : zeros s.size < 64 := Nat.mod_lt _ (by omega)
          have hpad : s.data.toList ++ onez (zeros s.size) ++ (lenBytes s.size).take 8 = s.data.toList ++ pad s.size := by
            rw [List.take_of_length_le (by simp [lenBytes]), List.append_assoc]; rfl
          have hpl : (s.data.toList ++ pad s.size).length = s.size + 1 + zeros s.size + 8 := by
            rw [List.length_append, hsl, pad]; simp [lenBytes]; omega
          have HV := Lib.hid hv
          have HBL := Lib.hid hbl
          have HP := Lib.hid hpad
          have HL := Lib.hid hpl
          clear hv hbl hpad hpl hI8 hI
          go_wp2_with fail
          go_ret
          refine ⟨_, rfl, ?_, HBL.out⟩
          rw [HL.out, ← HP.out]
          exact HV.out

end R1
end Go.Proofs.YtgfojmbmibgijaaGreatDoor
