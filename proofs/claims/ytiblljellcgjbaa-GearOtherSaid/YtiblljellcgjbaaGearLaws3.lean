/-
  The walks of GearOther and GearRow.
-/
import Derived.Test.YtiblljellcgjbaaGearLaws2
namespace Go.Proofs.Ytiblljellcgjbaa
open Go.RowKit
namespace Gear

theorem wdbl2 (x k : Nat) : IntKind.u64.wrap (2 * ((dbl x k : Nat) : Int)) = ((dbl x (k + 1) : Nat) : Int) := by
  rw [IntKind.wrap_u64, dbl_succ]; unfold M; omega

/-- 'string([]byte{x})' -/
theorem conv_one (x : Nat) (W : World) :
    (convert 29 9 (.slice (some ⟨W.heap.size, 0, none⟩) 1 1)).run Try.prog (W.alloc (.cells #[.int .u8 (x : Int)] 5)) = .ok (.string ⟨#[UInt8.ofNat x]⟩) (W.alloc (.cells #[.int .u8 (x : Int)] 5)) := by
  have h := run_convert_bytes_arg (P := Try.prog) (W.alloc (.cells #[.int .u8 (x : Int)] 5)) 29 5 Try.underlying29 Try.underlying5 W.heap.size 0 1 1 [(x : Int)] rfl (fun i hi => by
    obtain rfl : i = 0 := by omega
    exact (cell_new_l W (.int .u8 (x : Int)) 5).1) 9 Try.underlying9
  rw [h]
  simp [strOfNums]

theorem size_one (x : UInt8) : (ByteArray.mk #[x]).size = 1 := rfl
theorem data_three (p q : ByteArray) (x : Nat) : (p ++ (ByteArray.mk #[UInt8.ofNat x]) ++ q).data.toList = p.data.toList ++ [UInt8.ofNat x] ++ q.data.toList := by simp
theorem other_fin (p q : List UInt8) (x y d : Nat) (hx : x < 256) (hy : y < 256) (hd : IntKind.u64.wrap (((num x : Nat) : Int) - ((num y : Nat) : Int)) = (d : Int)) :
    (IntKind.u64.wrap (((over 0 (p ++ [UInt8.ofNat x] ++ q) : Nat) : Int) - ((over 0 (p ++ [UInt8.ofNat y] ++ q) : Nat) : Int)) == ((dbl d (min q.length 64) : Nat) : Int)) = true ∧
    (over 0 (p ++ [UInt8.ofNat x] ++ q) = over 0 (p ++ [UInt8.ofNat y] ++ q) ↔ dbl d (min q.length 64) = 0) := by
  have ex : (UInt8.ofNat x).toNat = x := by simp; omega
  have ey : (UInt8.ofNat y).toNat = y := by simp; omega
  have h := over_other p q (UInt8.ofNat x) (UInt8.ofNat y)
  rw [ex, ey] at h
  rw [IntKind.wrap_u64] at hd
  have hM : ((M : Nat) : Int) = 18446744073709551616 := by unfold M; rfl
  have lx := over_lt 0 M_pos (p ++ [UInt8.ofNat x] ++ q)
  have ly := over_lt 0 M_pos (p ++ [UInt8.ofNat y] ++ q)
  rw [hM, hd, Int.toNat_natCast] at h
  generalize over 0 (p ++ [UInt8.ofNat x] ++ q) = A at *
  generalize over 0 (p ++ [UInt8.ofNat y] ++ q) = B at *
  generalize dbl d (min q.length 64) = D at *
  have hMn : M = 18446744073709551616 := by unfold M; rfl
  rw [IntKind.wrap_u64, beq_iff_eq]
  refine ⟨h, ?_⟩
  omega

set_option maxHeartbeats 1600000 in
theorem other_true (p : ByteArray) (x y : Int) (q : ByteArray) (_hp : p.size ≤ maxLen) (x0 : (Lit.int .u8 x).wf = true) (y0 : (Lit.int .u8 y).wf = true) (_hq : q.size ≤ maxLen) (w : World) :
    Calls Try.prog 6 #[.string p, .int .u8 x, .int .u8 y, .string q] w fun e w' => e = .returned (.bool true) ∧ Below w.heap.size w w' := by
  by_cases hla : 20000 < p.size
  · go_enter Try.func6, Try.ntmps6
    go_wp2_with fail
    refine (works_true _).mono ?_
    rintro e w1 ⟨rfl, hb1⟩
    go_wp2_with fail
    refine (works_true _).mono ?_
    rintro e w2 ⟨rfl, hb2⟩
    go_wp2_with fail
    go_ret
    exact ⟨rfl, hb1.trans (hb2.mono hb1.size)⟩
  · by_cases hlb : 20000 < q.size
    · go_enter Try.func6, Try.ntmps6
      go_wp2_with fail
      refine (works_true _).mono ?_
      rintro e w1 ⟨rfl, hb1⟩
      go_wp2_with fail
      refine (works_true _).mono ?_
      rintro e w2 ⟨rfl, hb2⟩
      go_wp2_with fail
      go_ret
      exact ⟨rfl, hb1.trans (hb2.mono hb1.size)⟩
    · have hda : decide ((20000 : Int) < (p.size : Int)) = false := by simp; omega
      have hdb : decide ((20000 : Int) < (q.size : Int)) = false := by simp; omega
      have hx := bounds_u8 x0
      have hy := bounds_u8 y0
      obtain ⟨x, rfl⟩ := Int.eq_ofNat_of_zero_le hx.1
      obtain ⟨y, rfl⟩ := Int.eq_ofNat_of_zero_le hy.1
      clear x0 y0
      have kx := conv_one x
      have ky := conv_one y
      go_enter Try.func6, Try.ntmps6
      go_wp2_with fail
      refine (works_true _).mono ?_
      rintro e w1 ⟨rfl, hb1⟩
      go_wp2_with fail
      refine (number_any _ hx.1 (by omega) _).mono ?_
      rintro e w' ⟨rfl, rfl⟩
      rw [Int.toNat_natCast]
      go_wp2_with fail
      refine (number_any _ hy.1 (by omega) _).mono ?_
      rintro e w' ⟨rfl, rfl⟩
      rw [Int.toNat_natCast]
      have hd0 : ∃ d : Nat, IntKind.u64.wrap (((num x : Nat) : Int) - ((num y : Nat) : Int)) = (d : Int) := by
        rw [IntKind.wrap_u64]; exact ⟨_, (Int.toNat_of_nonneg (Int.emod_nonneg _ (by decide))).symm⟩
      obtain ⟨d, hd⟩ := hd0
      have HD := Lib.hid hd
      go_wp2_with fail
      clear hd
      go_loop [9, 10] (fun v i => ∃ k : Nat, k ≤ min q.size 64 ∧ i = .int .i64 k ∧ v = .int .u64 (dbl d k : Nat)) (fun _ i => 64 - (intOf i).toNat)
      case atStart => exact ⟨0, Nat.zero_le _, rfl, rfl⟩
      case round =>
        obtain ⟨k, hk, rfl, rfl⟩ := hrel
        have HW := Lib.hid (wdbl2 d k)
        by_cases hkb : k < q.size
        · by_cases hk6 : k < 64
          · go_wp2_with fail
            go_round
            case rel => exact ⟨k + 1, by omega, by go_num, by rw [HW.out]⟩
            case measure => simp [intOf]; omega
          · obtain rfl : k = 64 := by omega
            go_wp2_with fail
            refine (over_any _ (by unfold maxLen; simp [ByteArray.size_append, size_one]; omega) _).mono ?_
            rintro e w2 ⟨rfl, hb2⟩
            rw [data_three p q x]
            generalize hA : over 0 (p.data.toList ++ [UInt8.ofNat x] ++ q.data.toList) = AA at *
            have HA := Lib.hid hA
            clear hA
            go_wp2_with fail
            refine (over_any _ (by unfold maxLen; simp [ByteArray.size_append, size_one]; omega) _).mono ?_
            rintro e w3 ⟨rfl, hb3⟩
            rw [data_three p q y]
            generalize hB : over 0 (p.data.toList ++ [UInt8.ofNat y] ++ q.data.toList) = BB at *
            have HB := Lib.hid hB
            clear hB
            have hfin := other_fin p.data.toList q.data.toList x y d (by omega) (by omega) HD.out
            rw [HA.out, HB.out, show min q.data.toList.length 64 = 64 from by simp; omega] at hfin
            obtain ⟨f1, f2⟩ := hfin
            generalize dbl d 64 = DD at *
            have hbb : Below w.heap.size w w3 := hb1.trans (((((Below.refl _ w1).alloc (Nat.le_refl _) _).trans (hb2.mono (by simp))).trans (((Below.refl _ w2).alloc (Nat.le_refl _) _).mono (by have := hb2.size; simp at this; omega)) |>.trans (hb3.mono (by have := hb2.size; simp at this ⊢; omega))).mono hb1.size)
            by_cases hab : AA = BB
            all_goals
              first
                | (have g1 : (((AA : Nat) : Int) == ((BB : Nat) : Int)) = true := by simp; omega
                   have g2 : (((DD : Nat) : Int) == 0) = true := by simp; omega
                   clear f2 hab hb1 hb2 hb3
                   go_wp2_with fail
                   go_ret
                   exact ⟨rfl, hbb⟩)
                | (have g1 : (((AA : Nat) : Int) == ((BB : Nat) : Int)) = false := by simp; omega
                   have g2 : (((DD : Nat) : Int) == 0) = false := by simp; omega
                   clear f2 hab hb1 hb2 hb3
                   go_wp2_with fail
                   go_ret
                   exact ⟨rfl, hbb⟩)
        · obtain rfl : k = q.size := by omega
          go_wp2_with fail
          refine (over_any _ (by unfold maxLen; simp [ByteArray.size_append, size_one]; omega) _).mono ?_
          rintro e w2 ⟨rfl, hb2⟩
          rw [data_three p q x]
          generalize hA : over 0 (p.data.toList ++ [UInt8.ofNat x] ++ q.data.toList) = AA at *
          have HA := Lib.hid hA
          clear hA
          go_wp2_with fail
          refine (over_any _ (by unfold maxLen; simp [ByteArray.size_append, size_one]; omega) _).mono ?_
          rintro e w3 ⟨rfl, hb3⟩
          rw [data_three p q y]
          generalize hB : over 0 (p.data.toList ++ [UInt8.ofNat y] ++ q.data.toList) = BB at *
          have HB := Lib.hid hB
          clear hB
          have hfin := other_fin p.data.toList q.data.toList x y d (by omega) (by omega) HD.out
          rw [HA.out, HB.out, show min q.data.toList.length 64 = q.size from by simp; omega] at hfin
          obtain ⟨f1, f2⟩ := hfin
          generalize dbl d q.size = DD at *
          have hbb : Below w.heap.size w w3 := hb1.trans (((((Below.refl _ w1).alloc (Nat.le_refl _) _).trans (hb2.mono (by simp))).trans (((Below.refl _ w2).alloc (Nat.le_refl _) _).mono (by have := hb2.size; simp at this; omega)) |>.trans (hb3.mono (by have := hb2.size; simp at this ⊢; omega))).mono hb1.size)
          by_cases hab : AA = BB
          all_goals
            first
              | (have g1 : (((AA : Nat) : Int) == ((BB : Nat) : Int)) = true := by simp; omega
                 have g2 : (((DD : Nat) : Int) == 0) = true := by simp; omega
                 clear f2 hab hb1 hb2 hb3
                 go_wp2_with fail
                 go_ret
                 exact ⟨rfl, hbb⟩)
              | (have g1 : (((AA : Nat) : Int) == ((BB : Nat) : Int)) = false := by simp; omega
                 have g2 : (((DD : Nat) : Int) == 0) = false := by simp; omega
                 clear f2 hab hb1 hb2 hb3
                 go_wp2_with fail
                 go_ret
                 exact ⟨rfl, hbb⟩)

end Gear
end Go.Proofs.Ytiblljellcgjbaa
