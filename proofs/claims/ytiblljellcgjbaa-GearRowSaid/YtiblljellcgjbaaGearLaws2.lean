/-
  The walks of GearNames and GearWindow.
-/
import Derived.Test.YtiblljellcgjbaaGearLaws
import Derived.Test.YtiblljellcgjbaaGearMore
import Derived.Lib.IndexBytes
namespace Go.Proofs.Ytiblljellcgjbaa
open Go.RowKit
namespace Gear

theorem roll_top : roll 9223372036854775808 7 = num 7 := by decide +kernel
theorem over_a : over 0 [97] = num 97 := by decide +kernel

set_option maxRecDepth 100000 in
set_option maxHeartbeats 400000 in
theorem names_true (w : World) :
    Calls Try.prog 3 #[] w fun e w' => e = .returned (.bool true) ∧ Below w.heap.size w w' := by
  go_enter Try.func3, Try.ntmps3
  go_wp2_with fail
  go_loop [1, 2] (fun i _ => ∃ k : Nat, k ≤ 256 ∧ i = .int .i64 k) (fun i _ => 256 - (intOf i).toNat)
  case atStart => exact ⟨0, by omega, rfl⟩
  case round =>
    obtain ⟨k, hk, rfl⟩ := hrel
    by_cases hlt : k < 256
    · go_wp2_with fail
      go_loop [2] (fun j => ∃ m : Nat, m ≤ k ∧ j = .int .i64 m) (fun j => k - (intOf j).toNat)
      case atStart => exact ⟨0, by omega, rfl⟩
      case round =>
        obtain ⟨m, hm, rfl⟩ := hrel
        by_cases hmt : m < k
        · have hne := num_ne hlt hmt
          have HN : ((((num k : Nat) : Int)) == ((num m : Nat) : Int)) = false := by simp; omega
          clear hne
          go_wp2_with fail
          refine (number_any _ (by omega) (by omega) _).mono ?_
          rintro e w' ⟨rfl, rfl⟩
          rw [Int.toNat_natCast]
          go_wp2_with fail
          refine (number_any _ (by omega) (by omega) _).mono ?_
          rintro e w' ⟨rfl, rfl⟩
          rw [Int.toNat_natCast]
          go_wp2_with fail
          go_round
          case rel => exact ⟨m + 1, by omega, by go_num⟩
          case measure => simp [intOf]; omega
        · go_wp2_with fail
          go_round
          case rel => exact ⟨k + 1, by omega, by go_num⟩
          case measure => simp [intOf]; omega
    · go_wp2_with fail
      refine (works_true _).mono ?_
      rintro e w1 ⟨rfl, hb1⟩
      go_wp2_with fail
      refine (roll_any _ _ (by decide) (by decide) (by decide) _).mono ?_
      rintro e w' ⟨rfl, rfl⟩
      rw [show ((9223372036854775808 : Int).toNat) = 9223372036854775808 from rfl, show ((7 : Int).toNat) = 7 from rfl, roll_top]
      go_wp2_with fail
      refine (number_any _ (by decide) (by decide) _).mono ?_
      rintro e w' ⟨rfl, rfl⟩
      rw [show ((7 : Int).toNat) = 7 from rfl]
      go_wp2_with fail
      refine (over_any _ (by decide) _).mono ?_
      rintro e w2 ⟨rfl, hb2⟩
      rw [show over 0 _ = num 97 from over_a]
      go_wp2_with fail
      refine (number_any _ (by decide) (by decide) _).mono ?_
      rintro e w' ⟨rfl, rfl⟩
      rw [show ((97 : Int).toNat) = 97 from rfl]
      go_wp2_with fail
      go_ret
      exact ⟨rfl, hb1.trans (hb2.mono hb1.size)⟩

theorem dbl_succ (x k : Nat) : dbl x (k + 1) = (dbl x k + dbl x k) % M := by rw [dbl]
theorem wdbl (x k : Nat) : IntKind.u64.wrap (((dbl x k : Nat) : Int) + ((dbl x k : Nat) : Int)) = ((dbl x (k + 1) : Nat) : Int) := by
  rw [IntKind.wrap_u64, dbl_succ]; unfold M; omega
theorem wsum {a x y : Nat} (h : a = (x + y) % M) : (((a : Nat) : Int) == IntKind.u64.wrap (((x : Nat) : Int) + ((y : Nat) : Int))) = true := by
  rw [IntKind.wrap_u64, beq_iff_eq, h]; unfold M; omega

set_option maxHeartbeats 800000 in
theorem window_true (h : Int) (a b : ByteArray) (h0 : (Lit.int .u64 h).wf = true) (ha : a.size ≤ maxLen) (hb : b.size ≤ maxLen) (w : World) :
    Calls Try.prog 5 #[.int .u64 h, .string a, .string b] w fun e w' => e = .returned (.bool true) ∧ Below w.heap.size w w' := by
  by_cases hla : 20000 < a.size
  · go_enter Try.func5, Try.ntmps5
    go_wp2_with fail
    refine (works_true _).mono ?_
    rintro e w1 ⟨rfl, hb1⟩
    go_wp2_with fail
    refine (works_true _).mono ?_
    rintro e w2 ⟨rfl, hb2⟩
    go_wp2_with fail
    go_ret
    exact ⟨rfl, hb1.trans (hb2.mono hb1.size)⟩
  · by_cases hlb : 20000 < b.size
    · go_enter Try.func5, Try.ntmps5
      go_wp2_with fail
      refine (works_true _).mono ?_
      rintro e w1 ⟨rfl, hb1⟩
      go_wp2_with fail
      refine (works_true _).mono ?_
      rintro e w2 ⟨rfl, hb2⟩
      go_wp2_with fail
      go_ret
      exact ⟨rfl, hb1.trans (hb2.mono hb1.size)⟩
    · have hda : decide ((20000 : Int) < (a.size : Int)) = false := by simp; omega
      have hdb : decide ((20000 : Int) < (b.size : Int)) = false := by simp; omega
      have hhb := bounds_u64 h0
      have hhM : h.toNat < M := by unfold M; omega
      obtain ⟨h, rfl⟩ := Int.eq_ofNat_of_zero_le hhb.1
      rw [Int.toNat_natCast] at hhM
      have hsz : (a ++ b).size = a.size + b.size := ByteArray.size_append
      have hszb : (a ++ b).size ≤ 40000 := by omega
      have HSZ := Lib.hid hsz
      clear hsz h0 hhb
      go_enter Try.func5, Try.ntmps5
      go_wp2_with fail
      refine (works_true _).mono ?_
      rintro e w1 ⟨rfl, hb1⟩
      go_wp2_with fail
      generalize hC : a ++ b = c at *
      have HC := Lib.hid hC
      clear hC
      go_loop [0, 8] (fun x i => ∃ k : Nat, k ≤ c.size ∧ i = .int .i64 k ∧ x = .int .u64 (over h (c.data.toList.take k) : Nat)) (fun _ i => c.size - (intOf i).toNat)
      case atStart => exact ⟨0, Nat.zero_le _, rfl, rfl⟩
      case round =>
        obtain ⟨k, hk, rfl, rfl⟩ := hrel
        by_cases hlt : k < c.size
        · have hts := take_snoc c.data.toList k (by simpa using hlt)
          have HS : Hid (over h (c.data.toList.take (k + 1)) = roll (over h (c.data.toList.take k)) (c[k]).toNat) := by rw [hts, over_snoc]; rfl
          clear hts
          have hbk : ((c[k].toNat : Nat) : Int) < 256 := by have := c[k].toNat_lt; omega
          have hb0 : (0 : Int) ≤ ((c[k].toNat : Nat) : Int) := by omega
          have hh0 : (0 : Int) ≤ ((over h (c.data.toList.take k) : Nat) : Int) := by omega
          go_wp2_with (go_at_call 16; refine (roll_any _ _ hh0 hb0 hbk _).mono ?_; rintro e w' ⟨rfl, rfl⟩)
          go_round
          case rel => exact ⟨k + 1, by omega, by go_num, by rw [HS.out]⟩
          case measure => simp [intOf]; omega
        · obtain rfl : k = c.size := by omega
          have hfull : c.data.toList.take c.size = c.data.toList := List.take_of_length_le (by simp)
          rw [hfull]
          have HE : Hid (64 ≤ c.size → over h c.data.toList = over 0 ((c.data.toList).drop (c.size - 64))) := fun h64 => by
            have := over_window h hhM c.data.toList (by simpa using h64)
            simpa using this
          have HP : Hid (over 0 c.data.toList = (dbl (over 0 a.data.toList) (min b.data.toList.length 64) + over 0 b.data.toList) % M) := by
            have := over_parts a.data.toList b.data.toList
            rw [← this, ← HC.out]
            exact congrArg (over 0) (by simp)
          clear hfull hlt hk
          have hx0 : (0 : Int) ≤ ((over 0 a.data.toList : Nat) : Int) := by omega
          by_cases h64 : 64 ≤ c.size
          all_goals first
            | (have h65 : 64 ≤ c.size := h64
               go_wp2_with fail
               refine (over_any _ (by unfold maxLen; simp; omega) _).mono ?_
               rintro e w2 ⟨rfl, hb2⟩
               have he : over 0 (c.extract (c.size - 64) c.size).data.toList = over h c.data.toList := by
                 rw [HE.out h64]
                 simp only [ByteArray.data_extract, Array.toList_extract, List.extract_eq_take_drop]
                 rw [List.take_of_length_le (by simp)]
               rw [he]
               clear he h65
               go_wp2_with fail
               refine (over_any _ ha _).mono ?_
               rintro e w3 ⟨rfl, hb3⟩
               have hbb := hb1.trans ((hb2.trans (hb3.mono hb2.size)).mono hb1.size)
               clear hb3
               go_wp2_with fail)
            | (go_wp2_with fail
               refine (over_any _ ha _).mono ?_
               rintro e w3 ⟨rfl, hb3⟩
               have hbb := hb1.trans (hb3.mono hb1.size)
               clear hb3
               go_wp2_with fail)
          all_goals
            go_loop [9, 10] (fun x i => ∃ k : Nat, k ≤ min b.size 64 ∧ i = .int .i64 k ∧ x = .int .u64 (dbl (over 0 a.data.toList) k : Nat)) (fun _ i => 64 - (intOf i).toNat)
            case atStart => exact ⟨0, Nat.zero_le _, rfl, rfl⟩
            case round =>
              obtain ⟨k, hk, rfl, rfl⟩ := hrel
              have hw : IntKind.u64.wrap (((dbl (over 0 a.data.toList) k : Nat) : Int) + ((dbl (over 0 a.data.toList) k : Nat) : Int)) = ((dbl (over 0 a.data.toList) (k + 1) : Nat) : Int) := wdbl _ _
              have HW := Lib.hid hw
              clear hw
              by_cases hkb : k < b.size
              · by_cases hk6 : k < 64
                · go_wp2_with fail
                  go_round
                  case rel => exact ⟨k + 1, by omega, by go_num, by rw [HW.out]⟩
                  case measure => simp [intOf]; omega
                · obtain rfl : k = 64 := by omega
                  have hmin : min b.data.toList.length 64 = 64 := by simp; omega
                  rw [hmin] at HP
                  go_wp2_with fail
                  refine (over_any _ (by unfold maxLen; omega) _).mono ?_
                  rintro e w4 ⟨rfl, hb4⟩
                  go_wp2_with fail
                  refine (over_any _ hb _).mono ?_
                  rintro e w5 ⟨rfl, hb5⟩
                  have hwq := wsum HP.out
                  go_wp2_with fail
                  go_ret
                  exact ⟨rfl, hbb.trans ((hb4.trans (hb5.mono hb4.size)).mono hbb.size)⟩
              · obtain rfl : k = b.size := by omega
                have hmin : min b.data.toList.length 64 = b.size := by simp; omega
                rw [hmin] at HP
                go_wp2_with fail
                refine (over_any _ (by unfold maxLen; omega) _).mono ?_
                rintro e w4 ⟨rfl, hb4⟩
                go_wp2_with fail
                refine (over_any _ hb _).mono ?_
                rintro e w5 ⟨rfl, hb5⟩
                have hwq := wsum HP.out
                go_wp2_with fail
                go_ret
                exact ⟨rfl, hbb.trans ((hb4.trans (hb5.mono hb4.size)).mono hbb.size)⟩

end Gear
end Go.Proofs.Ytiblljellcgjbaa
