/-
  The walks of the statements of layer 13.
-/
import Derived.Test.YtiblljellcgjbaaGearWalks
namespace Go.Proofs.Ytiblljellcgjbaa
open Go.RowKit
namespace Gear

theorem num0 : num 0 = 16294208416658607535 := by decide +kernel
theorem roll10 : roll 1 0 = 16294208416658607537 := by decide +kernel
theorem over00 : over 0 [0, 0] = 11989137102556719373 := by decide +kernel

set_option maxHeartbeats 400000 in
theorem works_true (w : World) :
    Calls Try.prog 15 #[] w fun e w' => e = .returned (.bool true) ∧ Below w.heap.size w w' := by
  go_enter Try.func15, Try.ntmps15
  go_wp2_with fail
  refine (number_any _ (by decide) (by decide) _).mono ?_
  rintro e w' ⟨rfl, rfl⟩
  rw [show ((0 : Int).toNat) = 0 from rfl, num0]
  go_wp2_with fail
  refine (roll_any _ _ (by decide) (by decide) (by decide) _).mono ?_
  rintro e w' ⟨rfl, rfl⟩
  rw [show ((0 : Int).toNat) = 0 from rfl, show ((1 : Int).toNat) = 1 from rfl, roll10]
  go_wp2_with fail
  refine (over_any _ (by decide) _).mono ?_
  rintro e w1 ⟨rfl, hb1⟩
  rw [show over 0 _ = 0 from rfl]
  go_wp2_with fail
  refine (over_any _ (by decide) _).mono ?_
  rintro e w2 ⟨rfl, hb2⟩
  rw [show over 0 _ = 11989137102556719373 from over00]
  go_wp2_with fail
  go_ret
  exact ⟨rfl, hb1.trans (hb2.mono hb1.size)⟩

set_option maxHeartbeats 400000 in
theorem rolls_true (h b : Int) (s : ByteArray) (h0 : (Lit.int .u64 h).wf = true) (b0 : (Lit.int .u8 b).wf = true) (hs : s.size ≤ maxLen) (w : World) :
    Calls Try.prog 4 #[.int .u64 h, .int .u8 b, .string s] w fun e w' => e = .returned (.bool true) ∧ Below w.heap.size w w' := by
  by_cases hlt : 50000 < s.size
  · go_enter Try.func4, Try.ntmps4
    go_wp2_with fail
    go_ret
    exact ⟨rfl, Below.refl _ _⟩
  · have hh := bounds_u64 h0
    have hb := bounds_u8 b0
    clear h0 b0
    go_enter Try.func4, Try.ntmps4
    go_wp2_with fail
    refine (number_any _ hb.1 (by omega) _).mono ?_
    rintro e w' ⟨rfl, rfl⟩
    go_wp2_with fail
    refine (rnumber_any _ hb.1 (by omega) _).mono ?_
    rintro e w' ⟨rfl, rfl⟩
    go_wp2_with fail
    trace_state
    refine (roll_any _ _ hh.1 hb.1 (by omega) _).mono ?_
    rintro e w' ⟨rfl, rfl⟩
    go_wp2_with fail
    refine (rroll_any _ _ hh.1 hb.1 (by omega) _).mono ?_
    rintro e w' ⟨rfl, rfl⟩
    go_wp2_with fail
    refine (over_any _ hs _).mono ?_
    rintro e w1 ⟨rfl, hb1⟩
    go_wp2_with fail
    refine (rover_any _ hs _).mono ?_
    rintro e w2 ⟨rfl, rfl⟩
    go_wp2_with fail
    go_ret
    exact ⟨rfl, hb1⟩

end Gear
end Go.Proofs.Ytiblljellcgjbaa
