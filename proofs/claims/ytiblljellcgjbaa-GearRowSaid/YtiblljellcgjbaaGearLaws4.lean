/-
  The walk of GearRow.
-/
import Derived.Test.YtiblljellcgjbaaGearLaws2
import Derived.Test.YtiblljellcgjbaaMem
namespace Go.Proofs.Ytiblljellcgjbaa
open Go.RowKit
namespace Gear

theorem over_row (x : UInt8) (n : Nat) : (over 0 (List.replicate n x) + num x.toNat) % M = 2 ^ n * num x.toNat % M := by
  induction n with
  | zero => simp [over_nil]
  | succ n ih =>
    rw [List.replicate_succ', over_snoc]
    have e1 : (roll (over 0 (List.replicate n x)) x.toNat + num x.toNat) % M = (1 * roll (over 0 (List.replicate n x)) x.toNat + num x.toNat) % M := by rw [Nat.one_mul]
    rw [e1, cong (roll_mod _ _)]
    have e2 : (1 * (2 * over 0 (List.replicate n x) + num x.toNat) + num x.toNat) = 2 * (over 0 (List.replicate n x) + num x.toNat) + 0 := by omega
    rw [e2, cong ih, Nat.pow_succ]
    congr 1
    generalize 2 ^ n = t
    grind

theorem row_fin (x : UInt8) (n : Nat) (p : Int) (hp : p = if n < 64 then ((2 ^ n : Nat) : Int) else 0) :
    (((over 0 (List.replicate n x) : Nat) : Int) == IntKind.u64.wrap (((num x.toNat : Nat) : Int) * IntKind.u64.wrap (p - 1))) = true := by
  have h := over_row x n
  have lo := over_lt 0 M_pos (List.replicate n x)
  have ln := num_lt x.toNat
  have hc : 2 ^ n * num x.toNat % M = (if n < 64 then 2 ^ n else 0) * num x.toNat % M := by
    by_cases h6 : n < 64
    · rw [if_pos h6]
    · rw [if_neg h6, pow64 n (by omega), Nat.zero_mul, Nat.zero_mod]
  rw [hc] at h
  generalize over 0 (List.replicate n x) = A at *
  generalize num x.toNat = N at *
  have hq : p = ((if n < 64 then 2 ^ n else 0 : Nat) : Int) := by rw [hp]; split <;> simp
  generalize (if n < 64 then 2 ^ n else 0 : Nat) = q at *
  subst hq
  have hM : ((M : Nat) : Int) = 18446744073709551616 := by unfold M; rfl
  have h2 : ((A : Int) + (N : Int)) % 18446744073709551616 = ((q : Int) * (N : Int)) % 18446744073709551616 := by
    have := congrArg (fun k : Nat => (k : Int)) h
    simpa [hM] using this
  rw [IntKind.wrap_u64, IntKind.wrap_u64, beq_iff_eq, Int.mul_emod, Int.emod_emod_of_dvd _ (Int.dvd_refl _), ← Int.mul_emod]
  have e : (N : Int) * ((q : Int) - 1) = (q : Int) * (N : Int) - (N : Int) := by grind
  have hA : (A : Int) < 18446744073709551616 := by omega
  rw [e]
  generalize (q : Int) * (N : Int) = Z at *
  omega

theorem mk29 (n : Nat) (hn : n < 300) (W : World) :
    (Instr.makeSlice 29 (.int .i64 (n : Int)) (.int .i64 (n : Int))).run Try.prog W = .ok (.slice (some ⟨W.heap.size, 0, none⟩) n n) (W.alloc (.cells (nums (List.replicate n 0)) 5)) := by
  rw [run_mk (P := Try.prog) (z := .int .u8 0) (bytes := 1) Try.underlying29 (by kernel_rfl) rfl n (by omega) (by omega) W, nums_zero]

theorem row_step (x : UInt8) (m k : Nat) (h : k < m) : (List.replicate k x ++ List.replicate (m - k) 0).set k x = List.replicate (k + 1) x ++ List.replicate (m - (k + 1)) 0 := by
  rw [List.set_append_right _ _ (by simp), List.length_replicate, Nat.sub_self, show m - k = (m - (k + 1)) + 1 by omega, List.replicate_succ, List.set_cons_zero, List.replicate_succ']
  simp

set_option maxHeartbeats 1600000 in
theorem row_true (x n : Int) (x0 : (Lit.int .u8 x).wf = true) (_n0 : (Lit.int .i64 n).wf = true) (w : World) :
    Calls Try.prog 7 #[.int .u8 x, .int .i64 n] w fun e w' => e = .returned (.bool true) ∧ Below w.heap.size w w' := by
  have hx := bounds_u8 x0
  obtain ⟨x, rfl⟩ : ∃ b : UInt8, x = (b.toNat : Int) := ⟨UInt8.ofNat x.toNat, by simp; omega⟩
  obtain ⟨m, hm, hmm⟩ : ∃ m : Nat, m < 300 ∧ wrap64 ((IntKind.u64.wrap n).tmod 300) = (m : Int) := by
    have h0 : 0 ≤ IntKind.u64.wrap n := by rw [IntKind.wrap_u64]; omega
    rw [Int.tmod_eq_emod_of_nonneg h0]
    generalize IntKind.u64.wrap n = q at *
    refine ⟨(q % 300).toNat, by omega, ?_⟩
    rw [IntWalk.wrap64_in _ (by omega)]
    omega
  have hk := mk29 m hm
  clear x0 _n0
  go_enter Try.func7, Try.ntmps7
  go_wp2_with fail
  refine (works_true _).mono ?_
  rintro e w1 ⟨rfl, hb1⟩
  go_wp2_with fail
  clear hmm hk
  have hB := Blk.new w1 5 (nums (List.replicate m 0))
  go_loopw [6] (fun i wr => ∃ k : Nat, k ≤ m ∧ i = .int .i64 k ∧ Blk wr w1.heap.size 5 (nums (List.replicate k x ++ List.replicate (m - k) 0)) ∧ Below w.heap.size w wr) (fun i _ => m - (intOf i).toNat)
  case atStart => exact ⟨0, Nat.zero_le _, rfl, by simpa using hB, hb1.alloc hb1.size _⟩
  case round =>
    obtain ⟨k, hk, rfl, hB1, hb2⟩ := hrel
    by_cases hlt : k < m
    · have hc := hB1.cell k
      have hf := hB1.frozen k
      rw [nums_get _ _ (by simp; omega)] at hc
      have HB := hB1.set_ k (.int .u8 (x.toNat : Int))
      rw [nums_set, row_step x m k hlt] at HB
      have HBH := Lib.hid HB
      clear HB hB hB1
      go_wp2_with fail
      go_roundw
      case rel => exact ⟨k + 1, by omega, by go_num, HBH.out, hb2.setCell (p := ⟨_, _, none⟩) hb1.size _⟩
      case measure => simp [intOf]; omega
    · obtain rfl : k = m := by omega
      have hB2 : Blk wr w1.heap.size 5 (nums (List.replicate k x) ++ #[]) := by simpa using hB1
      have ht := run_text (P := Try.prog) Try.underlying29 Try.underlying5 Try.underlying9 (cap := k) hB2
      rw [List.length_replicate] at ht
      clear hB hB1 hB2 hlt
      have hfin := row_fin x k
      by_cases h64 : k < 64
      · have hp : IntKind.u64.wrap (2 ^ k) = ((2 ^ k : Nat) : Int) := by
          have h : 2 ^ k < 2 ^ 64 := Nat.pow_lt_pow_right (by omega) h64
          have e : ((2 : Int) ^ k) = ((2 ^ k : Nat) : Int) := by simp
          rw [IntKind.wrap_u64, e]
          generalize 2 ^ k = q at *
          omega
        have f := hfin ((2 ^ k : Nat) : Int) (by rw [if_pos h64])
        rw [← hp] at f
        clear hp hfin
        have F := Lib.hid f
        clear f
        go_wp2_with fail
        refine (over_any _ (by unfold maxLen; simp [ByteArray.size]; omega) _).mono ?_
        rintro e w2 ⟨rfl, hb3⟩
        rw [show (ByteArray.mk (Array.replicate k x)).data.toList = List.replicate k x by simp]
        go_wp2_with fail
        refine (number_any _ hx.1 (by omega) _).mono ?_
        rintro e w' ⟨rfl, rfl⟩
        rw [Int.toNat_natCast]
        have f := F.out
        clear ht
        go_wp2_with fail
        go_ret
        exact ⟨rfl, hb2.trans (hb3.mono hb2.size)⟩
      · have f := hfin 0 (by rw [if_neg h64])
        rw [show ((0 : Int) - 1) = -1 from rfl] at f
        clear hfin
        go_wp2_with fail
        refine (over_any _ (by unfold maxLen; simp [ByteArray.size]; omega) _).mono ?_
        rintro e w2 ⟨rfl, hb3⟩
        rw [show (ByteArray.mk (Array.replicate k x)).data.toList = List.replicate k x by simp]
        go_wp2_with fail
        refine (number_any _ hx.1 (by omega) _).mono ?_
        rintro e w' ⟨rfl, rfl⟩
        rw [Int.toNat_natCast]
        clear ht
        go_wp2_with fail
        go_ret
        exact ⟨rfl, hb2.trans (hb3.mono hb2.size)⟩

end Gear
end Go.Proofs.Ytiblljellcgjbaa
