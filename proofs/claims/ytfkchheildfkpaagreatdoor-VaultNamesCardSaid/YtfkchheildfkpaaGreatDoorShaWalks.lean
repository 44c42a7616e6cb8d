/-
 The walks of package sha.
-/
import Derived.Test.YtfkchheildfkpaaGreatDoorProg
import Derived.Test.YtfkchheildfkpaaGreatDoorMem
import Derived.Test.YtfkchheildfkpaaGreatDoorRow
import Derived.Test.YtfkchheildfkpaaGreatDoorShaBits
import Derived.Test.YtfkchheildfkpaaGreatDoorShelf
import Derived.WalkKit
import Derived.WalkLawsBesides
import Derived.WalkSpells
import Derived.Lib.Hide
import Derived.Handy
import Derived.Deep.QuietTactic
import Derived.BigQuiet
namespace Go.Proofs.YtfkchheildfkpaaGreatDoor
open Go.RowKit
namespace Sha
theorem rot_any (x : Int) (k : Nat) (_h0 : 0 ≤ x) (_h1 : x < 4294967296) (hn : 1 ≤ k) (hn' : k ≤ 31) (w : World) :
   Calls Tryz.prog 410 #[.int .u32 x, .int .i64 (-(k : Int))] w fun e w' => e = .returned (.int .u32 (rotr x k)) ∧ w = w' := by
 have hs := turn_mask k hn hn'
 have h3 : IntKind.u64.wrap (32 - (32 - (k : Int))) = (k : Int) := by rw [IntKind.wrap_u64]; omega
 go_enter Tryz.func410, Tryz.ntmps410
 go_wp2_with fail
 go_ret
 exact ⟨rfl, rfl⟩
theorem turn_any (x : Int) (k : Nat) (h0 : 0 ≤ x) (h1 : x < 4294967296) (hn : 1 ≤ k) (hn' : k ≤ 31) (w : World) :
   Calls Tryz.prog 372 #[.int .u32 x, .int .i64 (k : Int)] w fun e w' => e = .returned (.int .u32 (rotr x k)) ∧ w = w' := by
 have hR := Lib.hid (rot_any x k h0 h1 hn hn' w)
 have hk : IntKind.i64.wrap (-(k : Int)) = -(k : Int) := by rw [IntKind.wrap_i64]; omega
 go_enter Tryz.func372, Tryz.ntmps372
 go_wp2_with (first | (go_at_call 410; refine hR.out.mono ?_; rintro e w' ⟨rfl, rfl⟩))
 go_ret
 exact ⟨rfl, rfl⟩
set_option maxRecDepth 100000 in
set_option maxHeartbeats 1000000 in
theorem prime_any (n : Int) (h0 : 0 ≤ n) (h1 : n < 4096) (w : World) :
   Calls Tryz.prog 319 #[.int .u64 n] w fun e w' => e = .returned (.bool (isPrime n.toNat)) ∧ w = w' := by
 obtain ⟨n, rfl⟩ := Int.eq_ofNat_of_zero_le h0
 rw [Int.toNat_natCast]
 go_enter Tryz.func319, Tryz.ntmps319
 go_wp2_with fail
 go_loop [3] (fun v => ∃ d : Nat, v = .int .u64 (d : Int) ∧ 2 ≤ d ∧ d ≤ 66 ∧ isPrime n = primeF n 4096 d) (fun v => 70 - (intOf v).toNat)
 case atStart => exact ⟨2, rfl, by omega, by omega, prime_start n (by omega)⟩
 case round =>
   obtain ⟨d, rfl, hd2, hd66, hp⟩ := hrel
   have hdd : d * d ≤ 66 * 66 := Nat.mul_le_mul hd66 hd66
   by_cases hle : d * d ≤ n
   · have t1 : ((d : Int) * (d : Int) ≤ (n : Int)) := by rw [← Int.natCast_mul]; omega
     have hd64 : d ≤ 64 := by
       rcases Nat.lt_or_ge d 65 with h | h
       · omega
       · have := Nat.mul_le_mul h h; omega
     have hf : primeF n 4096 d = if n % d = 0 then false else primeF n 4095 (d + 1) := by rw [primeF, if_pos hle]
     have hf2 : primeF n 4095 (d + 1) = primeF n 4096 (d + 1) := by
       have h3 : (d + 1 + 4095) * 2 ≤ (d + 1 + 4095) * (d + 1 + 4095) := Nat.mul_le_mul (by omega) (by omega)
       have h4 : (d + 1 + 4096) * 2 ≤ (d + 1 + 4096) * (d + 1 + 4096) := Nat.mul_le_mul (by omega) (by omega)
       exact primeF_more n 4096 4095 (d + 1) (by omega) (by omega)
     by_cases hz : n % d = 0
     · have t2 : ((n : Int) % (d : Int) == 0) = true := by rw [beq_iff_eq, ← Int.natCast_emod, hz]; rfl
       rw [if_pos hz] at hf
       have hq := Lib.hid (hp.trans hf); clear hp
       clear hf hf2
       go_wp2_with fail
       go_ret
       exact ⟨by rw [hq.out]; rfl, rfl⟩
     · have t2 : ((n : Int) % (d : Int) == 0) = false := by rw [beq_eq_false_iff_ne, ← Int.natCast_emod]; omega
       rw [if_neg hz, hf2] at hf
       have hq := Lib.hid (hp.trans hf); clear hp
       clear hf hf2
       go_wp2_with fail
       go_round
       case rel => exact ⟨d + 1, by go_num, by omega, by omega, hq.out⟩
       case measure => simp [intOf]; omega
   · have t1 : ¬ ((d : Int) * (d : Int) ≤ (n : Int)) := by rw [← Int.natCast_mul]; omega
     have hq := Lib.hid (hp.trans (primeF_end n 4096 d (by omega))); clear hp
     go_wp2_with fail
     go_ret
     exact ⟨by rw [hq.out]; rfl, rfl⟩
set_option maxRecDepth 100000 in
set_option maxHeartbeats 1000000 in
theorem over_any (x n : Nat) (cubed : Bool) (hx : x < 68719476736) (hn : n < 4096) (w : World) :
   Calls Tryz.prog 320 #[.int .u64 (x : Int), .int .u64 (n : Int), .bool cubed] w fun e w' => e = .returned (.bool (overB x n cubed)) ∧ w = w' := by
 have H1 := Tryz.bits_Mul64 x x (by omega) (by omega) w
 obtain ⟨hi, hhi⟩ : ∃ hi, x * x / 18446744073709551616 = hi := ⟨_, rfl⟩
 obtain ⟨lo, hlo⟩ : ∃ lo, x * x % 18446744073709551616 = lo := ⟨_, rfl⟩
 have e1 : x * x = hi * 18446744073709551616 + lo := by omega
 have hlo' : lo < 18446744073709551616 := by omega
 have hxx : x * x ≤ 68719476735 * 68719476735 := Nat.mul_le_mul (by omega) (by omega)
 have hhi' : hi < 256 := by omega
 rw [hhi, hlo] at H1
 have H1 := Lib.hid H1
 cases cubed with
 | false =>
   have hr := Lib.hid (over_sq x n hi lo e1 hlo')
   clear e1 hxx hhi hlo
   go_enter Tryz.func320, Tryz.ntmps320
   by_cases h1 : n < hi
   · have t1 : decide ((n : Int) < (hi : Int)) = true := by simp; omega
     go_wp2_with (first | (go_at_call 370; refine H1.out.mono ?_; rintro e w' ⟨rfl, rfl⟩))
     go_ret
     exact ⟨by rw [hr.out]; simp [h1], rfl⟩
   · have t1 : decide ((n : Int) < (hi : Int)) = false := by simp; omega
     by_cases h2 : hi = n
     · have t2 : ((hi : Int) == (n : Int)) = true := by simp; omega
       go_wp2_with (first | (go_at_call 370; refine H1.out.mono ?_; rintro e w' ⟨rfl, rfl⟩))
       go_ret
       refine ⟨?_, rfl⟩
       rw [hr.out]; simp [h2]
     · have t2 : ((hi : Int) == (n : Int)) = false := by simp; omega
       go_wp2_with (first | (go_at_call 370; refine H1.out.mono ?_; rintro e w' ⟨rfl, rfl⟩))
       go_ret
       exact ⟨by rw [hr.out]; simp [h1, h2], rfl⟩
 | true =>
   have H2 := Tryz.bits_Mul64 lo x (by omega) (by omega) w
   obtain ⟨t, ht⟩ : ∃ t, lo * x / 18446744073709551616 = t := ⟨_, rfl⟩
   obtain ⟨l, hl⟩ : ∃ l, lo * x % 18446744073709551616 = l := ⟨_, rfl⟩
   rw [ht, hl] at H2
   have H2 := Lib.hid H2
   have e2 : lo * x = t * 18446744073709551616 + l := by omega
   have hlx : lo * x ≤ 18446744073709551615 * 68719476736 := Nat.mul_le_mul (by omega) (by omega)
   have hhx : hi * x ≤ 256 * 68719476736 := Nat.mul_le_mul (by omega) (by omega)
   have ht' : t ≤ 68719476736 := by omega
   have hr := Lib.hid (over_cube x n hi lo t l e1 e2 (by omega))
   obtain ⟨q, hq⟩ : ∃ q, hi * x = q := ⟨_, rfl⟩
   have hqi : (hi : Int) * (x : Int) = (q : Int) := by rw [← hq, Int.natCast_mul]
   rw [hq] at hhx hr
   clear e1 e2 hxx hhi hlo ht hl hlx hq
   go_enter Tryz.func320, Tryz.ntmps320
   by_cases h1 : n * 4294967296 < t + q
   · have t1 : decide ((n : Int) * 4294967296 < (t : Int) + (q : Int)) = true := by simp; omega
     go_wp2_with (first | (go_at_call 370; first | (with_reducible refine H1.out.mono ?_; rintro e w' ⟨rfl, rfl⟩) | (refine H2.out.mono ?_; rintro e w' ⟨rfl, rfl⟩)))
     go_ret
     exact ⟨by rw [hr.out]; simp [h1], rfl⟩
   · have t1 : decide ((n : Int) * 4294967296 < (t : Int) + (q : Int)) = false := by simp; omega
     by_cases h2 : t + q = n * 4294967296
     · have t2 : ((t : Int) + (q : Int) == (n : Int) * 4294967296) = true := by simp; omega
       go_wp2_with (first | (go_at_call 370; first | (with_reducible refine H1.out.mono ?_; rintro e w' ⟨rfl, rfl⟩) | (refine H2.out.mono ?_; rintro e w' ⟨rfl, rfl⟩)))
       go_ret
       refine ⟨?_, rfl⟩
       rw [hr.out]; simp [h2]
     · have t2 : ((t : Int) + (q : Int) == (n : Int) * 4294967296) = false := by simp; omega
       go_wp2_with (first | (go_at_call 370; first | (with_reducible refine H1.out.mono ?_; rintro e w' ⟨rfl, rfl⟩) | (refine H2.out.mono ?_; rintro e w' ⟨rfl, rfl⟩)))
       go_ret
       exact ⟨by rw [hr.out]; simp [h1, h2], rfl⟩
end Sha
end Go.Proofs.YtfkchheildfkpaaGreatDoor
