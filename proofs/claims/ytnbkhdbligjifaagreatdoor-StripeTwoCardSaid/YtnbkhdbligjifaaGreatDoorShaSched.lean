/-
 Plain words for SHA-256: turned words, primes, roots. No program is named. The walks of package sha. The walks of package sha: the roots' bits, the primes. Plain words for SHA-256: the words of a block. No program is named.
-/
import Derived.WalkKit
import Derived.WalkLawsBesides
import Derived.WalkSpells
import Derived.Lib.Hide
import Derived.Handy
import Derived.Laws.BitsAllLaws
import Derived.Laws.Closers25b
import Derived.Test.YtnbkhdbligjifaaGreatDoorProg
import Derived.Test.YtnbkhdbligjifaaGreatDoorMem
import Derived.Test.YtnbkhdbligjifaaGreatDoorVMaps
import Derived.Test.YtnbkhdbligjifaaGreatDoorShdName
import Derived.Deep.QuietTactic
import Derived.BigQuiet
set_option linter.unusedVariables false
set_option linter.unusedSimpArgs false
set_option maxRecDepth 100000
set_option maxHeartbeats 40000000
namespace Go.Proofs.YtnbkhdbligjifaaGreatDoor
open Go.RowKit
namespace Sha
def rotr (x : Int) (n : Nat) : Int := bits .or .u32 (x * 2 ^ (32 - n) % 4294967296) (x / 2 ^ n)
theorem turn_mask (k : Nat) (h1 : 1 ≤ k) (h2 : k ≤ 31) : bits .and .u64 (IntKind.u64.wrap (-(k : Int))) 31 = 32 - (k : Int) := by
 rw [IntKind.wrap_u64, u64_and _ _ (by omega) (by omega) (by omega) (by omega), show Int.toNat 31 = 31 from rfl, nat_mask5]
 omega
def primeF (n : Nat) : Nat → Nat → Bool
 | 0, _ => true
 | f + 1, d => if d * d ≤ n then (if n % d = 0 then false else primeF n f (d + 1)) else true
def isPrime (n : Nat) : Bool := primeF n n 2
theorem primeF_end (n f d : Nat) (h : n < d * d) : primeF n f d = true := by
 cases f with
 | zero => rfl
 | succ f => rw [primeF, if_neg (by omega)]
theorem primeF_more (n f g d : Nat) (h1 : n < (d + f) * (d + f)) (h2 : n < (d + g) * (d + g)) : primeF n g d = primeF n f d := by
 induction f generalizing g d with
 | zero => rw [primeF_end n g d (by simpa using h1)]; rfl
 | succ f ih =>
   cases g with
   | zero => rw [primeF_end n (f + 1) d (by simpa using h2)]; rfl
   | succ g =>
     rw [primeF, primeF]
     rw [ih g (d + 1) (by rw [show d + 1 + f = d + (f + 1) by omega]; exact h1) (by rw [show d + 1 + g = d + (g + 1) by omega]; exact h2)]
theorem prime_start (n : Nat) (h : n < 4096) : isPrime n = primeF n 4096 2 := by
 have h1 : n * 1 ≤ (2 + n) * (2 + n) := Nat.mul_le_mul (by omega) (by omega)
 have h2 : (2 + n) * 2 ≤ (2 + n) * (2 + n) := Nat.mul_le_mul (by omega) (by omega)
 exact primeF_more n 4096 n 2 (by omega) (by omega)
def overB (x n : Nat) (cubed : Bool) : Bool := if cubed then decide (n * 79228162514264337593543950336 < x * x * x) else decide (n * 18446744073709551616 < x * x)
theorem over_sq (x n hi lo : Nat) (h : x * x = hi * 18446744073709551616 + lo) (hl : lo < 18446744073709551616) : overB x n false = (decide (n < hi) || (decide (hi = n) && decide (0 < lo))) := by
 unfold overB
 rw [h, if_neg (by decide), Bool.eq_iff_iff]
 simp only [decide_eq_true_eq, Bool.or_eq_true, Bool.and_eq_true]
 omega
theorem over_cube (x n hi lo t l : Nat) (h : x * x = hi * 18446744073709551616 + lo) (h2 : lo * x = t * 18446744073709551616 + l) (hl : l < 18446744073709551616) :
 overB x n true = (decide (n * 4294967296 < t + hi * x) || (decide (t + hi * x = n * 4294967296) && decide (0 < l))) := by
 unfold overB
 have e : x * x * x = (t + hi * x) * 18446744073709551616 + l := by
  rw [h, Nat.add_mul, h2, Nat.add_mul, Nat.mul_right_comm]; omega
 rw [if_pos rfl, e, Bool.eq_iff_iff]
 generalize t + hi * x = q
 simp only [decide_eq_true_eq, Bool.or_eq_true, Bool.and_eq_true]
 omega
def rootF (n : Nat) (cubed : Bool) : Nat → Nat → Nat
 | 0, x => x
 | b + 1, x => rootF n cubed b (if overB (x + 2 ^ b) n cubed then x else x + 2 ^ b)
def rootB (n : Nat) (cubed : Bool) : Nat := rootF n cubed 36 0 % 4294967296
theorem or_bit (y c : Nat) (hc : c < 36) (hd : 2 ^ (c + 1) ∣ y) (hy : y < 68719476736) : bits .or .u64 (y : Int) (IntKind.u64.wrap (2 ^ c)) = ((y + 2 ^ c : Nat) : Int) := by
 have h1 : 2 ^ c ≤ 2 ^ 35 := Nat.pow_le_pow_right (by omega) (by omega)
 have h2 : (2 : Int) ^ c = ((2 ^ c : Nat) : Int) := by rw [Int.natCast_pow]; rfl
 have h3 : IntKind.u64.wrap ((2 ^ c : Nat) : Int) = ((2 ^ c : Nat) : Int) := by rw [IntKind.wrap_u64]; omega
 rw [h2, h3, u64_or_nat _ _ (by omega) (by omega)]
 obtain ⟨k, rfl⟩ := hd
 rw [← Nat.two_pow_add_eq_or_of_lt (Nat.pow_lt_pow_right (by omega) (Nat.lt_succ_self c)) k]
theorem bit_room (y c : Nat) (hc : c < 36) (hd : 2 ^ (c + 1) ∣ y) (hy : y < 68719476736) : y + 2 ^ c < 68719476736 := by
 obtain ⟨k, rfl⟩ := hd
 have e : 68719476736 = 2 ^ (c + 1) * 2 ^ (35 - c) := by rw [← Nat.pow_add, show c + 1 + (35 - c) = 36 by omega]
 rw [e] at hy ⊢
 have hk : k < 2 ^ (35 - c) := Nat.lt_of_mul_lt_mul_left hy
 have h2 : 2 ^ (c + 1) * (k + 1) ≤ 2 ^ (c + 1) * 2 ^ (35 - c) := Nat.mul_le_mul_left _ hk
 have h3 : 2 ^ c < 2 ^ (c + 1) := Nat.pow_lt_pow_right (by omega) (Nat.lt_succ_self c)
 rw [Nat.mul_add, Nat.mul_one] at h2
 omega
theorem dvd_next (y c : Nat) (hd : 2 ^ (c + 1) ∣ y) : 2 ^ c ∣ y ∧ 2 ^ c ∣ y + 2 ^ c := by
 have h := Nat.dvd_trans (Nat.pow_dvd_pow 2 (Nat.le_succ c)) hd
 exact ⟨h, Nat.dvd_add h (Nat.dvd_refl _)⟩
def primesTo (m : Nat) : List Nat := ((List.range m).drop 2).filter isPrime
def P64 : List Nat := primesTo 312
theorem P64_length : P64.length = 64 := by decide +kernel
theorem primesTo_succ (m : Nat) (h : 2 ≤ m) : primesTo (m + 1) = if isPrime m then primesTo m ++ [m] else primesTo m := by
 unfold primesTo
 rw [List.range_succ, List.drop_append_of_le_length (by simpa using h), List.filter_append]
 by_cases hp : isPrime m = true
 ·rw [if_pos hp]; simp [hp]
 ·rw [if_neg hp]; simp [hp]
theorem primesTo_pre (m k : Nat) (h : 2 ≤ m) : primesTo m <+: primesTo (m + k) := by
 induction k with
 | zero => exact List.prefix_rfl
 | succ k ih =>
   refine ih.trans ?_
   rw [show m + (k + 1) = (m + k) + 1 by omega, primesTo_succ _ (by omega)]
   by_cases hp : isPrime (m + k) = true
   ·rw [if_pos hp]; exact List.prefix_append _ _
   ·rw [if_neg hp]; exact List.prefix_rfl
theorem primesTo_full (m : Nat) (h : 2 ≤ m) (h2 : m ≤ 312) (hl : 64 ≤ (primesTo m).length) : primesTo m = P64 := by
 have hp := primesTo_pre m (312 - m) h
 rw [show m + (312 - m) = 312 by omega] at hp
 exact hp.eq_of_length_le (Nat.le_trans (Nat.le_of_eq P64_length) hl)
theorem primesTo_len (m : Nat) (h : 2 ≤ m) (h2 : m ≤ 312) : (primesTo m).length ≤ 64 := by
 have := (primesTo_pre m (312 - m) h).length_le
 rw [show m + (312 - m) = 312 by omega] at this
 exact Nat.le_trans this (Nat.le_of_eq P64_length)
end Sha
end Go.Proofs.YtnbkhdbligjifaaGreatDoor
namespace Go.Proofs.YtnbkhdbligjifaaGreatDoor
open Go.RowKit
namespace Sha
theorem rot_any (x : Int) (k : Nat) (_h0 : 0 ≤ x) (_h1 : x < 4294967296) (hn : 1 ≤ k) (hn' : k ≤ 31) (w : World) :
 Calls Tryz.prog 202 #[.int .u32 x, .int .i64 (-(k : Int))] w fun e w' => e = .returned (.int .u32 (rotr x k)) ∧ w = w' := by
 have hs := turn_mask k hn hn'
 have h3 : IntKind.u64.wrap (32 - (32 - (k : Int))) = (k : Int) := by rw [IntKind.wrap_u64]; omega
 go_enter Tryz.func202, Tryz.ntmps202
 go_wp2_with fail
 go_ret
 exact ⟨rfl, rfl⟩
theorem turn_any (x : Int) (k : Nat) (h0 : 0 ≤ x) (h1 : x < 4294967296) (hn : 1 ≤ k) (hn' : k ≤ 31) (w : World) :
 Calls Tryz.prog 176 #[.int .u32 x, .int .i64 (k : Int)] w fun e w' => e = .returned (.int .u32 (rotr x k)) ∧ w = w' := by
 have hR := Lib.hid (rot_any x k h0 h1 hn hn' w)
 have hk : IntKind.i64.wrap (-(k : Int)) = -(k : Int) := by rw [IntKind.wrap_i64]; omega
 go_enter Tryz.func176, Tryz.ntmps176
 go_wp2_with (first | (go_at_call 202; refine hR.out.mono ?_; rintro e w' ⟨rfl, rfl⟩))
 go_ret
 exact ⟨rfl, rfl⟩
theorem prime_any (n : Int) (h0 : 0 ≤ n) (h1 : n < 4096) (w : World) :
 Calls Tryz.prog 136 #[.int .u64 n] w fun e w' => e = .returned (.bool (isPrime n.toNat)) ∧ w = w' := by
 obtain ⟨n, rfl⟩ := Int.eq_ofNat_of_zero_le h0
 rw [Int.toNat_natCast]
 go_enter Tryz.func136, Tryz.ntmps136
 go_wp2_with fail
 go_loop [3] (fun v => ∃ d : Nat, v = .int .u64 (d : Int) ∧ 2 ≤ d ∧ d ≤ 66 ∧ isPrime n = primeF n 4096 d) (fun v => 70 - (intOf v).toNat)
 case atStart => exact ⟨2, rfl, by omega, by omega, prime_start n (by omega)⟩
 case round =>
  obtain ⟨d, rfl, hd2, hd66, hp⟩ := hrel
  have hdd : d * d ≤ 66 * 66 := Nat.mul_le_mul hd66 hd66
  by_cases hle : d * d ≤ n
  ·have t1 : ((d : Int) * (d : Int) ≤ (n : Int)) := by rw [← Int.natCast_mul]; omega
   have hd64 : d ≤ 64 := by
    rcases Nat.lt_or_ge d 65 with h | h
    ·omega
    ·have := Nat.mul_le_mul h h; omega
   have hf : primeF n 4096 d = if n % d = 0 then false else primeF n 4095 (d + 1) := by rw [primeF, if_pos hle]
   have hf2 : primeF n 4095 (d + 1) = primeF n 4096 (d + 1) := by
    have h3 : (d + 1 + 4095) * 2 ≤ (d + 1 + 4095) * (d + 1 + 4095) := Nat.mul_le_mul (by omega) (by omega)
    have h4 : (d + 1 + 4096) * 2 ≤ (d + 1 + 4096) * (d + 1 + 4096) := Nat.mul_le_mul (by omega) (by omega)
    exact primeF_more n 4096 4095 (d + 1) (by omega) (by omega)
   by_cases hz : n % d = 0
   ·have t2 : ((n : Int) % (d : Int) == 0) = true := by rw [beq_iff_eq, ← Int.natCast_emod, hz]; rfl
    rw [if_pos hz] at hf
    have hq := Lib.hid (hp.trans hf); clear hp
    clear hf hf2
    go_wp2_with fail
    go_ret
    exact ⟨by rw [hq.out]; rfl, rfl⟩
   ·have t2 : ((n : Int) % (d : Int) == 0) = false := by rw [beq_eq_false_iff_ne, ← Int.natCast_emod]; omega
    rw [if_neg hz, hf2] at hf
    have hq := Lib.hid (hp.trans hf); clear hp
    clear hf hf2
    go_wp2_with fail
    go_round
    case rel => exact ⟨d + 1, by go_num, by omega, by omega, hq.out⟩
    case measure => simp [intOf]; omega
  ·have t1 : ¬ ((d : Int) * (d : Int) ≤ (n : Int)) := by rw [← Int.natCast_mul]; omega
   have hq := Lib.hid (hp.trans (primeF_end n 4096 d (by omega))); clear hp
   go_wp2_with fail
   go_ret
   exact ⟨by rw [hq.out]; rfl, rfl⟩
theorem over_any (x n : Nat) (cubed : Bool) (hx : x < 68719476736) (hn : n < 4096) (w : World) :
 Calls Tryz.prog 137 #[.int .u64 (x : Int), .int .u64 (n : Int), .bool cubed] w fun e w' => e = .returned (.bool (overB x n cubed)) ∧ w = w' := by
 have H1 := Tryz.bits_Mul64 x x (by omega) (by omega) w
 obtain ⟨hi, hhi⟩ : ∃ hi, x * x / 18446744073709551616 = hi := ⟨_, rfl⟩
 obtain ⟨lo, hlo⟩ : ∃ lo, x * x % 18446744073709551616 = lo := ⟨_, rfl⟩
 have e1 : x * x = hi * 18446744073709551616 + lo := by omega
 have hlo' : lo < 18446744073709551616 := by omega
 have hxx : x * x ≤ 68719476735 * 68719476735 := Nat.mul_le_mul (by omega) (by omega)
 have hhi' : hi < 256 := by omega
 rw [hhi, hlo] at H1
 have H1 := Lib.hid H1
 cases cubed with
 | false =>
   have hr := Lib.hid (over_sq x n hi lo e1 hlo')
   clear e1 hxx hhi hlo
   go_enter Tryz.func137, Tryz.ntmps137
   by_cases h1 : n < hi
   ·have t1 : decide ((n : Int) < (hi : Int)) = true := by simp; omega
    go_wp2_with (first | (go_at_call 174; refine H1.out.mono ?_; rintro e w' ⟨rfl, rfl⟩))
    go_ret
    exact ⟨by rw [hr.out]; simp [h1], rfl⟩
   ·have t1 : decide ((n : Int) < (hi : Int)) = false := by simp; omega
    by_cases h2 : hi = n
    ·have t2 : ((hi : Int) == (n : Int)) = true := by simp; omega
     go_wp2_with (first | (go_at_call 174; refine H1.out.mono ?_; rintro e w' ⟨rfl, rfl⟩))
     go_ret
     refine ⟨?_, rfl⟩
     rw [hr.out]; simp [h2]
    ·have t2 : ((hi : Int) == (n : Int)) = false := by simp; omega
     go_wp2_with (first | (go_at_call 174; refine H1.out.mono ?_; rintro e w' ⟨rfl, rfl⟩))
     go_ret
     exact ⟨by rw [hr.out]; simp [h1, h2], rfl⟩
 | true =>
   have H2 := Tryz.bits_Mul64 lo x (by omega) (by omega) w
   obtain ⟨t, ht⟩ : ∃ t, lo * x / 18446744073709551616 = t := ⟨_, rfl⟩
   obtain ⟨l, hl⟩ : ∃ l, lo * x % 18446744073709551616 = l := ⟨_, rfl⟩
   rw [ht, hl] at H2
   have H2 := Lib.hid H2
   have e2 : lo * x = t * 18446744073709551616 + l := by omega
   have hlx : lo * x ≤ 18446744073709551615 * 68719476736 := Nat.mul_le_mul (by omega) (by omega)
   have hhx : hi * x ≤ 256 * 68719476736 := Nat.mul_le_mul (by omega) (by omega)
   have ht' : t ≤ 68719476736 := by omega
   have hr := Lib.hid (over_cube x n hi lo t l e1 e2 (by omega))
   obtain ⟨q, hq⟩ : ∃ q, hi * x = q := ⟨_, rfl⟩
   have hqi : (hi : Int) * (x : Int) = (q : Int) := by rw [← hq, Int.natCast_mul]
   rw [hq] at hhx hr
   clear e1 e2 hxx hhi hlo ht hl hlx hq
   go_enter Tryz.func137, Tryz.ntmps137
   by_cases h1 : n * 4294967296 < t + q
   ·have t1 : decide ((n : Int) * 4294967296 < (t : Int) + (q : Int)) = true := by simp; omega
    go_wp2_with (first | (go_at_call 174; first | (with_reducible refine H1.out.mono ?_; rintro e w' ⟨rfl, rfl⟩) | (refine H2.out.mono ?_; rintro e w' ⟨rfl, rfl⟩)))
    go_ret
    exact ⟨by rw [hr.out]; simp [h1], rfl⟩
   ·have t1 : decide ((n : Int) * 4294967296 < (t : Int) + (q : Int)) = false := by simp; omega
    by_cases h2 : t + q = n * 4294967296
    ·have t2 : ((t : Int) + (q : Int) == (n : Int) * 4294967296) = true := by simp; omega
     go_wp2_with (first | (go_at_call 174; first | (with_reducible refine H1.out.mono ?_; rintro e w' ⟨rfl, rfl⟩) | (refine H2.out.mono ?_; rintro e w' ⟨rfl, rfl⟩)))
     go_ret
     refine ⟨?_, rfl⟩
     rw [hr.out]; simp [h2]
    ·have t2 : ((t : Int) + (q : Int) == (n : Int) * 4294967296) = false := by simp; omega
     go_wp2_with (first | (go_at_call 174; first | (with_reducible refine H1.out.mono ?_; rintro e w' ⟨rfl, rfl⟩) | (refine H2.out.mono ?_; rintro e w' ⟨rfl, rfl⟩)))
     go_ret
     exact ⟨by rw [hr.out]; simp [h1, h2], rfl⟩
end Sha
end Go.Proofs.YtnbkhdbligjifaaGreatDoor
namespace Go.Proofs.YtnbkhdbligjifaaGreatDoor
open Go.RowKit
namespace Sha
theorem below_row {B : Nat} {w wr w1 : World} {o : Obj} {base : Nat} {e : TypeId} {size : Nat} {v : Value} {n : Nat} {xs : List Value} (hb : Below B w wr) (hBs : B ≤ w.heap.size) (hrow : wr.ownsRow base e size v n xs) (hB : B ≤ base) (hg : (wr.alloc o).grownBy w1 v.ownBlock) : Below B w w1 :=
 (hb.alloc (Nat.le_trans hBs hb.size) o).grown hg (by have := hb.size; simp; omega) (fun k e => Nat.le_trans hB (hrow.lt k e).1)
theorem info_u64 : (Tryz.prog.info? 177).map (fun i => (i.zero, i.size, i.bytes)) = some (some (.int .u64 0), 1, 8) := by kernel_rfl
theorem root_any (n : Nat) (cubed : Bool) (hn : n < 4096) (w : World) :
 Calls Tryz.prog 100 #[.int .u64 (n : Int), .bool cubed] w fun e w' => e = .returned (.int .u32 (rootB n cubed : Nat)) ∧ w = w' := by
 obtain ⟨R, hR0⟩ : ∃ R, rootF n cubed 36 0 = R := ⟨_, rfl⟩
 have hR0 := Lib.hid hR0
 go_enter Tryz.func100, Tryz.ntmps100
 go_wp2_with fail
 go_loop [5, 6] (fun x b => ∃ c y : Nat, c ≤ 36 ∧ b = .int .i64 ((c : Int) - 1) ∧ x = .int .u64 (y : Int) ∧ y < 68719476736 ∧ 2 ^ c ∣ y ∧ R = rootF n cubed c y) (fun _ b => (intOf b + 1).toNat)
 case atStart => exact ⟨36, 0, Nat.le_refl _, rfl, rfl, by omega, Nat.dvd_zero _, hR0.out.symm⟩
 case round =>
  obtain ⟨c, y, hc, rfl, rfl, hy, hdvd, hr⟩ := hrel
  cases c with
  | zero =>
    have hR := Lib.hid hr
    clear hr hdvd
    go_wp2_with fail
    go_ret
    exact ⟨by unfold rootB; rw [hR0.out, hR.out]; rfl, rfl⟩
  | succ c =>
    have hb : (((c + 1 : Nat) : Int) - 1) = (c : Int) := by omega
    rw [hb]
    have hor := or_bit y c (by omega) hdvd hy
    have hz := bit_room y c (by omega) hdvd hy
    have hd := dvd_next y c hdvd
    have hO := over_any (y + 2 ^ c) n cubed hz hn w
    rw [rootF] at hr
    generalize y + 2 ^ c = z at *
    have HO := Lib.hid hO
    cases hc2 : overB z n cubed with
    | true =>
      have HR := Lib.hid (show R = rootF n cubed c y by rw [hr, hc2]; rfl)
      rw [hc2] at HO
      clear hr hO hc2 hdvd
      have HD := Lib.hid hd
      clear hd
      go_wp2_with (first | (go_at_call 137; refine HO.out.mono ?_; rintro e w' ⟨rfl, rfl⟩))
      go_round
      case rel => exact ⟨c, y, by omega, rfl, rfl, hy, HD.out.1, HR.out⟩
      case measure => simp [intOf]
    | false =>
      have HR := Lib.hid (show R = rootF n cubed c z by rw [hr, hc2]; rfl)
      rw [hc2] at HO
      clear hr hO hc2 hdvd
      have HD := Lib.hid hd
      clear hd
      go_wp2_with (first | (go_at_call 137; refine HO.out.mono ?_; rintro e w' ⟨rfl, rfl⟩))
      go_round
      case rel => exact ⟨c, z, by omega, rfl, rfl, hz, HD.out.2, HR.out⟩
      case measure => simp [intOf]
theorem primes_any (w : World) :
 Calls Tryz.prog 99 #[.int .i64 64] w fun e w' => ∃ v, e = .returned v ∧ w'.ownsRow w.heap.size 177 1 v 64 (P64.map fun (p : Nat) => Value.int .u64 (p : Int)) ∧ Below w.heap.size w w' := by
 obtain ⟨i0, hi, hz0, hz1, hz2⟩ := info_parts info_u64
 go_enter Tryz.func99, Tryz.ntmps99
 go_wp2_with fail
 go_loopw [3, 4] (fun v n wr => ∃ m : Nat, 2 ≤ m ∧ m ≤ 312 ∧ n = .int .u64 (m : Int) ∧ wr.ownsRow w.heap.size 177 1 v (primesTo m).length ((primesTo m).map fun (p : Nat) => Value.int .u64 (p : Int)) ∧ Below w.heap.size w wr) (fun _ n _ => 312 - (intOf n).toNat)
 case atStart => exact ⟨2, by omega, by omega, rfl, World.ownsRow_nil _ _ _ _, Below.refl _ _⟩
 case round =>
  obtain ⟨m, hm2, hm, rfl, hrow, hbl⟩ := hrel
  obtain ⟨A, cap, rfl, _⟩ := row_form hrow
  have hb0 := hbl.size
  by_cases hlt : (primesTo m).length < 64
  ·have hm3 : m < 312 := by
    rcases Nat.lt_or_ge m 312 with h | h
    ·exact h
    ·have e : m = 312 := by omega
     subst e
     exact absurd P64_length (by unfold P64; omega)
   have hP := prime_any (m : Int) (by omega) (by omega) wr
   have hS := primesTo_succ m hm2
   rw [Int.toNat_natCast] at hP
   generalize hL : primesTo m = L at *
   cases hpm : isPrime m with
   | true =>
     rw [hpm] at hS hP
     rw [if_pos rfl] at hS
     have HS := Lib.hid hS
     have HP := Lib.hid hP
     have HL := Lib.hid hL
     clear hS hP hL hpm
     go_wp2_with (first
      | (go_at_call 136; refine HP.out.mono ?_; rintro e w' ⟨rfl, rfl⟩)
      | (at_builtin; refine wpList_append_own _ rfl _ _ 175 rfl w.heap.size 177 i0 (.int .u64 0) 1 8 Tryz.underlying175 hi hz0 hz1 hz2 rfl (by decide) _ _ _ rfl (hrow.alloc _) ⟨wr.heap.size, 0, none⟩ 1 1 [.int .u64 (m : Int)] rfl rfl (cell_one_new _ _ _) (by simp [Value.oneCell']) (by unfold maxLen; omega) (by omega) (by simp; omega) ?_; intro v' w1 hown' hgrow hnil'))
     have hgrow2 : (wr.alloc (.cells #[.int .u64 (m : Int)] 177)).grownBy w1 (Value.slice A L.length cap).ownBlock := hgrow
     clear hgrow hnil'
     go_roundw
     case rel =>
      refine ⟨m + 1, by omega, by omega, by go_num, ?_, below_row hbl (Nat.le_refl _) hrow (Nat.le_refl _) hgrow2⟩
      rw [HS.out]
      simpa using hown'
     case measure => simp [intOf]; omega
   | false =>
     rw [hpm] at hS hP
     rw [if_neg (by decide)] at hS
     have HS := Lib.hid hS
     have HP := Lib.hid hP
     have HL := Lib.hid hL
     clear hS hP hL hpm
     go_wp2_with (first
      | (go_at_call 136; refine HP.out.mono ?_; rintro e w' ⟨rfl, rfl⟩))
     go_roundw
     case rel =>
      refine ⟨m + 1, by omega, by omega, by go_num, ?_, hbl⟩
      rw [HS.out]
      exact hrow
     case measure => simp [intOf]; omega
  ·have hF := primesTo_full m hm2 hm (by omega)
   have hl := Nat.le_antisymm (primesTo_len m hm2 hm) (by omega)
   generalize hL : primesTo m = L at *
   have HL := Lib.hid hL
   have HF := Lib.hid hF
   clear hL hF
   have t1 : ¬ ((L.length : Int) < 64) := by omega
   go_wp2_with fail
   go_ret
   refine ⟨_, rfl, ?_, hbl⟩
   rw [← HF.out]
   rw [hl] at hrow
   exact hrow
end Sha
end Go.Proofs.YtnbkhdbligjifaaGreatDoor
namespace Go.Proofs.YtnbkhdbligjifaaGreatDoor
open Go.RowKit
namespace Sha
def at8 (b : List UInt8) (i : Nat) : Int := ((b.getD i 0).toNat : Int)
theorem at8_pos (b : List UInt8) (i : Nat) : 0 ≤ at8 b i := by unfold at8; omega
theorem at8_lt (b : List UInt8) (i : Nat) : at8 b i < 256 := by unfold at8; have := (b.getD i 0).toNat_lt; omega
def wd (b : List UInt8) (i : Nat) : Int := at8 b (4 * i) * 16777216 + at8 b (4 * i + 1) * 65536 + at8 b (4 * i + 2) * 256 + at8 b (4 * i + 3)
def s0 (x : Int) : Int := bits .xor .u32 (bits .xor .u32 (rotr x 7) (rotr x 18)) (x / 8)
def s1 (x : Int) : Int := bits .xor .u32 (bits .xor .u32 (rotr x 17) (rotr x 19)) (x / 1024)
def nextW (l : List Int) : Int := (l.getD (l.length - 16) 0 + l.getD (l.length - 7) 0 + s0 (l.getD (l.length - 15) 0) + s1 (l.getD (l.length - 2) 0)) % 4294967296
def growW : Nat → List Int → List Int
 | 0, l => l
 | n + 1, l => growW n (l ++ [nextW l])
def headW (b : List UInt8) (n : Nat) : List Int := (List.range n).map (wd b)
theorem headW_succ (b : List UInt8) (n : Nat) : headW b (n + 1) = headW b n ++ [wd b n] := by simp [headW, List.range_succ]
theorem headW_length (b : List UInt8) (n : Nat) : (headW b n).length = n := by simp [headW]
def sched (b : List UInt8) : List Int := growW 48 (headW b 16)
theorem growW_length (n : Nat) (l : List Int) : (growW n l).length = l.length + n := by
 induction n generalizing l with
 | zero => rfl
 | succ n ih => rw [growW, ih]; simp; omega
theorem sched_length (b : List UInt8) : (sched b).length = 64 := by rw [sched, growW_length, headW_length]
def u32s (l : List Int) : List Value := l.map fun x => Value.int .u32 x
def Small (l : List Int) : Prop := ∀ x ∈ l, 0 ≤ x ∧ x < 4294967296
theorem Small.get {l : List Int} (h : Small l) (i : Nat) : 0 ≤ l.getD i 0 ∧ l.getD i 0 < 4294967296 := by
 rcases Nat.lt_or_ge i l.length with hl | hl
 ·rw [List.getD, List.getElem?_eq_getElem hl]; exact h _ (List.getElem_mem hl)
 ·rw [List.getD, List.getElem?_eq_none hl]; exact ⟨by simp, by simp⟩
theorem Small.snoc {l : List Int} (h : Small l) {x : Int} (h0 : 0 ≤ x) (h1 : x < 4294967296) : Small (l ++ [x]) := by
 intro y hy
 rcases List.mem_append.1 hy with hy | hy
 ·exact h y hy
 ·rw [List.mem_singleton.1 hy]; exact ⟨h0, h1⟩
theorem wd_range (b : List UInt8) (i : Nat) : 0 ≤ wd b i ∧ wd b i < 4294967296 := by
 have h1 := at8_lt b (4 * i); have h2 := at8_lt b (4 * i + 1); have h3 := at8_lt b (4 * i + 2); have h4 := at8_lt b (4 * i + 3)
 have g1 := at8_pos b (4 * i); have g2 := at8_pos b (4 * i + 1); have g3 := at8_pos b (4 * i + 2); have g4 := at8_pos b (4 * i + 3)
 unfold wd
 omega
theorem word_or (a b c d : Int) (a0 : 0 ≤ a) (a1 : a < 256) (b0 : 0 ≤ b) (b1 : b < 256) (c0 : 0 ≤ c) (c1 : c < 256) (d0 : 0 ≤ d) (d1 : d < 256) :
 bits .or .u32 (bits .or .u32 (bits .or .u32 (IntKind.u32.wrap (IntKind.u32.wrap a * 16777216)) (IntKind.u32.wrap (IntKind.u32.wrap b * 65536))) (IntKind.u32.wrap (IntKind.u32.wrap c * 256))) (IntKind.u32.wrap d)
  = a * 16777216 + b * 65536 + c * 256 + d := by
 obtain ⟨A, rfl⟩ := Int.eq_ofNat_of_zero_le a0
 obtain ⟨B, rfl⟩ := Int.eq_ofNat_of_zero_le b0
 obtain ⟨C, rfl⟩ := Int.eq_ofNat_of_zero_le c0
 obtain ⟨D, rfl⟩ := Int.eq_ofNat_of_zero_le d0
 have e1 : IntKind.u32.wrap (IntKind.u32.wrap (A : Int) * 16777216) = ((A * 16777216 : Nat) : Int) := by rw [IntKind.wrap_u32', IntKind.wrap_u32']; omega
 have e2 : IntKind.u32.wrap (IntKind.u32.wrap (B : Int) * 65536) = ((B * 65536 : Nat) : Int) := by rw [IntKind.wrap_u32', IntKind.wrap_u32']; omega
 have e3 : IntKind.u32.wrap (IntKind.u32.wrap (C : Int) * 256) = ((C * 256 : Nat) : Int) := by rw [IntKind.wrap_u32', IntKind.wrap_u32']; omega
 have e4 : IntKind.u32.wrap (D : Int) = ((D : Nat) : Int) := by rw [IntKind.wrap_u32']; omega
 rw [e1, e2, e3, e4]
 have o1 : A * 16777216 ||| B * 65536 = A * 16777216 + B * 65536 := by
  have h := Nat.two_pow_add_eq_or_of_lt (i := 24) (b := B * 65536) (by omega) A
  rw [Nat.mul_comm] at h; exact h.symm
 have o2 : (A * 16777216 + B * 65536) ||| C * 256 = A * 16777216 + B * 65536 + C * 256 := by
  have h := Nat.two_pow_add_eq_or_of_lt (i := 16) (b := C * 256) (by omega) (A * 256 + B)
  rw [show 2 ^ 16 * (A * 256 + B) = A * 16777216 + B * 65536 by omega] at h; exact h.symm
 have o3 : (A * 16777216 + B * 65536 + C * 256) ||| D = A * 16777216 + B * 65536 + C * 256 + D := by
  have h := Nat.two_pow_add_eq_or_of_lt (i := 8) (b := D) (by omega) (A * 65536 + B * 256 + C)
  rw [show 2 ^ 8 * (A * 65536 + B * 256 + C) = A * 16777216 + B * 65536 + C * 256 by omega] at h; exact h.symm
 rw [u32_or_nat _ _ (by omega) (by omega), o1, u32_or_nat _ _ (by omega) (by omega), o2, u32_or_nat _ _ (by omega) (by omega), o3]
 omega
theorem nextW_range (l : List Int) : 0 ≤ nextW l ∧ nextW l < 4294967296 := by unfold nextW; omega
theorem headW_small (b : List UInt8) (n : Nat) : Small (headW b n) := by
 intro x hx
 obtain ⟨i, _, rfl⟩ := List.mem_map.1 hx
 exact wd_range b i
theorem growW_small (n : Nat) (l : List Int) (h : Small l) : Small (growW n l) := by
 induction n generalizing l with
 | zero => exact h
 | succ n ih => exact ih _ (h.snoc (nextW_range l).1 (nextW_range l).2)
theorem sched_small (b : List UInt8) : Small (sched b) := growW_small _ _ (headW_small b 16)
def cells64 (l : List Int) : Array Value := (u32s l ++ List.replicate (64 - l.length) (Value.int .u32 0)).toArray
theorem cells64_get (l : List Int) (i : Nat) (h : i < l.length) : (cells64 l)[i]? = some (.int .u32 (l.getD i 0)) := by
 simp [cells64, u32s, h, List.getElem?_append_left]
theorem cells64_zero (l : List Int) (h : l.length < 64) : (cells64 l)[l.length]? = some (.int .u32 0) := by
 have hl : (u32s l).length = l.length := by simp [u32s]
 simp only [cells64, List.getElem?_toArray]
 rw [List.getElem?_append_right (by omega), hl, Nat.sub_self, List.getElem?_replicate, if_pos (by omega)]
theorem cells64_set (l : List Int) (x : Int) (h : l.length < 64) : (cells64 l).setIfInBounds l.length (.int .u32 x) = cells64 (l ++ [x]) := by
 apply Array.toList_inj.1
 obtain ⟨m, hm⟩ : ∃ m, 64 - l.length = m + 1 := ⟨63 - l.length, by omega⟩
 simp only [cells64, List.length_append, List.length_cons, List.length_nil, Array.toList_setIfInBounds, List.toList_toArray]
 rw [hm, show 64 - (l.length + 0 + 1) = m by omega, List.replicate_succ]
 have hl : (u32s l).length = l.length := by simp [u32s]
 rw [← hl, List.set_append_right _ _ (Nat.le_refl _), Nat.sub_self, List.set_cons_zero]
 simp [u32s]
end Sha
end Go.Proofs.YtnbkhdbligjifaaGreatDoor
