/-
 Plain words for SHA-256: turned words, primes, roots. No program is named.
-/
import Derived.WalkKit
import Derived.WalkLawsBesides
import Derived.WalkSpells
import Derived.Lib.Hide
import Derived.Handy
import Derived.Laws.BitsAllLaws
import Derived.Laws.Closers25b
namespace Go.Proofs.YtfkchheildfkpaaGreatDoor
open Go.RowKit
namespace Sha
def rotr (x : Int) (n : Nat) : Int := bits .or .u32 (x * 2 ^ (32 - n) % 4294967296) (x / 2 ^ n)
theorem turn_mask (k : Nat) (h1 : 1 ≤ k) (h2 : k ≤ 31) : bits .and .u64 (IntKind.u64.wrap (-(k : Int))) 31 = 32 - (k : Int) := by
 rw [IntKind.wrap_u64, u64_and _ _ (by omega) (by omega) (by omega) (by omega), show Int.toNat 31 = 31 from rfl, nat_mask5]
 omega
def primeF (n : Nat) : Nat → Nat → Bool
 | 0, _ => true
 | f + 1, d => if d * d ≤ n then (if n % d = 0 then false else primeF n f (d + 1)) else true
def isPrime (n : Nat) : Bool := primeF n n 2
theorem primeF_end (n f d : Nat) (h : n < d * d) : primeF n f d = true := by
 cases f with
 | zero => rfl
 | succ f => rw [primeF, if_neg (by omega)]
theorem primeF_more (n f g d : Nat) (h1 : n < (d + f) * (d + f)) (h2 : n < (d + g) * (d + g)) : primeF n g d = primeF n f d := by
 induction f generalizing g d with
 | zero => rw [primeF_end n g d (by simpa using h1)]; rfl
 | succ f ih =>
   cases g with
   | zero => rw [primeF_end n (f + 1) d (by simpa using h2)]; rfl
   | succ g =>
     rw [primeF, primeF]
     rw [ih g (d + 1) (by rw [show d + 1 + f = d + (f + 1) by omega]; exact h1) (by rw [show d + 1 + g = d + (g + 1) by omega]; exact h2)]
theorem prime_start (n : Nat) (h : n < 4096) : isPrime n = primeF n 4096 2 := by
 have h1 : n * 1 ≤ (2 + n) * (2 + n) := Nat.mul_le_mul (by omega) (by omega)
 have h2 : (2 + n) * 2 ≤ (2 + n) * (2 + n) := Nat.mul_le_mul (by omega) (by omega)
 exact primeF_more n 4096 n 2 (by omega) (by omega)
def overB (x n : Nat) (cubed : Bool) : Bool := if cubed then decide (n * 79228162514264337593543950336 < x * x * x) else decide (n * 18446744073709551616 < x * x)
theorem over_sq (x n hi lo : Nat) (h : x * x = hi * 18446744073709551616 + lo) (hl : lo < 18446744073709551616) : overB x n false = (decide (n < hi) || (decide (hi = n) && decide (0 < lo))) := by
 unfold overB
 rw [h, if_neg (by decide), Bool.eq_iff_iff]
 simp only [decide_eq_true_eq, Bool.or_eq_true, Bool.and_eq_true]
 omega
theorem over_cube (x n hi lo t l : Nat) (h : x * x = hi * 18446744073709551616 + lo) (h2 : lo * x = t * 18446744073709551616 + l) (hl : l < 18446744073709551616) :
   overB x n true = (decide (n * 4294967296 < t + hi * x) || (decide (t + hi * x = n * 4294967296) && decide (0 < l))) := by
 unfold overB
 have e : x * x * x = (t + hi * x) * 18446744073709551616 + l := by
   rw [h, Nat.add_mul, h2, Nat.add_mul, Nat.mul_right_comm]; omega
 rw [if_pos rfl, e, Bool.eq_iff_iff]
 generalize t + hi * x = q
 simp only [decide_eq_true_eq, Bool.or_eq_true, Bool.and_eq_true]
 omega
def rootF (n : Nat) (cubed : Bool) : Nat → Nat → Nat
 | 0, x => x
 | b + 1, x => rootF n cubed b (if overB (x + 2 ^ b) n cubed then x else x + 2 ^ b)
def rootB (n : Nat) (cubed : Bool) : Nat := rootF n cubed 36 0 % 4294967296
theorem or_bit (y c : Nat) (hc : c < 36) (hd : 2 ^ (c + 1) ∣ y) (hy : y < 68719476736) : bits .or .u64 (y : Int) (IntKind.u64.wrap (2 ^ c)) = ((y + 2 ^ c : Nat) : Int) := by
 have h1 : 2 ^ c ≤ 2 ^ 35 := Nat.pow_le_pow_right (by omega) (by omega)
 have h2 : (2 : Int) ^ c = ((2 ^ c : Nat) : Int) := by rw [Int.natCast_pow]; rfl
 have h3 : IntKind.u64.wrap ((2 ^ c : Nat) : Int) = ((2 ^ c : Nat) : Int) := by rw [IntKind.wrap_u64]; omega
 rw [h2, h3, u64_or_nat _ _ (by omega) (by omega)]
 obtain ⟨k, rfl⟩ := hd
 rw [← Nat.two_pow_add_eq_or_of_lt (Nat.pow_lt_pow_right (by omega) (Nat.lt_succ_self c)) k]
theorem bit_room (y c : Nat) (hc : c < 36) (hd : 2 ^ (c + 1) ∣ y) (hy : y < 68719476736) : y + 2 ^ c < 68719476736 := by
 obtain ⟨k, rfl⟩ := hd
 have e : 68719476736 = 2 ^ (c + 1) * 2 ^ (35 - c) := by rw [← Nat.pow_add, show c + 1 + (35 - c) = 36 by omega]
 rw [e] at hy ⊢
 have hk : k < 2 ^ (35 - c) := Nat.lt_of_mul_lt_mul_left hy
 have h2 : 2 ^ (c + 1) * (k + 1) ≤ 2 ^ (c + 1) * 2 ^ (35 - c) := Nat.mul_le_mul_left _ hk
 have h3 : 2 ^ c < 2 ^ (c + 1) := Nat.pow_lt_pow_right (by omega) (Nat.lt_succ_self c)
 rw [Nat.mul_add, Nat.mul_one] at h2
 omega
theorem dvd_next (y c : Nat) (hd : 2 ^ (c + 1) ∣ y) : 2 ^ c ∣ y ∧ 2 ^ c ∣ y + 2 ^ c := by
 have h := Nat.dvd_trans (Nat.pow_dvd_pow 2 (Nat.le_succ c)) hd
 exact ⟨h, Nat.dvd_add h (Nat.dvd_refl _)⟩
def primesTo (m : Nat) : List Nat := ((List.range m).drop 2).filter isPrime
def P64 : List Nat := primesTo 312
set_option maxRecDepth 100000 in
theorem P64_length : P64.length = 64 := by decide +kernel
theorem primesTo_succ (m : Nat) (h : 2 ≤ m) : primesTo (m + 1) = if isPrime m then primesTo m ++ [m] else primesTo m := by
 unfold primesTo
 rw [List.range_succ, List.drop_append_of_le_length (by simpa using h), List.filter_append]
 by_cases hp : isPrime m = true
 · rw [if_pos hp]; simp [hp]
 · rw [if_neg hp]; simp [hp]
theorem primesTo_pre (m k : Nat) (h : 2 ≤ m) : primesTo m <+: primesTo (m + k) := by
 induction k with
 | zero => exact List.prefix_rfl
 | succ k ih =>
   refine ih.trans ?_
   rw [show m + (k + 1) = (m + k) + 1 by omega, primesTo_succ _ (by omega)]
   by_cases hp : isPrime (m + k) = true
   · rw [if_pos hp]; exact List.prefix_append _ _
   · rw [if_neg hp]; exact List.prefix_rfl
theorem primesTo_full (m : Nat) (h : 2 ≤ m) (h2 : m ≤ 312) (hl : 64 ≤ (primesTo m).length) : primesTo m = P64 := by
 have hp := primesTo_pre m (312 - m) h
 rw [show m + (312 - m) = 312 by omega] at hp
 exact hp.eq_of_length_le (Nat.le_trans (Nat.le_of_eq P64_length) hl)
theorem primesTo_len (m : Nat) (h : 2 ≤ m) (h2 : m ≤ 312) : (primesTo m).length ≤ 64 := by
 have := (primesTo_pre m (312 - m) h).length_le
 rw [show m + (312 - m) = 312 by omega] at this
 exact Nat.le_trans this (Nat.le_of_eq P64_length)
end Sha
end Go.Proofs.YtfkchheildfkpaaGreatDoor
