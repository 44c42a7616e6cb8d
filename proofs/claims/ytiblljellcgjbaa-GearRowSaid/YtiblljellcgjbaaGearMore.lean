/-
  Plain facts on the rolling hash: two parts, the window of 64 bytes, one byte changed, one byte again and again; no two bytes have one number.
-/
import Derived.Test.YtiblljellcgjbaaGearPlain
namespace Go.Proofs.Ytiblljellcgjbaa
namespace Gear

theorem cong {p a b c : Nat} (h : a % M = b % M) : (p * a + c) % M = (p * b + c) % M := by
  rw [Nat.add_mod, Nat.mul_mod, h, ← Nat.mul_mod, ← Nat.add_mod]

theorem roll_mod (h b : Nat) : roll h b % M = (2 * h + num b) % M := by unfold roll; rw [Nat.mod_mod]

theorem over_mod (h : Nat) (l : List UInt8) : over h l % M = (2 ^ l.length * h + over 0 l) % M := by
  induction l generalizing h with
  | nil => simp [over_nil]
  | cons b l ih =>
    rw [over_cons, over_cons, ih, cong (roll_mod h b.toNat)]
    have e : (2 ^ (b :: l).length * h + over (roll 0 b.toNat) l) % M = (1 * over (roll 0 b.toNat) l + 2 ^ (b :: l).length * h) % M := by rw [Nat.one_mul, Nat.add_comm]
    rw [e, cong (ih (roll 0 b.toNat))]
    have e2 : (1 * (2 ^ l.length * roll 0 b.toNat + over 0 l) + 2 ^ (b :: l).length * h) = 2 ^ l.length * roll 0 b.toNat + (over 0 l + 2 ^ (b :: l).length * h) := by omega
    rw [e2, cong (roll_mod 0 b.toNat)]
    congr 1
    rw [List.length_cons, Nat.pow_succ]
    generalize 2 ^ l.length = t
    grind

theorem over_eq (h : Nat) (hh : h < M) (l : List UInt8) : over h l = (2 ^ l.length * h + over 0 l) % M := by
  rw [← over_mod, Nat.mod_eq_of_lt (over_lt h hh l)]

theorem pow64 (n : Nat) (hn : 64 ≤ n) (h : Nat) : 2 ^ n * h % M = 0 := by
  obtain ⟨k, rfl⟩ : ∃ k, n = 64 + k := ⟨n - 64, by omega⟩
  rw [Nat.pow_add, M_val, Nat.mul_assoc]
  exact Nat.mul_mod_right _ _

theorem over_window (h : Nat) (hh : h < M) (l : List UInt8) (hl : 64 ≤ l.length) : over h l = over 0 (l.drop (l.length - 64)) := by
  have e : over h l = over (over h (l.take (l.length - 64))) (l.drop (l.length - 64)) := by rw [← over_append, List.take_append_drop]
  have hx := over_lt h hh (l.take (l.length - 64))
  rw [e, over_eq _ hx]
  have hlen : (l.drop (l.length - 64)).length = 64 := by rw [List.length_drop]; omega
  rw [hlen, Nat.add_mod, pow64 64 (Nat.le_refl _), Nat.zero_add, Nat.mod_mod]
  exact Nat.mod_eq_of_lt (over_lt 0 M_pos _)

/-- a number doubled k times -/
def dbl (x : Nat) : Nat → Nat
  | 0 => x
  | k + 1 => (dbl x k + dbl x k) % M
theorem dbl_lt (x : Nat) (hx : x < M) (k : Nat) : dbl x k < M := by
  cases k with
  | zero => exact hx
  | succ k => exact Nat.mod_lt _ M_pos
theorem dbl_mod (x k : Nat) : dbl x k % M = 2 ^ k * x % M := by
  induction k with
  | zero => simp [dbl]
  | succ k ih =>
    rw [dbl, Nat.mod_mod]
    have e : dbl x k + dbl x k = 2 * dbl x k + 0 := by omega
    rw [e, cong ih, Nat.pow_succ]
    congr 1
    rw [Nat.mul_comm (2 ^ k) 2, Nat.mul_assoc]
    omega
theorem dbl_min (x : Nat) (n : Nat) : dbl x (min n 64) % M = 2 ^ n * x % M := by
  rcases Nat.le_total n 64 with h | h
  · rw [Nat.min_eq_left h, dbl_mod]
  · rw [Nat.min_eq_right h, dbl_mod, pow64 64 (Nat.le_refl _), pow64 n h]

/-- over of two parts -/
theorem over_parts (a b : List UInt8) : over 0 (a ++ b) = (dbl (over 0 a) (min b.length 64) + over 0 b) % M := by
  rw [over_append, over_eq _ (over_lt 0 M_pos a)]
  have e : (dbl (over 0 a) (min b.length 64) + over 0 b) = (1 * dbl (over 0 a) (min b.length 64) + over 0 b) := by omega
  rw [e, cong (dbl_min (over 0 a) b.length), Nat.one_mul]

theorem num_apart : ((List.range 256).all fun a => (List.range a).all fun b => num a != num b) = true := by decide +kernel
theorem num_ne {a b : Nat} (ha : a < 256) (hb : b < a) : num a ≠ num b := by
  have h := List.all_eq_true.1 (List.all_eq_true.1 num_apart a (List.mem_range.2 ha)) b (List.mem_range.2 hb)
  simpa using h

/-- the difference of two numbers, doubled k times -/
theorem over_other (p q : List UInt8) (x y : UInt8) :
    ((over 0 (p ++ [x] ++ q) : Nat) - (over 0 (p ++ [y] ++ q) : Nat) : Int) % (M : Int) = (dbl ((((num x.toNat : Nat) : Int) - ((num y.toNat : Nat) : Int)) % (M : Int)).toNat (min q.length 64) : Nat) := by
  have hM : (0 : Int) < (M : Int) := by have := M_pos; omega
  have key : ∀ z : UInt8, ((over 0 (p ++ [z] ++ q) : Nat) : Int) % (M : Int) = (2 ^ q.length * (2 * ((over 0 p : Nat) : Int) + (num z.toNat : Nat)) + (over 0 q : Nat)) % (M : Int) := by
    intro z
    have h1 : over 0 (p ++ [z] ++ q) % M = (2 ^ q.length * (2 * over 0 p + num z.toNat) + over 0 q) % M := by
      rw [over_append, over_mod, over_snoc, cong (roll_mod _ _)]
    have h2 := congrArg (fun n : Nat => (n : Int)) h1
    simpa using h2
  have hD0 : 0 ≤ (((num x.toNat : Nat) : Int) - ((num y.toNat : Nat) : Int)) % (M : Int) := Int.emod_nonneg _ (by omega)
  have hD1 : (((num x.toNat : Nat) : Int) - ((num y.toNat : Nat) : Int)) % (M : Int) < (M : Int) := Int.emod_lt_of_pos _ hM
  have hd : ∃ d : Nat, (((num x.toNat : Nat) : Int) - ((num y.toNat : Nat) : Int)) % (M : Int) = (d : Int) := ⟨_, (Int.toNat_of_nonneg hD0).symm⟩
  obtain ⟨d, hd⟩ := hd
  rw [hd, Int.toNat_natCast]
  have hdlt : d < M := by omega
  have e1 : ((dbl d (min q.length 64) : Nat) : Int) = (2 ^ q.length * (d : Int)) % (M : Int) := by
    have h := dbl_min d q.length
    rw [Nat.mod_eq_of_lt (dbl_lt d hdlt _)] at h
    rw [h]; simp
  rw [e1, ← hd, Int.sub_emod, key x, key y, ← Int.sub_emod, Int.mul_emod, Int.emod_emod_of_dvd _ (Int.dvd_refl _), ← Int.mul_emod]
  congr 1
  generalize ((2 : Int) ^ q.length) = t
  grind

end Gear
end Go.Proofs.Ytiblljellcgjbaa
