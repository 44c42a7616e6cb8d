/-
  Plain facts on the rolling hash: a byte's number, one step, a row of bytes. No program is named here.
-/
import Derived.Lib.Hide
namespace Go.Proofs.Ytiblljellcgjbaa
namespace Gear

/-- 2^64, kept behind a name -/
def M : Nat := 18446744073709551616
theorem M_val : M = 2 ^ 64 := by unfold M; rfl
theorem M_pos : 0 < M := by unfold M; omega

def x0 (b : Nat) : Nat := (b + 1) * 11400714819323198485 % 18446744073709551616
def x1 (b : Nat) : Nat := (x0 b ^^^ x0 b / 1073741824) * 13787848793156543929 % 18446744073709551616
def x2 (b : Nat) : Nat := (x1 b ^^^ x1 b / 134217728) * 10723151780598845931 % 18446744073709551616
def num (b : Nat) : Nat := x2 b ^^^ x2 b / 2147483648

theorem x2_lt (b : Nat) : x2 b < 2 ^ 64 := by unfold x2; exact Nat.mod_lt _ (by omega)
theorem num_lt (b : Nat) : num b < M := by
  have h := x2_lt b
  rw [M_val]
  unfold num
  exact Nat.xor_lt_two_pow h (Nat.lt_of_le_of_lt (Nat.div_le_self _ _) h)

theorem x0_lt (b : Nat) : x0 b < 18446744073709551616 := by unfold x0; exact Nat.mod_lt _ (by omega)
theorem x1_lt (b : Nat) : x1 b < 18446744073709551616 := by unfold x1; exact Nat.mod_lt _ (by omega)
theorem x2_lt' (b : Nat) : x2 b < 18446744073709551616 := by unfold x2; exact Nat.mod_lt _ (by omega)
theorem x1_eq (b : Nat) : x1 b = (x0 b ^^^ x0 b / 1073741824) * 13787848793156543929 % 18446744073709551616 := by unfold x1; omega
theorem x2_eq (b : Nat) : x2 b = (x1 b ^^^ x1 b / 134217728) * 10723151780598845931 % 18446744073709551616 := by unfold x2; omega
theorem num_eq (b : Nat) : (x2 b ^^^ x2 b / 2147483648) * 1 % 18446744073709551616 = num b := by
  rw [Nat.mul_one]
  have h := num_lt b
  unfold M at h
  rw [show (x2 b ^^^ x2 b / 2147483648) = num b from by unfold num; omega]
  exact Nat.mod_eq_of_lt h

def roll (h b : Nat) : Nat := (2 * h + num b) % M
theorem roll_lt (h b : Nat) : roll h b < M := Nat.mod_lt _ M_pos

def over (h : Nat) (l : List UInt8) : Nat := l.foldl (fun h b => roll h b.toNat) h
theorem over_nil (h : Nat) : over h [] = h := rfl
theorem over_cons (h : Nat) (b : UInt8) (l : List UInt8) : over h (b :: l) = over (roll h b.toNat) l := rfl
theorem over_append (h : Nat) (a b : List UInt8) : over h (a ++ b) = over (over h a) b := List.foldl_append
theorem over_snoc (h : Nat) (l : List UInt8) (b : UInt8) : over h (l ++ [b]) = roll (over h l) b.toNat := by rw [over_append, over_cons, over_nil]
theorem over_lt (h : Nat) (hh : h < M) (l : List UInt8) : over h l < M := by
  induction l generalizing h with
  | nil => exact hh
  | cons b l ih => exact ih _ (roll_lt _ _)

end Gear
end Go.Proofs.Ytiblljellcgjbaa
