/-
  Plain facts on where chunks end. No program is named.
-/
import Derived.Test.YtiblljellcgjbaaGearPlain
namespace Go.Proofs.Ytiblljellcgjbaa
namespace Cut
open Gear (roll roll_lt M)

/-- is the byte behind which a hash is h, of a chunk of so many bytes, no end? -/
def more (size h : Nat) : Bool := decide (size < 1024) && (decide (size < 64) || decide (h / 72057594037927936 ≠ 0))

/-- the ends: i bytes have gone by, the chunk began at f, its hash is h -/
def ends (i f h : Nat) : List UInt8 → List Nat
  | [] => if f < i then [i] else []
  | b :: l => if more (i + 1 - f) (roll h b.toNat) then ends (i + 1) f (roll h b.toNat) l else (i + 1) :: ends (i + 1) (i + 1) 0 l

theorem ends_nil_lt {i f h : Nat} (hf : f < i) : ends i f h [] = [i] := by simp [ends, hf]
theorem ends_nil_ge {i f h : Nat} (hf : ¬ f < i) : ends i f h [] = [] := by simp [ends, hf]
theorem ends_more {i f h : Nat} {b : UInt8} {l : List UInt8} (hm : more (i + 1 - f) (roll h b.toNat) = true) : ends i f h (b :: l) = ends (i + 1) f (roll h b.toNat) l := by rw [ends, if_pos hm]
theorem ends_stop {i f h : Nat} {b : UInt8} {l : List UInt8} (hm : more (i + 1 - f) (roll h b.toNat) = false) : ends i f h (b :: l) = (i + 1) :: ends (i + 1) (i + 1) 0 l := by rw [ends, if_neg (by simp [hm])]

/-- where the chunks of data end -/
def E (d : List UInt8) : List Nat := ends 0 0 0 d

/-- the pieces of d between ends -/
def pieces (d : List UInt8) (f : Nat) : List Nat → List (List UInt8)
  | [] => []
  | e :: l => (d.drop f).take (e - f) :: pieces d e l
def last (f : Nat) : List Nat → Nat
  | [] => f
  | e :: l => last e l
theorem last_snoc (f : Nat) (l : List Nat) (e : Nat) : last f (l ++ [e]) = e := by
  induction l generalizing f with
  | nil => rfl
  | cons a l ih => exact ih a
theorem pieces_snoc (d : List UInt8) (f : Nat) (l : List Nat) (e : Nat) : pieces d f (l ++ [e]) = pieces d f l ++ [(d.drop (last f l)).take (e - last f l)] := by
  induction l generalizing f with
  | nil => rfl
  | cons a l ih => simp only [List.cons_append, pieces, ih, last]
theorem pieces_length (d : List UInt8) (f : Nat) (l : List Nat) : (pieces d f l).length = l.length := by
  induction l generalizing f with
  | nil => rfl
  | cons a l ih => simp [pieces, ih]
theorem last_append (f : Nat) (a b : List Nat) : last f (a ++ b) = last (last f a) b := by
  induction a generalizing f with
  | nil => rfl
  | cons x a ih => exact ih x
theorem pieces_append (d : List UInt8) (f : Nat) (a b : List Nat) : pieces d f (a ++ b) = pieces d f a ++ pieces d (last f a) b := by
  induction a generalizing f with
  | nil => rfl
  | cons x a ih => simp only [List.cons_append, pieces, ih, last]

/-- ends rise, from f on, up to the length -/
theorem ends_bounds (l : List UInt8) (i f h : Nat) (hf : f ≤ i) (h1 : i - f ≤ 1023) : ∀ pre e suf, ends i f h l = pre ++ e :: suf → last f pre < e ∧ e ≤ i + l.length ∧ e - last f pre ≤ 1024 := by
  induction l generalizing i f h with
  | nil =>
    intro pre e suf hq
    by_cases hi : f < i
    · rw [ends_nil_lt hi] at hq
      cases pre with
      | nil => simp at hq; obtain ⟨rfl, _⟩ := hq; simp [last]; omega
      | cons a pre => simp at hq
    · rw [ends_nil_ge hi] at hq; simp at hq
  | cons b l ih =>
    intro pre e suf hq
    by_cases hm : more (i + 1 - f) (roll h b.toNat) = true
    · rw [ends_more hm] at hq
      simp [more] at hm
      obtain ⟨a1, a2, a3⟩ := ih (i + 1) f _ (by omega) (by omega) pre e suf hq
      simp; omega
    · rw [ends_stop (by simpa using hm)] at hq
      cases pre with
      | nil =>
        simp at hq
        obtain ⟨rfl, _⟩ := hq
        simp [last]; omega
      | cons a pre =>
        simp at hq
        obtain ⟨rfl, hq⟩ := hq
        obtain ⟨a1, a2, a3⟩ := ih (i + 1) (i + 1) 0 (by omega) (by omega) pre e suf hq
        simp [last]
        omega

theorem ends_length (l : List UInt8) (i f h : Nat) : (ends i f h l).length ≤ l.length + (if f < i then 1 else 0) := by
  induction l generalizing i f h with
  | nil => by_cases hi : f < i <;> simp [ends, hi]
  | cons b l ih =>
    by_cases hm : more (i + 1 - f) (roll h b.toNat) = true
    · rw [ends_more hm]
      have := ih (i + 1) f (roll h b.toNat)
      simp at this ⊢
      by_cases h1 : f < i
      · simp [h1] at this ⊢; split at this <;> omega
      · by_cases h2 : f < i + 1
        · simp [h2] at this; simp [h1]; omega
        · simp [h2] at this; simp [h1]; omega
    · rw [ends_stop (by simpa using hm)]
      have := ih (i + 1) (i + 1) 0
      simp at this ⊢; omega
theorem E_length (d : List UInt8) : (E d).length ≤ d.length := by
  have := ends_length d 0 0 0
  simpa [E] using this

end Cut
end Go.Proofs.Ytiblljellcgjbaa
