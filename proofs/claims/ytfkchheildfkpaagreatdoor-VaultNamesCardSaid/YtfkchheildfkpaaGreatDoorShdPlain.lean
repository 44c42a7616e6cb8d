/-
 Plain words for names and hexes: what a hex is, what a name is, that names tell apart. No program is named.
-/
import Derived.WalkKit
import Derived.Lib.ItoaMem
import Derived.Lib.AtoiAll
import Derived.Lib.IndexMore
namespace Go.Proofs.YtfkchheildfkpaaGreatDoor
namespace Shd
open Go.Lib
def hexd (n : Nat) : UInt8 := if n < 10 then UInt8.ofNat (48 + n) else UInt8.ofNat (87 + n)
def hexL : List UInt8 → List UInt8
 | [] => []
 | b :: r => hexd (b.toNat / 16) :: hexd (b.toNat % 16) :: hexL r
def hexn (c : UInt8) : Option Nat := if 48 ≤ c.toNat ∧ c.toNat ≤ 57 then some (c.toNat - 48) else if 97 ≤ c.toNat ∧ c.toNat ≤ 102 then some (c.toNat - 87) else none
def unhexL : List UInt8 → Option (List UInt8)
 | [] => some []
 | [_] => none
 | a :: b :: r =>
   match hexn a, hexn b, unhexL r with
   | some x, some y, some l => some (UInt8.ofNat (x * 16 + y) :: l)
   | _, _, _ => none
theorem hexd_toNat (n : Nat) (h : n < 16) : (hexd n).toNat = if n < 10 then 48 + n else 87 + n := by
 unfold hexd
 by_cases h' : n < 10
 · rw [if_pos h', if_pos h', UInt8.toNat_ofNat']; omega
 · rw [if_neg h', if_neg h', UInt8.toNat_ofNat']; omega
theorem hexn_hexd (n : Nat) (h : n < 16) : hexn (hexd n) = some n := by
 unfold hexn
 rw [hexd_toNat n h]
 by_cases h' : n < 10
 · rw [if_pos h', if_pos (by omega)]; congr 1; omega
 · rw [if_neg h', if_neg (by omega), if_pos (by omega)]; congr 1; omega
theorem hexd_ne (n : Nat) (h : n < 16) : hexd n ≠ 46 := by
 intro e
 have h1 := hexd_toNat n h
 rw [e] at h1
 have h2 : (46 : UInt8).toNat = 46 := rfl
 rw [h2] at h1
 by_cases h' : n < 10
 · rw [if_pos h'] at h1; omega
 · rw [if_neg h'] at h1; omega
theorem b_div (b : UInt8) : b.toNat / 16 < 16 := by have := b.toNat_lt; omega
theorem b_mod (b : UInt8) : b.toNat % 16 < 16 := by omega
theorem unhex_hex (l : List UInt8) : unhexL (hexL l) = some l := by
 induction l with
 | nil => rfl
 | cons b r ih =>
   rw [hexL, unhexL, hexn_hexd _ (b_div b), hexn_hexd _ (b_mod b), ih]
   simp only [Option.some.injEq, List.cons.injEq, and_true]
   apply UInt8.toNat_inj.1
   rw [UInt8.toNat_ofNat']
   have := b.toNat_lt
   omega
theorem hex_inj (a b : List UInt8) (h : hexL a = hexL b) : a = b := by
 have h1 := unhex_hex a
 rw [h, unhex_hex b] at h1
 exact (Option.some.inj h1).symm
theorem hex_len (l : List UInt8) : (hexL l).length = 2 * l.length := by
 induction l with
 | nil => rfl
 | cons b r ih => rw [hexL, List.length_cons, List.length_cons, List.length_cons, ih]; omega
theorem hex_no46 (l : List UInt8) : (46 : UInt8) ∉ hexL l := by
 induction l with
 | nil => simp [hexL]
 | cons b r ih =>
   rw [hexL]
   simp only [List.mem_cons, not_or]
   exact ⟨fun e => hexd_ne _ (b_div b) e.symm, fun e => hexd_ne _ (b_mod b) e.symm, ih⟩
theorem hex_append (a b : List UInt8) : hexL (a ++ b) = hexL a ++ hexL b := by
 induction a with
 | nil => rfl
 | cons x r ih => rw [List.cons_append, hexL, hexL, ih]; rfl
/-! numerals -/
def val (l : List UInt8) : Nat := l.foldl (fun a c => a * 10 + (c.toNat - 48)) 0
theorem val_snoc (l : List UInt8) (c : UInt8) : val (l ++ [c]) = val l * 10 + (c.toNat - 48) := by
 unfold val; rw [List.foldl_append]; rfl
theorem val_dec (u : Nat) : val (decDigits u) = u := by
 induction u using Nat.strongRecOn with
 | _ u ih =>
   rw [decDigits]
   by_cases h : u < 10
   · rw [dif_pos h]
     show 0 * 10 + ((UInt8.ofNat (48 + u)).toNat - 48) = u
     rw [UInt8.toNat_ofNat']; omega
   · rw [dif_neg h, val_snoc, ih (u / 10) (by omega), UInt8.toNat_ofNat']; omega
theorem dec_inj (a b : Nat) (h : decDigits a = decDigits b) : a = b := by rw [← val_dec a, h, val_dec]
theorem dec_digit (u : Nat) : ∀ c ∈ decDigits u, 48 ≤ c.toNat ∧ c.toNat ≤ 57 := by
 induction u using Nat.strongRecOn with
 | _ u ih =>
   intro c hc
   rw [decDigits] at hc
   by_cases h : u < 10
   · rw [dif_pos h, List.mem_singleton] at hc
     rw [hc, UInt8.toNat_ofNat']; omega
   · rw [dif_neg h, List.mem_append, List.mem_singleton] at hc
     rcases hc with hc | hc
     · exact ih (u / 10) (by omega) c hc
     · rw [hc, UInt8.toNat_ofNat']; omega
theorem itoa_inj (a b : Int) (h : itoa a = itoa b) : a = b := by
 unfold itoa at h
 have hd : ∀ (u : Nat) (r : List UInt8), decDigits u ≠ 45 :: r := fun u r e => by
   have := dec_digit u 45 (by rw [e]; exact List.mem_cons_self ..)
   have h2 : (45 : UInt8).toNat = 45 := rfl
   omega
 by_cases ha : a < 0
 · by_cases hb : b < 0
   · rw [if_pos ha, if_pos hb, List.cons.injEq] at h
     have := dec_inj _ _ h.2; omega
   · rw [if_pos ha, if_neg hb] at h
     exact absurd h.symm (hd _ _)
 · by_cases hb : b < 0
   · rw [if_neg ha, if_pos hb] at h
     exact absurd h (hd _ _)
   · rw [if_neg ha, if_neg hb] at h
     have := dec_inj _ _ h; omega
def nameL (d : List UInt8) (i : Int) : List UInt8 := hexL d ++ 46 :: itoa i
theorem split46 : ∀ (a b x y : List UInt8), (46 : UInt8) ∉ a → (46 : UInt8) ∉ b → a ++ 46 :: x = b ++ 46 :: y → a = b ∧ x = y
 | [], [], x, y, _, _, h => ⟨rfl, by simpa using h⟩
 | [], c :: b, x, y, _, hb, h => by
   simp only [List.nil_append, List.cons_append, List.cons.injEq] at h
   exact absurd (h.1 ▸ List.mem_cons_self ..) hb
 | c :: a, [], x, y, ha, _, h => by
   simp only [List.nil_append, List.cons_append, List.cons.injEq] at h
   exact absurd (h.1 ▸ List.mem_cons_self ..) ha
 | c :: a, d :: b, x, y, ha, hb, h => by
   simp only [List.cons_append, List.cons.injEq] at h
   obtain ⟨h1, h2⟩ := split46 a b x y (fun e => ha (List.mem_cons_of_mem _ e)) (fun e => hb (List.mem_cons_of_mem _ e)) h.2
   exact ⟨by rw [h.1, h1], h2⟩
theorem name_inj (d e : List UInt8) (i j : Int) (h : nameL d i = nameL e j) : d = e ∧ i = j := by
 obtain ⟨h1, h2⟩ := split46 _ _ _ _ (hex_no46 d) (hex_no46 e) h
 exact ⟨hex_inj _ _ h1, itoa_inj _ _ h2⟩
def Parsed (name d : List UInt8) (n : Nat) : Prop := d.length = 32 ∧ n < 12 ∧ name = nameL d n
theorem Parsed.one {name d e : List UInt8} {n m : Nat} (h : Parsed name d n) (k : Parsed name e m) : d = e ∧ n = m := by
 obtain ⟨_, _, h⟩ := h
 obtain ⟨_, _, k⟩ := k
 rw [h] at k
 obtain ⟨h1, h2⟩ := name_inj _ _ _ _ k
 exact ⟨h1, by omega⟩
end Shd
end Go.Proofs.YtfkchheildfkpaaGreatDoor
