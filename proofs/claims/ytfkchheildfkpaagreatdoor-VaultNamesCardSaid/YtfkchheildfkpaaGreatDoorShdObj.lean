/-
 Plain words for a shard's object: its bytes, what is read of them; a digest is any function to 32 bytes. No program is named.
-/
import Derived.Test.YtfkchheildfkpaaGreatDoorShdPlain
namespace Go.Proofs.YtfkchheildfkpaaGreatDoor
namespace Shd
open Go.Lib
structure Shard where
 (K N idx : Int)
 (dig pay : List UInt8)
def codeB (k n : Int) : Bool := decide (1 ≤ k) && (decide (k ≤ n) && decide (n ≤ 12))
def Shard.May (s : Shard) : Prop := 1 ≤ s.K ∧ s.K ≤ s.N ∧ s.N ≤ 12 ∧ s.dig.length = 32 ∧ 0 ≤ s.idx ∧ s.idx < s.N
def by8 (n : Int) : UInt8 := UInt8.ofNat (n % 256).toNat
theorem by8_toNat (n : Int) : ((by8 n).toNat : Int) = n % 256 := by
 unfold by8
 rw [UInt8.toNat_ofNat']
 omega
theorem by8_inj (a b : Int) (h : by8 a = by8 b) : a % 256 = b % 256 := by rw [← by8_toNat, h, by8_toNat]
theorem by8_small (n : Int) (h0 : 0 ≤ n) (h : n < 256) : ((by8 n).toNat : Int) = n := by rw [by8_toNat]; omega
def binL (k n i len : Int) : List UInt8 := [by8 k, by8 n, by8 i, by8 (len / 16777216), by8 (len / 65536), by8 (len / 256), by8 len]
theorem binL_len (k n i len : Int) : (binL k n i len).length = 7 := rfl
def markL : List UInt8 := [115, 104, 100, 49]
def Shard.body (s : Shard) : List UInt8 := markL ++ (binL s.K s.N s.idx s.pay.length ++ (s.dig ++ s.pay))
section
variable (D : List UInt8 → List UInt8)
def Shard.data (s : Shard) : List UInt8 := s.body ++ D s.body
def readS (l : List UInt8) : Shard := ⟨((l.getD 4 0).toNat : Int), ((l.getD 5 0).toNat : Int), ((l.getD 6 0).toNat : Int), (l.drop 11).take 32, (l.drop 43).take (l.length - 75)⟩
def Sound (name l : List UInt8) (s : Shard) : Prop := s.May ∧ s.pay.length ≤ 65461 ∧ l = s.data D ∧ name = nameL s.dig s.idx
variable {D}
theorem body_len (s : Shard) (h : s.dig.length = 32) : s.body.length = 43 + s.pay.length := by
 unfold Shard.body
 simp only [List.length_append, binL_len, h]
 show 4 + _ = _
 omega
theorem data_len (hD : ∀ l, (D l).length = 32) (s : Shard) (h : s.dig.length = 32) : (s.data D).length = 75 + s.pay.length := by
 unfold Shard.data
 rw [List.length_append, hD, body_len s h]; omega
theorem data_head (s : Shard) : ((s.data D).drop 4).take 7 = binL s.K s.N s.idx s.pay.length := rfl
theorem data_drop11 (s : Shard) : (s.data D).drop 11 = s.dig ++ (s.pay ++ D s.body) := by
 show (s.dig ++ s.pay) ++ D s.body = _
 rw [List.append_assoc]
theorem data_dig (s : Shard) (h : s.dig.length = 32) : ((s.data D).drop 11).take 32 = s.dig := by
 rw [data_drop11, ← h, List.take_left]
theorem data_drop43 (s : Shard) (h : s.dig.length = 32) : (s.data D).drop 43 = s.pay ++ D s.body := by
 rw [show 43 = 11 + 32 from rfl, ← List.drop_drop, data_drop11, ← h, List.drop_left]
theorem data_pay (hD : ∀ l, (D l).length = 32) (s : Shard) (h : s.dig.length = 32) : ((s.data D).drop 43).take ((s.data D).length - 75) = s.pay := by
 rw [data_drop43 s h, data_len hD s h, show 75 + s.pay.length - 75 = s.pay.length by omega, List.take_left]
theorem getD_of_head {l : List UInt8} {a b c d e f g : UInt8} (h : (l.drop 4).take 7 = [a, b, c, d, e, f, g]) : l.getD 4 0 = a ∧ l.getD 5 0 = b ∧ l.getD 6 0 = c := by
 have hx : ∀ j, j < 7 → l[4 + j]? = [a, b, c, d, e, f, g][j]? := fun j hj => by
   rw [← h, List.getElem?_take_of_lt hj, List.getElem?_drop]
 refine ⟨?_, ?_, ?_⟩
 · have := hx 0 (by omega); simp only [List.getD, this]; rfl
 · have := hx 1 (by omega); simp only [List.getD, this]; rfl
 · have := hx 2 (by omega); simp only [List.getD, this]; rfl
theorem Sound.eq (hD : ∀ l, (D l).length = 32) {name l : List UInt8} {s : Shard} (h : Sound D name l s) : s = readS l := by
 obtain ⟨⟨h1, h2, h3, h4, h5, h6⟩, hp, rfl, hn⟩ := h
 obtain ⟨g4, g5, g6⟩ := getD_of_head (data_head (D := D) s)
 unfold readS
 rw [g4, g5, g6, data_dig s h4, data_pay hD s h4, by8_small _ (by omega) (by omega), by8_small _ (by omega) (by omega), by8_small _ (by omega) (by omega)]
def Looks (D : List UInt8 → List UInt8) (name l : List UInt8) : Prop :=
 75 ≤ l.length ∧ l.length ≤ 65536 ∧ l.take 4 = markL ∧ (l.drop 4).take 7 = binL (readS l).K (readS l).N (readS l).idx ((readS l).pay.length : Int) ∧ codeB (readS l).K (readS l).N = true ∧ (readS l).idx < (readS l).N ∧
   l.drop (l.length - 32) = D (l.take (l.length - 32)) ∧ name = nameL (readS l).dig (readS l).idx
theorem codeB_iff (k n : Int) : codeB k n = true ↔ 1 ≤ k ∧ k ≤ n ∧ n ≤ 12 := by simp [codeB]
theorem Sound.one (hD : ∀ l, (D l).length = 32) {name l : List UInt8} {s t : Shard} (h : Sound D name l s) (k : Sound D name l t) : s = t := (h.eq hD).trans (k.eq hD).symm
theorem binL_len_inj (k n i a k' n' i' b : Int) (ha : 0 ≤ a) (ha' : a < 65536) (hb : 0 ≤ b) (hb' : b < 65536) (h : binL k n i a = binL k' n' i' b) : a = b := by
 unfold binL at h
 simp only [List.cons.injEq, and_true] at h
 obtain ⟨_, _, _, _, h5, h6, h7⟩ := h
 have := by8_inj _ _ h5
 have := by8_inj _ _ h6
 have := by8_inj _ _ h7
 omega
theorem Sound.len (hD : ∀ l, (D l).length = 32) {n1 n2 l m : List UInt8} {s t : Shard} (h : Sound D n1 l s) (k : Sound D n2 m t) (hx : l.take 11 = m.take 11) : l.length = m.length := by
 obtain ⟨⟨h1, h2, h3, h4, h5, h6⟩, hp, rfl, hn⟩ := h
 obtain ⟨⟨k1, k2, k3, k4, k5, k6⟩, kp, rfl, kn⟩ := k
 have h7 := data_head (D := D) s
 have k7 := data_head (D := D) t
 have e : ∀ l : List UInt8, (l.drop 4).take 7 = (l.take 11).drop 4 := fun l => by rw [List.drop_take]
 rw [e, hx, ← e, k7] at h7
 have := binL_len_inj _ _ _ _ _ _ _ _ (by omega) (by omega) (by omega) (by omega) h7
 rw [data_len hD s h4, data_len hD t k4]; omega
end
end Shd
end Go.Proofs.YtfkchheildfkpaaGreatDoor
