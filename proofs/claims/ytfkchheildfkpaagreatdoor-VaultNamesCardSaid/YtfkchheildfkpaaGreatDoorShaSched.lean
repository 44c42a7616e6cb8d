/-
 Plain words for SHA-256: the words of a block. No program is named.
-/
import Derived.Test.YtfkchheildfkpaaGreatDoorShaBits
import Derived.Test.YtfkchheildfkpaaGreatDoorMem
namespace Go.Proofs.YtfkchheildfkpaaGreatDoor
open Go.RowKit
namespace Sha
def at8 (b : List UInt8) (i : Nat) : Int := ((b.getD i 0).toNat : Int)
theorem at8_pos (b : List UInt8) (i : Nat) : 0 ≤ at8 b i := by unfold at8; omega
theorem at8_lt (b : List UInt8) (i : Nat) : at8 b i < 256 := by unfold at8; have := (b.getD i 0).toNat_lt; omega
def wd (b : List UInt8) (i : Nat) : Int := at8 b (4 * i) * 16777216 + at8 b (4 * i + 1) * 65536 + at8 b (4 * i + 2) * 256 + at8 b (4 * i + 3)
def s0 (x : Int) : Int := bits .xor .u32 (bits .xor .u32 (rotr x 7) (rotr x 18)) (x / 8)
def s1 (x : Int) : Int := bits .xor .u32 (bits .xor .u32 (rotr x 17) (rotr x 19)) (x / 1024)
def nextW (l : List Int) : Int := (l.getD (l.length - 16) 0 + l.getD (l.length - 7) 0 + s0 (l.getD (l.length - 15) 0) + s1 (l.getD (l.length - 2) 0)) % 4294967296
def growW : Nat → List Int → List Int
 | 0, l => l
 | n + 1, l => growW n (l ++ [nextW l])
def headW (b : List UInt8) (n : Nat) : List Int := (List.range n).map (wd b)
theorem headW_succ (b : List UInt8) (n : Nat) : headW b (n + 1) = headW b n ++ [wd b n] := by simp [headW, List.range_succ]
theorem headW_length (b : List UInt8) (n : Nat) : (headW b n).length = n := by simp [headW]
def sched (b : List UInt8) : List Int := growW 48 (headW b 16)
theorem growW_length (n : Nat) (l : List Int) : (growW n l).length = l.length + n := by
 induction n generalizing l with
 | zero => rfl
 | succ n ih => rw [growW, ih]; simp; omega
theorem sched_length (b : List UInt8) : (sched b).length = 64 := by rw [sched, growW_length, headW_length]
def u32s (l : List Int) : List Value := l.map fun x => Value.int .u32 x
def Small (l : List Int) : Prop := ∀ x ∈ l, 0 ≤ x ∧ x < 4294967296
theorem Small.get {l : List Int} (h : Small l) (i : Nat) : 0 ≤ l.getD i 0 ∧ l.getD i 0 < 4294967296 := by
 rcases Nat.lt_or_ge i l.length with hl | hl
 · rw [List.getD, List.getElem?_eq_getElem hl]; exact h _ (List.getElem_mem hl)
 · rw [List.getD, List.getElem?_eq_none hl]; exact ⟨by simp, by simp⟩
theorem Small.snoc {l : List Int} (h : Small l) {x : Int} (h0 : 0 ≤ x) (h1 : x < 4294967296) : Small (l ++ [x]) := by
 intro y hy
 rcases List.mem_append.1 hy with hy | hy
 · exact h y hy
 · rw [List.mem_singleton.1 hy]; exact ⟨h0, h1⟩
theorem wd_range (b : List UInt8) (i : Nat) : 0 ≤ wd b i ∧ wd b i < 4294967296 := by
 have h1 := at8_lt b (4 * i); have h2 := at8_lt b (4 * i + 1); have h3 := at8_lt b (4 * i + 2); have h4 := at8_lt b (4 * i + 3)
 have g1 := at8_pos b (4 * i); have g2 := at8_pos b (4 * i + 1); have g3 := at8_pos b (4 * i + 2); have g4 := at8_pos b (4 * i + 3)
 unfold wd
 omega
theorem word_or (a b c d : Int) (a0 : 0 ≤ a) (a1 : a < 256) (b0 : 0 ≤ b) (b1 : b < 256) (c0 : 0 ≤ c) (c1 : c < 256) (d0 : 0 ≤ d) (d1 : d < 256) :
   bits .or .u32 (bits .or .u32 (bits .or .u32 (IntKind.u32.wrap (IntKind.u32.wrap a * 16777216)) (IntKind.u32.wrap (IntKind.u32.wrap b * 65536))) (IntKind.u32.wrap (IntKind.u32.wrap c * 256))) (IntKind.u32.wrap d)
     = a * 16777216 + b * 65536 + c * 256 + d := by
 obtain ⟨A, rfl⟩ := Int.eq_ofNat_of_zero_le a0
 obtain ⟨B, rfl⟩ := Int.eq_ofNat_of_zero_le b0
 obtain ⟨C, rfl⟩ := Int.eq_ofNat_of_zero_le c0
 obtain ⟨D, rfl⟩ := Int.eq_ofNat_of_zero_le d0
 have e1 : IntKind.u32.wrap (IntKind.u32.wrap (A : Int) * 16777216) = ((A * 16777216 : Nat) : Int) := by rw [IntKind.wrap_u32', IntKind.wrap_u32']; omega
 have e2 : IntKind.u32.wrap (IntKind.u32.wrap (B : Int) * 65536) = ((B * 65536 : Nat) : Int) := by rw [IntKind.wrap_u32', IntKind.wrap_u32']; omega
 have e3 : IntKind.u32.wrap (IntKind.u32.wrap (C : Int) * 256) = ((C * 256 : Nat) : Int) := by rw [IntKind.wrap_u32', IntKind.wrap_u32']; omega
 have e4 : IntKind.u32.wrap (D : Int) = ((D : Nat) : Int) := by rw [IntKind.wrap_u32']; omega
 rw [e1, e2, e3, e4]
 have o1 : A * 16777216 ||| B * 65536 = A * 16777216 + B * 65536 := by
   have h := Nat.two_pow_add_eq_or_of_lt (i := 24) (b := B * 65536) (by omega) A
   rw [Nat.mul_comm] at h; exact h.symm
 have o2 : (A * 16777216 + B * 65536) ||| C * 256 = A * 16777216 + B * 65536 + C * 256 := by
   have h := Nat.two_pow_add_eq_or_of_lt (i := 16) (b := C * 256) (by omega) (A * 256 + B)
   rw [show 2 ^ 16 * (A * 256 + B) = A * 16777216 + B * 65536 by omega] at h; exact h.symm
 have o3 : (A * 16777216 + B * 65536 + C * 256) ||| D = A * 16777216 + B * 65536 + C * 256 + D := by
   have h := Nat.two_pow_add_eq_or_of_lt (i := 8) (b := D) (by omega) (A * 65536 + B * 256 + C)
   rw [show 2 ^ 8 * (A * 65536 + B * 256 + C) = A * 16777216 + B * 65536 + C * 256 by omega] at h; exact h.symm
 rw [u32_or_nat _ _ (by omega) (by omega), o1, u32_or_nat _ _ (by omega) (by omega), o2, u32_or_nat _ _ (by omega) (by omega), o3]
 omega
theorem nextW_range (l : List Int) : 0 ≤ nextW l ∧ nextW l < 4294967296 := by unfold nextW; omega
theorem headW_small (b : List UInt8) (n : Nat) : Small (headW b n) := by
 intro x hx
 obtain ⟨i, _, rfl⟩ := List.mem_map.1 hx
 exact wd_range b i
theorem growW_small (n : Nat) (l : List Int) (h : Small l) : Small (growW n l) := by
 induction n generalizing l with
 | zero => exact h
 | succ n ih => exact ih _ (h.snoc (nextW_range l).1 (nextW_range l).2)
theorem sched_small (b : List UInt8) : Small (sched b) := growW_small _ _ (headW_small b 16)
def cells64 (l : List Int) : Array Value := (u32s l ++ List.replicate (64 - l.length) (Value.int .u32 0)).toArray
theorem cells64_get (l : List Int) (i : Nat) (h : i < l.length) : (cells64 l)[i]? = some (.int .u32 (l.getD i 0)) := by
 simp [cells64, u32s, h, List.getElem?_append_left]
theorem cells64_zero (l : List Int) (h : l.length < 64) : (cells64 l)[l.length]? = some (.int .u32 0) := by
 have hl : (u32s l).length = l.length := by simp [u32s]
 simp only [cells64, List.getElem?_toArray]
 rw [List.getElem?_append_right (by omega), hl, Nat.sub_self, List.getElem?_replicate, if_pos (by omega)]
theorem cells64_set (l : List Int) (x : Int) (h : l.length < 64) : (cells64 l).setIfInBounds l.length (.int .u32 x) = cells64 (l ++ [x]) := by
 apply Array.toList_inj.1
 obtain ⟨m, hm⟩ : ∃ m, 64 - l.length = m + 1 := ⟨63 - l.length, by omega⟩
 simp only [cells64, List.length_append, List.length_cons, List.length_nil, Array.toList_setIfInBounds, List.toList_toArray]
 rw [hm, show 64 - (l.length + 0 + 1) = m by omega, List.replicate_succ]
 have hl : (u32s l).length = l.length := by simp [u32s]
 rw [← hl, List.set_append_right _ _ (Nat.le_refl _), Nat.sub_self, List.set_cons_zero]
 simp [u32s]
end Sha
end Go.Proofs.YtfkchheildfkpaaGreatDoor
