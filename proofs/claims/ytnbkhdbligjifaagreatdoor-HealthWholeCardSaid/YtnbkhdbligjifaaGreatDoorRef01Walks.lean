/-
 The walks of the document's package strongboxref01: Filled. Plain words for the document's roots (strongboxref01): numbers in digits of 16 bits, their products, the root's bits: the same as the program's. No program is named. The walks of the document's package strongboxref01: digits, times, above.
-/
import Derived.Test.YtnbkhdbligjifaaGreatDoorVMaps
import Derived.Test.YtnbkhdbligjifaaGreatDoorInfo
import Derived.Test.YtnbkhdbligjifaaGreatDoorShaCopy
import Derived.Test.YtnbkhdbligjifaaGreatDoorShaSched
set_option linter.unusedVariables false
set_option linter.unusedSimpArgs false
set_option maxRecDepth 100000
set_option maxHeartbeats 40000000
namespace Go.Proofs.YtnbkhdbligjifaaGreatDoor
open Go.RowKit
namespace R1
open Sha
attribute [local go_sem ↓] appSem_eq
def slen : Value → Nat
 | .slice _ n _ => n
 | _ => 0
def onez (k : Nat) : List UInt8 := 128 :: List.replicate k 0
theorem onez_snoc (k : Nat) : onez (k + 1) = onez k ++ [0] := by simp [onez, List.replicate_succ']
theorem cells_snoc (l : List UInt8) (b : UInt8) (x : Int) (h : x = (b.toNat : Int)) : Lib.byteCells l ++ [Value.int .u8 x] = Lib.byteCells (l ++ [b]) := by rw [h]; simp [Lib.byteCells]
def FilledEnd (s : ByteArray) (w : World) (e : Ending) (w' : World) : Prop := ∃ v, e = .returned v ∧ OwnG w' w.heap.size 5 1 v (s.data.toList ++ pad s.size).length (Lib.byteCells (s.data.toList ++ pad s.size)) ∧ Below w.heap.size w w'
theorem filled_any (s : ByteArray) (hs : s.size ≤ 70368744177664) (w : World) :
 Calls Tryz.prog 96 #[.string s] w (FilledEnd s w) := by
 have hsl : s.data.toList.length = s.size := by simp
 have hcv := fun (w : World) => Lib.run_convert_string_bytes (P := Tryz.prog) w 9 136 5 s Tryz.underlying9 Tryz.underlying136 Tryz.underlying5
 have hcw := hcv w
 have hb1 := Lib.bytesWorld_below w 5 s
 have ho1 := ownG_bytes w 5 s w.heap.size (Nat.le_refl _) hs
 have hz1 := Lib.bytesWorld_size w 5 s
 clear hcv
 generalize Lib.bytesWorld w 5 s = w1 at *
 generalize grownCap w s.size 0 5 = c1 at *
 obtain ⟨g5, c5, w5, hrun, hown, hb5, _⟩ := ownG_new (c := 1) (m := 1) (C := #[.int .u8 128]) Tryz.underlying136 info_u8 rfl (by omega) (by omega) ho1 rfl (by simp [Value.oneCell']) (by omega) (by omega) hb1.size
 have HO := Lib.hid hown
 have HB := Lib.hid (hb1.trans hb5)
 have HZ := Lib.hid hz1
 clear hown hb5 hb1 hz1 ho1
 go_enter Tryz.func96, Tryz.ntmps96
 go_wp2_with fail
 have ho := HO.out
 rw [show Lib.byteCells s.data.toList ++ (#[Value.int IntKind.u8 128] : Array Value).toList = Lib.byteCells (s.data.toList ++ onez 0) from cells_snoc _ 128 _ rfl] at ho
 have hbb := HB.out
 clear hrun hcw
 go_loopw [3] (fun v wr => ∃ k : Nat, k ≤ zeros s.size ∧ OwnG wr w.heap.size 5 1 v (s.size + 1 + k) (Lib.byteCells (s.data.toList ++ onez k)) ∧ Below w.heap.size w wr) (fun v _ => s.size + 1 + zeros s.size - slen v)
 case atStart => exact ⟨0, by omega, ho, hbb⟩
 case round =>
  obtain ⟨k, hk, hv, hbl⟩ := hrel
  clear ho hbb
  obtain ⟨A', cap', rfl⟩ := hv.shape
  have hzd : zeros s.size = (119 - s.size % 64) % 64 := rfl
  have hu : (0 : Int) ≤ ((s.size + 1 + k : Nat) : Int) := by omega
  by_cases hlt : k < zeros s.size
  ·have t1 : (((s.size + 1 + k : Nat) : Int) % 64 != 56) = true := by simp; omega
   have hm : (Nat.cast (s.size + 1 + k) : Int) = (s.size : Int) + 1 + (k : Int) := by omega
   rw [hm] at t1 hu
   obtain ⟨g6, c6, w6, hrun, hown, hb6, _⟩ := ownG_new (c := 1) (m := 1) (C := #[.int .u8 0]) Tryz.underlying136 info_u8 rfl (by omega) (by omega) hv rfl (by simp [Value.oneCell']) (by omega) (by omega) hbl.size
   have HO2 := Lib.hid hown
   have HB2 := Lib.hid (hbl.trans hb6)
   clear hown hb6 hzd hm
   go_wp2_with fail
   go_roundw
   case rel => exact ⟨k + 1, by omega, by rw [onez_snoc, ← List.append_assoc, ← cells_snoc _ 0 0 rfl]; exact HO2.out, HB2.out⟩
   case measure => simp [slen]; omega
  ·obtain rfl : k = zeros s.size := by omega
   have t1 : (((s.size + 1 + zeros s.size : Nat) : Int) % 64 != 56) = false := by simp; omega
   have hm : (Nat.cast (s.size + 1 + zeros s.size) : Int) = (s.size : Int) + 1 + (zeros s.size : Int) := by omega
   rw [hm] at t1 hu
   clear hzd hm
   go_wp2_with fail
   have hv0 : OwnG wr w.heap.size 5 1 (.slice A' (s.size + 1 + zeros s.size) cap') (s.size + 1 + zeros s.size + 0) (Lib.byteCells (s.data.toList ++ onez (zeros s.size) ++ (lenBytes s.size).take 0)) := by simpa using hv
   go_loopw [3, 5] (fun v i wr => ∃ (j : Nat) (I : Int), j ≤ 8 ∧ I = 56 - 8 * (j : Int) ∧ i = .int .i64 I ∧ OwnG wr w.heap.size 5 1 v (s.size + 1 + zeros s.size + j) (Lib.byteCells (s.data.toList ++ onez (zeros s.size) ++ (lenBytes s.size).take j)) ∧ Below w.heap.size w wr) (fun _ i _ => (intOf i + 8).toNat)
   case atStart => exact ⟨0, 56, by omega, rfl, rfl, hv0, hbl⟩
   case round =>
    obtain ⟨j, I, hj, hI, rfl, hv, hbl⟩ := hrel
    clear hv0
    obtain ⟨A', cap', rfl⟩ := hv.shape
    by_cases hlt : j < 8
    ·have hlb : (lenBytes s.size).take (j + 1) = (lenBytes s.size).take j ++ [UInt8.ofNat (s.size * 8 % 18446744073709551616 / 256 ^ (7 - j))] := by
      rw [List.take_succ_eq_append_getElem (by simp [lenBytes]; omega)]
      simp [lenBytes]
     have HLB := Lib.hid hlb
     clear hlb
     have HV := Lib.hid hv
     have HBL := Lib.hid hbl
     have HI := Lib.hid hI
     have i0 : 0 ≤ I := by omega
     have i1 : I < 64 := by omega
     clear hv hbl hI
     obtain ⟨X, hX⟩ : ∃ X : Int, (s.size : Int) * 8 / 2 ^ I.toNat % 256 = X := ⟨_, rfl⟩
     have hXB : X = ((UInt8.ofNat (s.size * 8 % 18446744073709551616 / 256 ^ (7 - j))).toNat : Int) := by
      have e1 : I.toNat = 8 * (7 - j) := by have := HI.out; omega
      rw [← hX, e1, UInt8.toNat_ofNat', Nat.mod_eq_of_lt (by omega : s.size * 8 < 18446744073709551616)]
      have e2 : ((s.size : Int) * 8 / 2 ^ (8 * (7 - j))) = ((s.size * 8 / 2 ^ (8 * (7 - j)) : Nat) : Int) := by
       rw [Int.natCast_ediv, Int.natCast_pow, Int.natCast_mul]; rfl
      rw [e2, Nat.pow_mul, show (2 : Nat) ^ 8 = 256 from rfl]
      generalize s.size * 8 / 256 ^ (7 - j) = q
      omega
     obtain ⟨g6, c6, w6, hrun, hown, hb6, _⟩ := ownG_new (c := 1) (m := 1) (C := #[.int .u8 X]) Tryz.underlying136 info_u8 rfl (by omega) (by omega) HV.out rfl (by simp [Value.oneCell']) (by omega) (by have : zeros s.size < 64 := Nat.mod_lt _ (by omega); omega) HBL.out.size
     have HO2 := Lib.hid hown
     have HB2 := Lib.hid (HBL.out.trans hb6)
     have HXB := Lib.hid hXB
     clear hown hb6 hXB
     go_wp2_with fail
     go_roundw
     case rel =>
      refine ⟨j + 1, I - 8, by omega, by have := HI.out; omega, rfl, ?_, HB2.out⟩
      have h1 := HO2.out
      rw [cells_snoc _ _ X HXB.out] at h1
      rw [HLB.out, ← List.append_assoc]
      exact h1
     case measure => simp [intOf]; omega
    ·have hj8 : j = 8 := by omega
     subst hj8
     have hI8 : I = -8 := by omega
     have i0 : ¬ (0 ≤ I) := by omega
     have hz : zeros s.size < 64 := Nat.mod_lt _ (by omega)
     have hpad : s.data.toList ++ onez (zeros s.size) ++ (lenBytes s.size).take 8 = s.data.toList ++ pad s.size := by
      rw [List.take_of_length_le (by simp [lenBytes]), List.append_assoc]; rfl
     have hpl : (s.data.toList ++ pad s.size).length = s.size + 1 + zeros s.size + 8 := by
      rw [List.length_append, hsl, pad]; simp [lenBytes]; omega
     have HV := Lib.hid hv
     have HBL := Lib.hid hbl
     have HP := Lib.hid hpad
     have HL := Lib.hid hpl
     clear hv hbl hpad hpl hI8 hI
     go_wp2_with fail
     go_ret
     refine ⟨_, rfl, ?_, HBL.out⟩
     rw [HL.out, ← HP.out]
     exact HV.out
end R1
end Go.Proofs.YtnbkhdbligjifaaGreatDoor
namespace Go.Proofs.YtnbkhdbligjifaaGreatDoor
open Go.RowKit
namespace R1
def digs (n : Nat) : List Nat := [n % 65536, n / 65536 % 65536, n / 65536 / 65536 % 65536, n / 65536 / 65536 / 65536]
def tIn (ai : Nat) (b : List Nat) (i : Nat) (out : List Nat) : Nat → List Nat × Nat
 | 0 => (out, 0)
 | k + 1 => (((tIn ai b i out k).1.set (i + k) (((tIn ai b i out k).1.getD (i + k) 0 + ai * b.getD k 0 + (tIn ai b i out k).2) % 18446744073709551616 % 65536)),
  ((tIn ai b i out k).1.getD (i + k) 0 + ai * b.getD k 0 + (tIn ai b i out k).2) % 18446744073709551616 / 65536)
def tOut (a b : List Nat) : Nat → List Nat
 | 0 => List.replicate (a.length + b.length) 0
 | i + 1 => (tIn (a.getD i 0) b i (tOut a b i) b.length).1.set (i + b.length) (((tIn (a.getD i 0) b i (tOut a b i) b.length).1.getD (i + b.length) 0 + (tIn (a.getD i 0) b i (tOut a b i) b.length).2) % 18446744073709551616)
def timesL (a b : List Nat) : List Nat := tOut a b a.length
def wantD (n noughts i : Nat) : Nat := if noughts ≤ i ∧ i < noughts + 4 then (digs n).getD (i - noughts) 0 else 0
def aboveL (a : List Nat) (n noughts : Nat) : Nat → Bool
 | 0 => false
 | i + 1 => if a.getD i 0 ≠ wantD n noughts i then decide (wantD n noughts i < a.getD i 0) else aboveL a n noughts i
def cubeL (x root : Nat) : List Nat := if root = 3 then timesL (timesL (digs x) (digs x)) (digs x) else timesL (digs x) (digs x)
def noughtsOf (root : Nat) : Nat := if root = 3 then 6 else 4
def bitsF (n root : Nat) : Nat → Nat → Nat
 | 0, x => x
 | j + 1, x => if aboveL (cubeL (x + 2 ^ j) root) n (noughtsOf root) (cubeL (x + 2 ^ j) root).length then bitsF n root j x else bitsF n root j (x + 2 ^ j)
def val : List Nat → Nat
 | [] => 0
 | d :: t => d + 65536 * val t
def Small (l : List Nat) : Prop := ∀ i, l.getD i 0 < 65536
theorem val_take_succ (l : List Nat) (k : Nat) : val (l.take (k + 1)) = val (l.take k) + l.getD k 0 * 65536 ^ k := by
 induction l generalizing k with
 | nil => simp [val]
 | cons d t ih =>
   cases k with
   | zero => simp [val]
   | succ k =>
     rw [List.take_succ_cons, List.take_succ_cons, val, val, ih k, List.getD_cons_succ, Nat.mul_add, Nat.pow_succ, ← Nat.add_assoc]
     congr 1
     rw [Nat.mul_comm 65536, Nat.mul_assoc]
theorem val_take_lt (l : List Nat) (h : Small l) (k : Nat) : val (l.take k) < 65536 ^ k := by
 induction k with
 | zero => simp [val]
 | succ k ih =>
   rw [val_take_succ, Nat.pow_succ]
   have h1 := Nat.mul_le_mul_right (65536 ^ k) (show l.getD k 0 ≤ 65535 from by have := h k; omega)
   omega
theorem val_set (l : List Nat) (i v : Nat) (h : i < l.length) : val (l.set i v) + l.getD i 0 * 65536 ^ i = val l + v * 65536 ^ i := by
 induction l generalizing i with
 | nil => simp at h
 | cons d t ih =>
   cases i with
   | zero => simp [val]; omega
   | succ i =>
     have := ih i (by simpa using h)
     rw [List.set_cons_succ, val, val, List.getD_cons_succ, Nat.pow_succ, ← Nat.mul_assoc, ← Nat.mul_assoc]
     omega
theorem small_set (l : List Nat) (i v : Nat) (hl : Small l) (hv : v < 65536) : Small (l.set i v) := by
 intro j
 have := hl j
 simp only [List.getD_eq_getElem?_getD, List.getElem?_set] at this ⊢
 split
 ·split <;> simp <;> omega
 ·exact this
theorem tIn_ok (ai : Nat) (b : List Nat) (i : Nat) (out : List Nat) (ha : ai < 65536) (hb : Small b) (ho : Small out) (k : Nat) (hk : k ≤ b.length) (hl : i + b.length ≤ out.length) :
 (tIn ai b i out k).1.length = out.length ∧ Small (tIn ai b i out k).1 ∧ (tIn ai b i out k).2 < 65536 ∧ (∀ j, i + k ≤ j → (tIn ai b i out k).1.getD j 0 = out.getD j 0) ∧
 val (tIn ai b i out k).1 + (tIn ai b i out k).2 * 65536 ^ (i + k) = val out + ai * 65536 ^ i * val (b.take k) := by
 induction k with
 | zero => simp [tIn, val]; exact ho
 | succ k ih =>
   obtain ⟨h1, h2, h3, h4, h5⟩ := ih (by omega)
   rw [tIn]
   generalize hR : tIn ai b i out k = R at *
   obtain ⟨o, c⟩ := R
   simp only at h1 h2 h3 h4 h5 ⊢
   have hbk := hb k
   have hok := h2 (i + k)
   generalize hv : o.getD (i + k) 0 + ai * b.getD k 0 + c = v
   have hm : ai * b.getD k 0 ≤ 65535 * 65535 := Nat.mul_le_mul (by omega) (by omega)
   have hv2 : v % 18446744073709551616 = v := Nat.mod_eq_of_lt (by omega)
   rw [hv2]
   have hs := val_set o (i + k) (v % 65536) (by omega)
   refine ⟨by simpa using h1, small_set _ _ _ h2 (by omega), by omega, fun j hj => ?_, ?_⟩
   ·rw [← h4 j (by omega)]
    simp only [List.getD_eq_getElem?_getD, List.getElem?_set]
    rw [if_neg (by omega)]
   ·rw [val_take_succ, Nat.mul_add, ← Nat.add_assoc (val out), ← h5]
    have e1 : ai * 65536 ^ i * (b.getD k 0 * 65536 ^ k) = ai * b.getD k 0 * 65536 ^ (i + k) := by
     rw [Nat.pow_add]; simp only [Nat.mul_assoc, Nat.mul_left_comm]
    have e2 : v / 65536 * 65536 ^ (i + (k + 1)) = 65536 * (v / 65536) * 65536 ^ (i + k) := by
     rw [← Nat.add_assoc, Nat.pow_succ]; simp only [Nat.mul_comm, Nat.mul_left_comm]; rw [Nat.mul_assoc]
    rw [e1, e2]
    have e3 : (65536 * (v / 65536) + v % 65536) * 65536 ^ (i + k) = v * 65536 ^ (i + k) := by rw [Nat.div_add_mod]
    rw [Nat.add_mul] at e3
    have e4 : v * 65536 ^ (i + k) = o.getD (i + k) 0 * 65536 ^ (i + k) + ai * b.getD k 0 * 65536 ^ (i + k) + c * 65536 ^ (i + k) := by rw [← hv, Nat.add_mul, Nat.add_mul]
    omega
theorem small_zero (n : Nat) : Small (List.replicate n 0) := by
 intro i; simp [List.getD_eq_getElem?_getD, List.getElem?_replicate]; split <;> simp
theorem val_zero (n : Nat) : val (List.replicate n 0) = 0 := by
 induction n with
 | zero => rfl
 | succ n ih => rw [List.replicate_succ, val, ih]
theorem tOut_ok (a b : List Nat) (ha : Small a) (hb : Small b) (i : Nat) (hi : i ≤ a.length) :
 (tOut a b i).length = a.length + b.length ∧ Small (tOut a b i) ∧ (∀ j, i + b.length ≤ j → (tOut a b i).getD j 0 = 0) ∧ val (tOut a b i) = val (a.take i) * val b := by
 induction i with
 | zero =>
   refine ⟨by simp [tOut], small_zero _, fun j _ => ?_, by simp [tOut, val_zero, val]⟩
   simp [tOut, List.getD_eq_getElem?_getD, List.getElem?_replicate]; split <;> simp
 | succ i ih =>
   obtain ⟨h1, h2, h3, h4⟩ := ih (by omega)
   rw [tOut]
   have ht := tIn_ok (a.getD i 0) b i (tOut a b i) (ha i) hb h2 b.length (Nat.le_refl _) (by omega)
   generalize tIn (a.getD i 0) b i (tOut a b i) b.length = R at *
   obtain ⟨o, c⟩ := R
   obtain ⟨g1, g2, g3, g4, g5⟩ := ht
   simp only at g1 g2 g3 g4 g5 ⊢
   have h0 : o.getD (i + b.length) 0 = 0 := by rw [g4 _ (Nat.le_refl _)]; exact h3 _ (Nat.le_refl _)
   rw [h0, Nat.zero_add, Nat.mod_eq_of_lt (by omega)]
   have hs := val_set o (i + b.length) c (by omega)
   refine ⟨by simp; omega, small_set _ _ _ g2 g3, fun j hj => ?_, ?_⟩
   ·have e : (o.set (i + b.length) c).getD j 0 = o.getD j 0 := by
     simp only [List.getD_eq_getElem?_getD, List.getElem?_set]
     rw [if_neg (by omega)]
    rw [e, g4 j (by omega)]
    exact h3 j (by omega)
   ·rw [h0] at hs
    rw [val_take_succ, Nat.add_mul, ← h4]
    rw [List.take_length] at g5
    have e : a.getD i 0 * 65536 ^ i * val b = a.getD i 0 * 65536 ^ i * val b := rfl
    omega
theorem times_ok (a b : List Nat) (ha : Small a) (hb : Small b) : (timesL a b).length = a.length + b.length ∧ Small (timesL a b) ∧ val (timesL a b) = val a * val b := by
 obtain ⟨h1, h2, _, h4⟩ := tOut_ok a b ha hb a.length (Nat.le_refl _)
 refine ⟨h1, h2, ?_⟩
 rw [timesL, h4, List.take_length]
theorem small_digs (n : Nat) (hn : n < 18446744073709551616) : Small (digs n) := by
 intro i
 match i with
 | 0 => show n % 65536 < _; omega
 | 1 => show n / 65536 % 65536 < _; omega
 | 2 => show n / 65536 / 65536 % 65536 < _; omega
 | 3 => show n / 65536 / 65536 / 65536 < _; omega
 | i + 4 => show 0 < _; omega
theorem val_digs (n : Nat) : val (digs n) = n := by
 simp only [digs, val]; omega
theorem wantD_small (n noughts i : Nat) (hn : n < 18446744073709551616) : wantD n noughts i < 65536 := by
 unfold wantD
 split
 ·exact small_digs n hn _
 ·omega
def wants (n noughts m : Nat) : List Nat := (List.range m).map (wantD n noughts)
theorem wants_get (n noughts m i : Nat) (h : i < m) : (wants n noughts m).getD i 0 = wantD n noughts i := by simp [wants, h]
theorem wants_small (n noughts m : Nat) (hn : n < 18446744073709551616) : Small (wants n noughts m) := by
 intro i
 by_cases h : i < m
 ·rw [wants_get _ _ _ _ h]; exact wantD_small _ _ _ hn
 ·rw [List.getD_eq_getElem?_getD, List.getElem?_eq_none (by simp [wants]; omega)]; show 0 < _; omega
theorem above_ok (a : List Nat) (n noughts : Nat) (ha : Small a) (hn : n < 18446744073709551616) (m : Nat) (i : Nat) (hi : i ≤ m) :
 aboveL a n noughts i = decide (val ((wants n noughts m).take i) < val (a.take i)) := by
 induction i with
 | zero => simp [aboveL, val]
 | succ i ih =>
   rw [aboveL, val_take_succ, val_take_succ, wants_get n noughts m i (by omega)]
   have h1 := val_take_lt a ha i
   have h2 := val_take_lt (wants n noughts m) (wants_small n noughts m hn) i
   by_cases h : a.getD i 0 = wantD n noughts i
   ·rw [if_neg (by simpa using h), ih (by omega), h]
    congr 1; simp
   ·rw [if_pos h]
    congr 1
    apply propext
    have hm : ∀ x y : Nat, x < y → x * 65536 ^ i + 65536 ^ i ≤ y * 65536 ^ i := fun x y hxy => by
     have := Nat.mul_le_mul_right (65536 ^ i) (show x + 1 ≤ y from hxy)
     rwa [Nat.add_mul, Nat.one_mul] at this
    constructor
    ·intro hlt
     have := hm _ _ hlt
     omega
    ·intro hlt
     rcases Nat.lt_or_ge (wantD n noughts i) (a.getD i 0) with h' | h'
     ·exact h'
     ·have := hm _ _ (show a.getD i 0 < wantD n noughts i by omega)
      omega
theorem val_zero_cons (l : List Nat) : val (0 :: l) = 65536 * val l := by rw [val, Nat.zero_add]
theorem val_two (a b c d : Nat) : val [a, b, c, d, 0, 0] = val [a, b, c, d] := by simp only [val, Nat.mul_zero, Nat.add_zero]
theorem wants4 (n : Nat) : val (wants n 4 8) = n * 65536 ^ 4 := by
 have : wants n 4 8 = 0 :: 0 :: 0 :: 0 :: digs n := rfl
 rw [this]
 simp only [val_zero_cons, val_digs]; omega
theorem wants6 (n : Nat) : val (wants n 6 12) = n * 65536 ^ 6 := by
 have : wants n 6 12 = 0 :: 0 :: 0 :: 0 :: 0 :: 0 :: [n % 65536, n / 65536 % 65536, n / 65536 / 65536 % 65536, n / 65536 / 65536 / 65536, 0, 0] := rfl
 rw [this]
 simp only [val_zero_cons]
 rw [val_two, show [n % 65536, n / 65536 % 65536, n / 65536 / 65536 % 65536, n / 65536 / 65536 / 65536] = digs n from rfl, val_digs]; omega
theorem cube2 (x n : Nat) (hx : x < 18446744073709551616) (hn : n < 18446744073709551616) : (cubeL x 2).length = 8 ∧ aboveL (cubeL x 2) n (noughtsOf 2) 8 = decide (n * 65536 ^ 4 < x * x) := by
 have hs := small_digs x hx
 obtain ⟨h1, h2, h3⟩ := times_ok (digs x) (digs x) hs hs
 have e : cubeL x 2 = timesL (digs x) (digs x) := by unfold cubeL; rw [if_neg (by decide)]
 rw [e]
 have hl : (timesL (digs x) (digs x)).length = 8 := by rw [h1]; rfl
 refine ⟨hl, ?_⟩
 rw [show noughtsOf 2 = 4 by decide, above_ok _ n 4 h2 hn 8 8 (Nat.le_refl _)]
 rw [List.take_of_length_le (by simp [wants]), List.take_of_length_le (by omega), wants4, h3, val_digs]
theorem cube3 (x n : Nat) (hx : x < 18446744073709551616) (hn : n < 18446744073709551616) : (cubeL x 3).length = 12 ∧ aboveL (cubeL x 3) n (noughtsOf 3) 12 = decide (n * 65536 ^ 6 < x * x * x) := by
 have hs := small_digs x hx
 obtain ⟨h1, h2, h3⟩ := times_ok (digs x) (digs x) hs hs
 obtain ⟨g1, g2, g3⟩ := times_ok _ (digs x) h2 hs
 have e : cubeL x 3 = timesL (timesL (digs x) (digs x)) (digs x) := by unfold cubeL; rw [if_pos rfl]
 rw [e]
 have hl : (timesL (timesL (digs x) (digs x)) (digs x)).length = 12 := by rw [g1, h1]; rfl
 refine ⟨hl, ?_⟩
 rw [show noughtsOf 3 = 6 by decide, above_ok _ n 6 g2 hn 12 12 (Nat.le_refl _)]
 rw [List.take_of_length_le (by simp [wants]), List.take_of_length_le (by omega), wants6, g3, h3, val_digs]
theorem bits_step (n root : Nat) (cubed : Bool) (hr : (root = 2 ∧ cubed = false) ∨ (root = 3 ∧ cubed = true)) (x : Nat) (hx : x < 18446744073709551616) (hn : n < 18446744073709551616) :
 aboveL (cubeL x root) n (noughtsOf root) (cubeL x root).length = Sha.overB x n cubed := by
 rcases hr with ⟨rfl, rfl⟩ | ⟨rfl, rfl⟩
 ·obtain ⟨h1, h2⟩ := cube2 x n hx hn
  rw [h1, h2, Sha.overB, if_neg (by decide), show (65536 : Nat) ^ 4 = 18446744073709551616 by decide]
 ·obtain ⟨h1, h2⟩ := cube3 x n hx hn
  rw [h1, h2, Sha.overB, if_pos rfl, show (65536 : Nat) ^ 6 = 79228162514264337593543950336 by decide]
theorem bitsF_root (n root : Nat) (cubed : Bool) (hr : (root = 2 ∧ cubed = false) ∨ (root = 3 ∧ cubed = true)) (hn : n < 18446744073709551616) (j x : Nat) (hx : x + 2 ^ j ≤ 2 ^ 37) :
 bitsF n root j x = Sha.rootF n cubed j x := by
 induction j generalizing x with
 | zero => rfl
 | succ j ih =>
   rw [Nat.pow_succ] at hx
   have hp : 0 < 2 ^ j := Nat.two_pow_pos j
   have h37 : (2 : Nat) ^ 37 = 137438953472 := rfl
   rw [bitsF, Sha.rootF, bits_step n root cubed hr _ (by omega) hn]
   cases Sha.overB (x + 2 ^ j) n cubed with
   | true => rw [if_pos rfl, if_pos rfl]; exact ih x (by omega)
   | false => rw [if_neg (by decide), if_neg (by decide)]; exact ih (x + 2 ^ j) (by omega)
theorem rootF_more (n : Nat) (cubed : Bool) (b x : Nat) (h : Sha.overB (x + 2 ^ b) n cubed = true) : Sha.rootF n cubed (b + 1) x = Sha.rootF n cubed b x := by
 rw [Sha.rootF, if_pos h]
theorem bits_root (n root : Nat) (cubed : Bool) (hr : (root = 2 ∧ cubed = false ∧ n < 256) ∨ (root = 3 ∧ cubed = true ∧ n < 4096)) : bitsF n root 37 0 % 4294967296 = Sha.rootB n cubed := by
 have ho : Sha.overB (0 + 2 ^ 36) n cubed = true := by
  rcases hr with ⟨_, rfl, hn⟩ | ⟨_, rfl, hn⟩
  ·unfold Sha.overB
   rw [if_neg (by decide), decide_eq_true_eq]; omega
  ·unfold Sha.overB
   rw [if_pos rfl, decide_eq_true_eq]; omega
 have hr' : (root = 2 ∧ cubed = false) ∨ (root = 3 ∧ cubed = true) := by
  rcases hr with ⟨h1, h2, _⟩ | ⟨h1, h2, _⟩
  ·exact .inl ⟨h1, h2⟩
  ·exact .inr ⟨h1, h2⟩
 have hn : n < 18446744073709551616 := by rcases hr with ⟨_, _, h⟩ | ⟨_, _, h⟩ <;> omega
 have h1 := bitsF_root n root cubed hr' hn (36 + 1) 0 (by rw [Nat.zero_add]; exact Nat.le_refl _)
 have h2 := rootF_more n cubed 36 0 ho
 rw [h2] at h1
 unfold Sha.rootB
 exact congrArg (· % 4294967296) h1
end R1
end Go.Proofs.YtnbkhdbligjifaaGreatDoor
namespace Go.Proofs.YtnbkhdbligjifaaGreatDoor
open Go.RowKit
namespace R1
def u64s (l : List Nat) : Array Value := (l.map fun (n : Nat) => Value.int .u64 (n : Int)).toArray
theorem u64s_get (l : List Nat) (i : Nat) (h : i < l.length) : (u64s l)[i]? = some (.int .u64 ((l.getD i 0 : Nat) : Int)) := by
 simp [u64s, List.getD, h]
theorem u64s_set (l : List Nat) (i n : Nat) : (u64s l).setIfInBounds i (.int .u64 (n : Int)) = u64s (l.set i n) := by
 apply Array.toList_inj.1
 simp [u64s]
theorem u64s_zero (n : Nat) : Array.replicate n (Value.int .u64 0) = u64s (List.replicate n 0) := by
 apply Array.toList_inj.1
 simp [u64s]
def URow (B : Nat) (v : Value) (l : List Nat) (w : World) : Prop := ∃ g c, v = .slice (some ⟨g, 0, none⟩) l.length c ∧ B ≤ g ∧ Blk w g 177 (u64s l)
theorem URow.below {B B' : Nat} {v : Value} {l : List Nat} {w w' : World} (h : URow B v l w) (hb : Below B' w w') (hB : w.heap.size ≤ B') : URow B v l w' := by
 obtain ⟨g, c, h1, h2, h3⟩ := h
 exact ⟨g, c, h1, h2, h3.below hb (Nat.lt_of_lt_of_le h3.lt hB)⟩
theorem URow.mono {B B' : Nat} {v : Value} {l : List Nat} {w : World} (h : URow B v l w) (hB : B' ≤ B) : URow B' v l w := by
 obtain ⟨g, c, h1, h2, h3⟩ := h
 exact ⟨g, c, h1, Nat.le_trans hB h2, h3⟩
theorem digits_any (n : Nat) (_hn : n < 18446744073709551616) (w : World) :
 Calls Tryz.prog 171 #[.int .u64 (n : Int)] w fun e w' => ∃ v, e = .returned v ∧ URow w.heap.size v (digs n) w' ∧ Below w.heap.size w w' := by
 go_enter Tryz.func171, Tryz.ntmps171
 go_wp2_with fail
 go_ret
 refine ⟨_, rfl, ⟨_, 4, rfl, Nat.le_refl _, ?_⟩, (Below.refl _ _).alloc (Nat.le_refl _) _⟩
 have e : #[Value.int IntKind.u64 ((n : Int) % 65536), Value.int IntKind.u64 ((n : Int) / 65536 % 65536), Value.int IntKind.u64 ((n : Int) / 65536 / 65536 % 65536), Value.int IntKind.u64 ((n : Int) / 65536 / 65536 / 65536)] = u64s (digs n) := by
  apply Array.toList_inj.1
  simp [u64s, digs]
 rw [← e]
 exact Blk.new _ _ _
theorem tIn_len (ai : Nat) (b : List Nat) (i : Nat) (out : List Nat) (k : Nat) : (tIn ai b i out k).1.length = out.length := by
 induction k with
 | zero => rfl
 | succ k ih => rw [tIn]; simpa using ih
theorem tOut_len (a b : List Nat) (i : Nat) : (tOut a b i).length = a.length + b.length := by
 induction i with
 | zero => simp [tOut]
 | succ i ih => rw [tOut, List.length_set, tIn_len, ih]
theorem wrap64 (x : Nat) : IntKind.u64.wrap (x : Int) = ((x % 18446744073709551616 : Nat) : Int) := by rw [IntKind.wrap_u64]; omega
theorem wrapV (x y z c : Nat) : IntKind.u64.wrap (IntKind.u64.wrap ((z : Int) + IntKind.u64.wrap ((x : Int) * (y : Int))) + (c : Int)) = (((z + x * y + c) % 18446744073709551616 : Nat) : Int) := by
 simp only [IntKind.wrap_u64]
 rw [← Int.natCast_mul]
 generalize x * y = p
 omega
theorem times_any (a b : List Nat) (va vb : Value) (B : Nat) (w : World) (ha : URow B va a w) (hb : URow B vb b w) (hla : a.length ≤ 1000) (hlb : b.length ≤ 1000) :
 Calls Tryz.prog 172 #[va, vb] w fun e w' => ∃ v, e = .returned v ∧ URow w.heap.size v (timesL a b) w' ∧ Below w.heap.size w w' := by
 obtain ⟨ga, ca, rfl, _, hga⟩ := ha
 obtain ⟨gb, cb, rfl, _, hgb⟩ := hb
 have hgal := hga.lt
 have hgbl := hgb.lt
 have hmk := run_mk (P := Tryz.prog) (t := 175) (e := 177) (z := .int .u64 0) (bytes := 8) Tryz.underlying175 Sha.info_u64 rfl (a.length + b.length) (by omega) (by omega) w
 rw [u64s_zero] at hmk
 have hcast : ((a.length + b.length : Nat) : Int) = (a.length : Int) + (b.length : Int) := by omega
 rw [hcast] at hmk
 have t0 : ¬ ((a.length : Int) + (b.length : Int) < 0) := by omega
 go_enter Tryz.func172, Tryz.ntmps172
 go_wp2_with fail
 have hr0 : Blk (w.alloc (Obj.cells (u64s (List.replicate (a.length + b.length) 0)) 177)) w.heap.size 177 (u64s (tOut a b 0)) := Blk.new _ _ _
 have hb0 : Below w.heap.size w (w.alloc (Obj.cells (u64s (List.replicate (a.length + b.length) 0)) 177)) := (Below.refl _ _).alloc (Nat.le_refl _) _
 generalize w.alloc (Obj.cells (u64s (List.replicate (a.length + b.length) 0)) 177) = w1 at *
 clear hmk hcast
 go_loopw [6] (fun i wr => ∃ k : Nat, k ≤ a.length ∧ i = .int .i64 k ∧ Blk wr w.heap.size 177 (u64s (tOut a b k)) ∧ Below w.heap.size w wr) (fun i _ => a.length - (intOf i).toNat)
 case atStart => exact ⟨0, by omega, rfl, hr0, hb0⟩
 case round =>
  obtain ⟨i, hi, rfl, hrow, hbl⟩ := hrel
  clear hr0 hb0
  by_cases hia : i < a.length
  ·have d1 : (i : Int) < (a.length : Int) := by omega
   go_wp2_with fail
   go_loopw [7, 8] (fun c k wr => ∃ m : Nat, m ≤ b.length ∧ k = .int .i64 m ∧ c = .int .u64 ((tIn (a.getD i 0) b i (tOut a b i) m).2 : Nat) ∧ Blk wr w.heap.size 177 (u64s (tIn (a.getD i 0) b i (tOut a b i) m).1) ∧ Below w.heap.size w wr) (fun _ k _ => b.length - (intOf k).toNat)
   case atStart => exact ⟨0, by omega, rfl, rfl, hrow, hbl⟩
   case round =>
    obtain ⟨m, hm, rfl, rfl, hrow1, hbl1⟩ := hrel
    have hlen := tIn_len (a.getD i 0) b i (tOut a b i) m
    rw [tOut_len] at hlen
    by_cases hmb : m < b.length
    ·have d2 : (m : Int) < (b.length : Int) := by omega
     have c1 := hrow1.cell (i + m)
     rw [u64s_get _ (i + m) (by omega)] at c1
     have f1 := hrow1.frozen (i + m)
     have c2 : wr.cell? ⟨ga, i, none⟩ = some (.int .u64 ((a.getD i 0 : Nat) : Int)) := by
      rw [World.cell?_of_block (a := ⟨ga, i, none⟩) (hbl1.block ga hgal), hga.cell i, u64s_get a i hia]
     have c3 : wr.cell? ⟨gb, m, none⟩ = some (.int .u64 ((b.getD m 0 : Nat) : Int)) := by
      rw [World.cell?_of_block (a := ⟨gb, m, none⟩) (hbl1.block gb hgbl), hgb.cell m, u64s_get b m hmb]
     have hT : tIn (a.getD i 0) b i (tOut a b i) (m + 1) = (((tIn (a.getD i 0) b i (tOut a b i) m).1.set (i + m) (((tIn (a.getD i 0) b i (tOut a b i) m).1.getD (i + m) 0 + a.getD i 0 * b.getD m 0 + (tIn (a.getD i 0) b i (tOut a b i) m).2) % 18446744073709551616 % 65536)),
      ((tIn (a.getD i 0) b i (tOut a b i) m).1.getD (i + m) 0 + a.getD i 0 * b.getD m 0 + (tIn (a.getD i 0) b i (tOut a b i) m).2) % 18446744073709551616 / 65536) := rfl
     have HT := Lib.hid hT
     have HR := Lib.hid hrow1.drew
     have e1 : (i : Int) + (m : Int) < (a.length : Int) + (b.length : Int) := by omega
     have e2 : (0 : Int) ≤ (i : Int) + (m : Int) := by omega
     have e3 : (m : Int) < (b.length : Int) := by omega
     have hbd := hbl1.drew
     clear hT hrow1 hbl1
     generalize tIn (a.getD i 0) b i (tOut a b i) m = R at *
     obtain ⟨o, c⟩ := R
     generalize a.getD i 0 = x at *
     generalize b.getD m 0 = y at *
     generalize hz : o.getD (i + m) 0 = z at *
     simp only at *
     have hV := wrapV x y z c
     obtain ⟨V, hVd⟩ : ∃ V, V = (z + x * y + c) % 18446744073709551616 := ⟨_, rfl⟩
     rw [← hVd] at hV
     have HVd := Lib.hid hVd
     clear hVd
     go_wp2_with fail
     go_region
     go_wp2_with fail
     go_roundw
     case rel =>
      refine ⟨m + 1, by omega, by go_num, ?_, ?_, hbd.setCell (p := ⟨w.heap.size, i + m, none⟩) (Nat.le_refl _) _⟩
      ·rw [HT.out, ← HVd.out]
       have hv1 := HVd.out
       rw [show (V : Int) / 65536 = ((V / 65536 : Nat) : Int) by omega, wrap64, Nat.mod_eq_of_lt (by omega)]
      ·rw [HT.out, ← HVd.out, ← u64s_set]
       exact HR.out.set_ _ _
     case measure => simp [intOf]; omega
    ·have hmE : m = b.length := by omega
     subst hmE
     have c1 := hrow1.cell (i + b.length)
     rw [u64s_get _ (i + b.length) (by omega)] at c1
     have f1 := hrow1.frozen (i + b.length)
     have hT : tOut a b (i + 1) = (tIn (a.getD i 0) b i (tOut a b i) b.length).1.set (i + b.length) (((tIn (a.getD i 0) b i (tOut a b i) b.length).1.getD (i + b.length) 0 + (tIn (a.getD i 0) b i (tOut a b i) b.length).2) % 18446744073709551616) := rfl
     have HT := Lib.hid hT
     have HR := Lib.hid hrow1
     have e1 : (i : Int) + (b.length : Int) < (a.length : Int) + (b.length : Int) := by omega
     have e2 : (0 : Int) ≤ (i : Int) + (b.length : Int) := by omega
     have hbd := hbl1
     clear hT hrow1 hbl1
     generalize tIn (a.getD i 0) b i (tOut a b i) b.length = R at *
     obtain ⟨o, c⟩ := R
     generalize a.getD i 0 = x at *
     generalize hz : o.getD (i + b.length) 0 = z at *
     simp only at *
     have hV : IntKind.u64.wrap ((z : Int) + (c : Int)) = (((z + c) % 18446744073709551616 : Nat) : Int) := by rw [IntKind.wrap_u64]; omega
     have HV := Lib.hid hV
     clear hV
     go_wp2_with fail
     go_roundw
     case rel =>
      refine ⟨i + 1, by omega, by go_num, ?_, hbd.setCell (p := ⟨w.heap.size, i + b.length, none⟩) (Nat.le_refl _) _⟩
      rw [HT.out, HV.out, ← u64s_set]
      exact HR.out.set_ _ _
     case measure => simp [intOf]; omega
  ·have hiE : i = a.length := by omega
   subst hiE
   have hl : (timesL a b).length = a.length + b.length := tOut_len a b a.length
   have HR := Lib.hid (show Blk wr w.heap.size 177 (u64s (timesL a b)) from hrow)
   clear hrow
   go_wp2_with fail
   go_ret
   exact ⟨.slice (some ⟨w.heap.size, 0, none⟩) (a.length + b.length) (a.length + b.length), rfl, ⟨w.heap.size, a.length + b.length, by rw [hl], Nat.le_refl _, HR.out⟩, hbl⟩
end R1
end Go.Proofs.YtnbkhdbligjifaaGreatDoor
