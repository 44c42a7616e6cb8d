/-
  The document's roots, bits and turns.
-/
import Derived.Test.YtnbkhdbligjifaaGreatDoorShaSched
import Derived.Test.YtnbkhdbligjifaaGreatDoorSumL
import Derived.Maps.AppendAt
import Derived.Test.YtnbkhdbligjifaaGreatDoorVMaps
set_option linter.unusedVariables false
set_option linter.unusedSimpArgs false
namespace Go.Proofs.YtnbkhdbligjifaaGreatDoor
open Go.RowKit
namespace Stab
def newrow (B : Nat) (t : TypeId) (cs : Array Value) (n c : Nat) : SVal := ⟨fun v W => ∃ g, v = .slice (some ⟨g, 0, none⟩) n c ∧ B ≤ g ∧ Blk W g t cs, fun _ _ _ ⟨g, h1, h2, h3⟩ hE => ⟨g, h1, h2, h3.below hE h3.lt⟩⟩
end Stab
end Go.Proofs.YtnbkhdbligjifaaGreatDoor
set_option maxRecDepth 100000
set_option maxHeartbeats 40000000
namespace Go.Proofs.YtnbkhdbligjifaaGreatDoor
open Go.RowKit
namespace R1
def digs (n : Nat) : List Nat := [n % 65536, n / 65536 % 65536, n / 65536 / 65536 % 65536, n / 65536 / 65536 / 65536]
def tIn (ai : Nat) (b : List Nat) (i : Nat) (out : List Nat) : Nat → List Nat × Nat
 | 0 => (out, 0)
 | k + 1 => (((tIn ai b i out k).1.set (i + k) (((tIn ai b i out k).1.getD (i + k) 0 + ai * b.getD k 0 + (tIn ai b i out k).2) % 18446744073709551616 % 65536)),
  ((tIn ai b i out k).1.getD (i + k) 0 + ai * b.getD k 0 + (tIn ai b i out k).2) % 18446744073709551616 / 65536)
def tOut (a b : List Nat) : Nat → List Nat
 | 0 => List.replicate (a.length + b.length) 0
 | i + 1 => (tIn (a.getD i 0) b i (tOut a b i) b.length).1.set (i + b.length) (((tIn (a.getD i 0) b i (tOut a b i) b.length).1.getD (i + b.length) 0 + (tIn (a.getD i 0) b i (tOut a b i) b.length).2) % 18446744073709551616)
def timesL (a b : List Nat) : List Nat := tOut a b a.length
def wantD (n noughts i : Nat) : Nat := if noughts ≤ i ∧ i < noughts + 4 then (digs n).getD (i - noughts) 0 else 0
def aboveL (a : List Nat) (n noughts : Nat) : Nat → Bool
 | 0 => false
 | i + 1 => if a.getD i 0 ≠ wantD n noughts i then decide (wantD n noughts i < a.getD i 0) else aboveL a n noughts i
def cubeL (x root : Nat) : List Nat := if root = 3 then timesL (timesL (digs x) (digs x)) (digs x) else timesL (digs x) (digs x)
def noughtsOf (root : Nat) : Nat := if root = 3 then 6 else 4
def bitsF (n root : Nat) : Nat → Nat → Nat
 | 0, x => x
 | j + 1, x => if aboveL (cubeL (x + 2 ^ j) root) n (noughtsOf root) (cubeL (x + 2 ^ j) root).length then bitsF n root j x else bitsF n root j (x + 2 ^ j)
def val : List Nat → Nat
 | [] => 0
 | d :: t => d + 65536 * val t
def Small (l : List Nat) : Prop := ∀ i, l.getD i 0 < 65536
theorem val_take_succ (l : List Nat) (k : Nat) : val (l.take (k + 1)) = val (l.take k) + l.getD k 0 * 65536 ^ k := by
 induction l generalizing k with
 | nil => simp [val]
 | cons d t ih =>
   cases k with
   | zero => simp [val]
   | succ k =>
     rw [List.take_succ_cons, List.take_succ_cons, val, val, ih k, List.getD_cons_succ, Nat.mul_add, Nat.pow_succ, ← Nat.add_assoc]
     congr 1
     rw [Nat.mul_comm 65536, Nat.mul_assoc]
theorem val_take_lt (l : List Nat) (h : Small l) (k : Nat) : val (l.take k) < 65536 ^ k := by
 induction k with
 | zero => simp [val]
 | succ k ih =>
   rw [val_take_succ, Nat.pow_succ]
   have h1 := Nat.mul_le_mul_right (65536 ^ k) (show l.getD k 0 ≤ 65535 from by have := h k; omega)
   omega
theorem val_set (l : List Nat) (i v : Nat) (h : i < l.length) : val (l.set i v) + l.getD i 0 * 65536 ^ i = val l + v * 65536 ^ i := by
 induction l generalizing i with
 | nil => simp at h
 | cons d t ih =>
   cases i with
   | zero => simp [val]; omega
   | succ i =>
     have := ih i (by simpa using h)
     rw [List.set_cons_succ, val, val, List.getD_cons_succ, Nat.pow_succ, ← Nat.mul_assoc, ← Nat.mul_assoc]
     omega
theorem small_set (l : List Nat) (i v : Nat) (hl : Small l) (hv : v < 65536) : Small (l.set i v) := by
 intro j
 have := hl j
 simp only [List.getD_eq_getElem?_getD, List.getElem?_set] at this ⊢
 split
 ·split <;> simp <;> omega
 ·exact this
theorem tIn_ok (ai : Nat) (b : List Nat) (i : Nat) (out : List Nat) (ha : ai < 65536) (hb : Small b) (ho : Small out) (k : Nat) (hk : k ≤ b.length) (hl : i + b.length ≤ out.length) :
 (tIn ai b i out k).1.length = out.length ∧ Small (tIn ai b i out k).1 ∧ (tIn ai b i out k).2 < 65536 ∧ (∀ j, i + k ≤ j → (tIn ai b i out k).1.getD j 0 = out.getD j 0) ∧
 val (tIn ai b i out k).1 + (tIn ai b i out k).2 * 65536 ^ (i + k) = val out + ai * 65536 ^ i * val (b.take k) := by
 induction k with
 | zero => simp [tIn, val]; exact ho
 | succ k ih =>
   obtain ⟨h1, h2, h3, h4, h5⟩ := ih (by omega)
   rw [tIn]
   generalize hR : tIn ai b i out k = R at *
   obtain ⟨o, c⟩ := R
   simp only at h1 h2 h3 h4 h5 ⊢
   have hbk := hb k
   have hok := h2 (i + k)
   generalize hv : o.getD (i + k) 0 + ai * b.getD k 0 + c = v
   have hm : ai * b.getD k 0 ≤ 65535 * 65535 := Nat.mul_le_mul (by omega) (by omega)
   have hv2 : v % 18446744073709551616 = v := Nat.mod_eq_of_lt (by omega)
   rw [hv2]
   have hs := val_set o (i + k) (v % 65536) (by omega)
   refine ⟨by simpa using h1, small_set _ _ _ h2 (by omega), by omega, fun j hj => ?_, ?_⟩
   ·rw [← h4 j (by omega)]
    simp only [List.getD_eq_getElem?_getD, List.getElem?_set]
    rw [if_neg (by omega)]
   ·rw [val_take_succ, Nat.mul_add, ← Nat.add_assoc (val out), ← h5]
    have e1 : ai * 65536 ^ i * (b.getD k 0 * 65536 ^ k) = ai * b.getD k 0 * 65536 ^ (i + k) := by
     rw [Nat.pow_add]; simp only [Nat.mul_assoc, Nat.mul_left_comm]
    have e2 : v / 65536 * 65536 ^ (i + (k + 1)) = 65536 * (v / 65536) * 65536 ^ (i + k) := by
     rw [← Nat.add_assoc, Nat.pow_succ]; simp only [Nat.mul_comm, Nat.mul_left_comm]; rw [Nat.mul_assoc]
    rw [e1, e2]
    have e3 : (65536 * (v / 65536) + v % 65536) * 65536 ^ (i + k) = v * 65536 ^ (i + k) := by rw [Nat.div_add_mod]
    rw [Nat.add_mul] at e3
    have e4 : v * 65536 ^ (i + k) = o.getD (i + k) 0 * 65536 ^ (i + k) + ai * b.getD k 0 * 65536 ^ (i + k) + c * 65536 ^ (i + k) := by rw [← hv, Nat.add_mul, Nat.add_mul]
    omega
theorem small_zero (n : Nat) : Small (List.replicate n 0) := by
 intro i; simp [List.getD_eq_getElem?_getD, List.getElem?_replicate]; split <;> simp
theorem val_zero (n : Nat) : val (List.replicate n 0) = 0 := by
 induction n with
 | zero => rfl
 | succ n ih => rw [List.replicate_succ, val, ih]
theorem tOut_ok (a b : List Nat) (ha : Small a) (hb : Small b) (i : Nat) (hi : i ≤ a.length) :
 (tOut a b i).length = a.length + b.length ∧ Small (tOut a b i) ∧ (∀ j, i + b.length ≤ j → (tOut a b i).getD j 0 = 0) ∧ val (tOut a b i) = val (a.take i) * val b := by
 induction i with
 | zero =>
   refine ⟨by simp [tOut], small_zero _, fun j _ => ?_, by simp [tOut, val_zero, val]⟩
   simp [tOut, List.getD_eq_getElem?_getD, List.getElem?_replicate]; split <;> simp
 | succ i ih =>
   obtain ⟨h1, h2, h3, h4⟩ := ih (by omega)
   rw [tOut]
   have ht := tIn_ok (a.getD i 0) b i (tOut a b i) (ha i) hb h2 b.length (Nat.le_refl _) (by omega)
   generalize tIn (a.getD i 0) b i (tOut a b i) b.length = R at *
   obtain ⟨o, c⟩ := R
   obtain ⟨g1, g2, g3, g4, g5⟩ := ht
   simp only at g1 g2 g3 g4 g5 ⊢
   have h0 : o.getD (i + b.length) 0 = 0 := by rw [g4 _ (Nat.le_refl _)]; exact h3 _ (Nat.le_refl _)
   rw [h0, Nat.zero_add, Nat.mod_eq_of_lt (by omega)]
   have hs := val_set o (i + b.length) c (by omega)
   refine ⟨by simp; omega, small_set _ _ _ g2 g3, fun j hj => ?_, ?_⟩
   ·have e : (o.set (i + b.length) c).getD j 0 = o.getD j 0 := by
     simp only [List.getD_eq_getElem?_getD, List.getElem?_set]
     rw [if_neg (by omega)]
    rw [e, g4 j (by omega)]
    exact h3 j (by omega)
   ·rw [h0] at hs
    rw [val_take_succ, Nat.add_mul, ← h4]
    rw [List.take_length] at g5
    have e : a.getD i 0 * 65536 ^ i * val b = a.getD i 0 * 65536 ^ i * val b := rfl
    omega
theorem times_ok (a b : List Nat) (ha : Small a) (hb : Small b) : (timesL a b).length = a.length + b.length ∧ Small (timesL a b) ∧ val (timesL a b) = val a * val b := by
 obtain ⟨h1, h2, _, h4⟩ := tOut_ok a b ha hb a.length (Nat.le_refl _)
 refine ⟨h1, h2, ?_⟩
 rw [timesL, h4, List.take_length]
theorem small_digs (n : Nat) (hn : n < 18446744073709551616) : Small (digs n) := by
 intro i
 match i with
 | 0 => show n % 65536 < _; omega
 | 1 => show n / 65536 % 65536 < _; omega
 | 2 => show n / 65536 / 65536 % 65536 < _; omega
 | 3 => show n / 65536 / 65536 / 65536 < _; omega
 | i + 4 => show 0 < _; omega
theorem val_digs (n : Nat) : val (digs n) = n := by
 simp only [digs, val]; omega
theorem wantD_small (n noughts i : Nat) (hn : n < 18446744073709551616) : wantD n noughts i < 65536 := by
 unfold wantD
 split
 ·exact small_digs n hn _
 ·omega
def wants (n noughts m : Nat) : List Nat := (List.range m).map (wantD n noughts)
theorem wants_get (n noughts m i : Nat) (h : i < m) : (wants n noughts m).getD i 0 = wantD n noughts i := by simp [wants, h]
theorem wants_small (n noughts m : Nat) (hn : n < 18446744073709551616) : Small (wants n noughts m) := by
 intro i
 by_cases h : i < m
 ·rw [wants_get _ _ _ _ h]; exact wantD_small _ _ _ hn
 ·rw [List.getD_eq_getElem?_getD, List.getElem?_eq_none (by simp [wants]; omega)]; show 0 < _; omega
theorem above_ok (a : List Nat) (n noughts : Nat) (ha : Small a) (hn : n < 18446744073709551616) (m : Nat) (i : Nat) (hi : i ≤ m) :
 aboveL a n noughts i = decide (val ((wants n noughts m).take i) < val (a.take i)) := by
 induction i with
 | zero => simp [aboveL, val]
 | succ i ih =>
   rw [aboveL, val_take_succ, val_take_succ, wants_get n noughts m i (by omega)]
   have h1 := val_take_lt a ha i
   have h2 := val_take_lt (wants n noughts m) (wants_small n noughts m hn) i
   by_cases h : a.getD i 0 = wantD n noughts i
   ·rw [if_neg (by simpa using h), ih (by omega), h]
    congr 1; simp
   ·rw [if_pos h]
    congr 1
    apply propext
    have hm : ∀ x y : Nat, x < y → x * 65536 ^ i + 65536 ^ i ≤ y * 65536 ^ i := fun x y hxy => by
     have := Nat.mul_le_mul_right (65536 ^ i) (show x + 1 ≤ y from hxy)
     rwa [Nat.add_mul, Nat.one_mul] at this
    constructor
    ·intro hlt
     have := hm _ _ hlt
     omega
    ·intro hlt
     rcases Nat.lt_or_ge (wantD n noughts i) (a.getD i 0) with h' | h'
     ·exact h'
     ·have := hm _ _ (show a.getD i 0 < wantD n noughts i by omega)
      omega
theorem val_zero_cons (l : List Nat) : val (0 :: l) = 65536 * val l := by rw [val, Nat.zero_add]
theorem val_two (a b c d : Nat) : val [a, b, c, d, 0, 0] = val [a, b, c, d] := by simp only [val, Nat.mul_zero, Nat.add_zero]
theorem wants4 (n : Nat) : val (wants n 4 8) = n * 65536 ^ 4 := by
 have : wants n 4 8 = 0 :: 0 :: 0 :: 0 :: digs n := rfl
 rw [this]
 simp only [val_zero_cons, val_digs]; omega
theorem wants6 (n : Nat) : val (wants n 6 12) = n * 65536 ^ 6 := by
 have : wants n 6 12 = 0 :: 0 :: 0 :: 0 :: 0 :: 0 :: [n % 65536, n / 65536 % 65536, n / 65536 / 65536 % 65536, n / 65536 / 65536 / 65536, 0, 0] := rfl
 rw [this]
 simp only [val_zero_cons]
 rw [val_two, show [n % 65536, n / 65536 % 65536, n / 65536 / 65536 % 65536, n / 65536 / 65536 / 65536] = digs n from rfl, val_digs]; omega
theorem cube2 (x n : Nat) (hx : x < 18446744073709551616) (hn : n < 18446744073709551616) : (cubeL x 2).length = 8 ∧ aboveL (cubeL x 2) n (noughtsOf 2) 8 = decide (n * 65536 ^ 4 < x * x) := by
 have hs := small_digs x hx
 obtain ⟨h1, h2, h3⟩ := times_ok (digs x) (digs x) hs hs
 have e : cubeL x 2 = timesL (digs x) (digs x) := by unfold cubeL; rw [if_neg (by decide)]
 rw [e]
 have hl : (timesL (digs x) (digs x)).length = 8 := by rw [h1]; rfl
 refine ⟨hl, ?_⟩
 rw [show noughtsOf 2 = 4 by decide, above_ok _ n 4 h2 hn 8 8 (Nat.le_refl _)]
 rw [List.take_of_length_le (by simp [wants]), List.take_of_length_le (by omega), wants4, h3, val_digs]
theorem cube3 (x n : Nat) (hx : x < 18446744073709551616) (hn : n < 18446744073709551616) : (cubeL x 3).length = 12 ∧ aboveL (cubeL x 3) n (noughtsOf 3) 12 = decide (n * 65536 ^ 6 < x * x * x) := by
 have hs := small_digs x hx
 obtain ⟨h1, h2, h3⟩ := times_ok (digs x) (digs x) hs hs
 obtain ⟨g1, g2, g3⟩ := times_ok _ (digs x) h2 hs
 have e : cubeL x 3 = timesL (timesL (digs x) (digs x)) (digs x) := by unfold cubeL; rw [if_pos rfl]
 rw [e]
 have hl : (timesL (timesL (digs x) (digs x)) (digs x)).length = 12 := by rw [g1, h1]; rfl
 refine ⟨hl, ?_⟩
 rw [show noughtsOf 3 = 6 by decide, above_ok _ n 6 g2 hn 12 12 (Nat.le_refl _)]
 rw [List.take_of_length_le (by simp [wants]), List.take_of_length_le (by omega), wants6, g3, h3, val_digs]
theorem bits_step (n root : Nat) (cubed : Bool) (hr : (root = 2 ∧ cubed = false) ∨ (root = 3 ∧ cubed = true)) (x : Nat) (hx : x < 18446744073709551616) (hn : n < 18446744073709551616) :
 aboveL (cubeL x root) n (noughtsOf root) (cubeL x root).length = Sha.overB x n cubed := by
 rcases hr with ⟨rfl, rfl⟩ | ⟨rfl, rfl⟩
 ·obtain ⟨h1, h2⟩ := cube2 x n hx hn
  rw [h1, h2, Sha.overB, if_neg (by decide), show (65536 : Nat) ^ 4 = 18446744073709551616 by decide]
 ·obtain ⟨h1, h2⟩ := cube3 x n hx hn
  rw [h1, h2, Sha.overB, if_pos rfl, show (65536 : Nat) ^ 6 = 79228162514264337593543950336 by decide]
theorem bitsF_root (n root : Nat) (cubed : Bool) (hr : (root = 2 ∧ cubed = false) ∨ (root = 3 ∧ cubed = true)) (hn : n < 18446744073709551616) (j x : Nat) (hx : x + 2 ^ j ≤ 2 ^ 37) :
 bitsF n root j x = Sha.rootF n cubed j x := by
 induction j generalizing x with
 | zero => rfl
 | succ j ih =>
   rw [Nat.pow_succ] at hx
   have hp : 0 < 2 ^ j := Nat.two_pow_pos j
   have h37 : (2 : Nat) ^ 37 = 137438953472 := rfl
   rw [bitsF, Sha.rootF, bits_step n root cubed hr _ (by omega) hn]
   cases Sha.overB (x + 2 ^ j) n cubed with
   | true => rw [if_pos rfl, if_pos rfl]; exact ih x (by omega)
   | false => rw [if_neg (by decide), if_neg (by decide)]; exact ih (x + 2 ^ j) (by omega)
theorem rootF_more (n : Nat) (cubed : Bool) (b x : Nat) (h : Sha.overB (x + 2 ^ b) n cubed = true) : Sha.rootF n cubed (b + 1) x = Sha.rootF n cubed b x := by
 rw [Sha.rootF, if_pos h]
theorem bits_root (n root : Nat) (cubed : Bool) (hr : (root = 2 ∧ cubed = false ∧ n < 256) ∨ (root = 3 ∧ cubed = true ∧ n < 4096)) : bitsF n root 37 0 % 4294967296 = Sha.rootB n cubed := by
 have ho : Sha.overB (0 + 2 ^ 36) n cubed = true := by
  rcases hr with ⟨_, rfl, hn⟩ | ⟨_, rfl, hn⟩
  ·unfold Sha.overB
   rw [if_neg (by decide), decide_eq_true_eq]; omega
  ·unfold Sha.overB
   rw [if_pos rfl, decide_eq_true_eq]; omega
 have hr' : (root = 2 ∧ cubed = false) ∨ (root = 3 ∧ cubed = true) := by
  rcases hr with ⟨h1, h2, _⟩ | ⟨h1, h2, _⟩
  ·exact .inl ⟨h1, h2⟩
  ·exact .inr ⟨h1, h2⟩
 have hn : n < 18446744073709551616 := by rcases hr with ⟨_, _, h⟩ | ⟨_, _, h⟩ <;> omega
 have h1 := bitsF_root n root cubed hr' hn (36 + 1) 0 (by rw [Nat.zero_add]; exact Nat.le_refl _)
 have h2 := rootF_more n cubed 36 0 ho
 rw [h2] at h1
 unfold Sha.rootB
 exact congrArg (· % 4294967296) h1
end R1
end Go.Proofs.YtnbkhdbligjifaaGreatDoor
namespace Go.Proofs.YtnbkhdbligjifaaGreatDoor
open Go.RowKit
namespace R1
def u64s (l : List Nat) : Array Value := (l.map fun (n : Nat) => Value.int .u64 (n : Int)).toArray
theorem u64s_get (l : List Nat) (i : Nat) (h : i < l.length) : (u64s l)[i]? = some (.int .u64 ((l.getD i 0 : Nat) : Int)) := by
 simp [u64s, List.getD, h]
theorem u64s_set (l : List Nat) (i n : Nat) : (u64s l).setIfInBounds i (.int .u64 (n : Int)) = u64s (l.set i n) := by
 apply Array.toList_inj.1
 simp [u64s]
theorem u64s_zero (n : Nat) : Array.replicate n (Value.int .u64 0) = u64s (List.replicate n 0) := by
 apply Array.toList_inj.1
 simp [u64s]
def URow (B : Nat) (v : Value) (l : List Nat) (w : World) : Prop := ∃ g c, v = .slice (some ⟨g, 0, none⟩) l.length c ∧ B ≤ g ∧ Blk w g 177 (u64s l)
theorem URow.below {B B' : Nat} {v : Value} {l : List Nat} {w w' : World} (h : URow B v l w) (hb : Below B' w w') (hB : w.heap.size ≤ B') : URow B v l w' := by
 obtain ⟨g, c, h1, h2, h3⟩ := h
 exact ⟨g, c, h1, h2, h3.below hb (Nat.lt_of_lt_of_le h3.lt hB)⟩
theorem URow.mono {B B' : Nat} {v : Value} {l : List Nat} {w : World} (h : URow B v l w) (hB : B' ≤ B) : URow B' v l w := by
 obtain ⟨g, c, h1, h2, h3⟩ := h
 exact ⟨g, c, h1, Nat.le_trans hB h2, h3⟩
theorem digits_any (n : Nat) (_hn : n < 18446744073709551616) (w : World) :
 Calls Tryz.prog 171 #[.int .u64 (n : Int)] w fun e w' => ∃ v, e = .returned v ∧ URow w.heap.size v (digs n) w' ∧ Below w.heap.size w w' := by
 go_enter Tryz.func171, Tryz.ntmps171
 go_wp2_with fail
 go_ret
 refine ⟨_, rfl, ⟨_, 4, rfl, Nat.le_refl _, ?_⟩, (Below.refl _ _).alloc (Nat.le_refl _) _⟩
 have e : #[Value.int IntKind.u64 ((n : Int) % 65536), Value.int IntKind.u64 ((n : Int) / 65536 % 65536), Value.int IntKind.u64 ((n : Int) / 65536 / 65536 % 65536), Value.int IntKind.u64 ((n : Int) / 65536 / 65536 / 65536)] = u64s (digs n) := by
  apply Array.toList_inj.1
  simp [u64s, digs]
 rw [← e]
 exact Blk.new _ _ _
theorem tIn_len (ai : Nat) (b : List Nat) (i : Nat) (out : List Nat) (k : Nat) : (tIn ai b i out k).1.length = out.length := by
 induction k with
 | zero => rfl
 | succ k ih => rw [tIn]; simpa using ih
theorem tOut_len (a b : List Nat) (i : Nat) : (tOut a b i).length = a.length + b.length := by
 induction i with
 | zero => simp [tOut]
 | succ i ih => rw [tOut, List.length_set, tIn_len, ih]
theorem wrap64 (x : Nat) : IntKind.u64.wrap (x : Int) = ((x % 18446744073709551616 : Nat) : Int) := by rw [IntKind.wrap_u64]; omega
theorem wrapV (x y z c : Nat) : IntKind.u64.wrap (IntKind.u64.wrap ((z : Int) + IntKind.u64.wrap ((x : Int) * (y : Int))) + (c : Int)) = (((z + x * y + c) % 18446744073709551616 : Nat) : Int) := by
 simp only [IntKind.wrap_u64]
 rw [← Int.natCast_mul]
 generalize x * y = p
 omega
theorem times_any (a b : List Nat) (va vb : Value) (B : Nat) (w : World) (ha : URow B va a w) (hb : URow B vb b w) (hla : a.length ≤ 1000) (hlb : b.length ≤ 1000) :
 Calls Tryz.prog 172 #[va, vb] w fun e w' => ∃ v, e = .returned v ∧ URow w.heap.size v (timesL a b) w' ∧ Below w.heap.size w w' := by
 obtain ⟨ga, ca, rfl, _, hga⟩ := ha
 obtain ⟨gb, cb, rfl, _, hgb⟩ := hb
 have hgal := hga.lt
 have hgbl := hgb.lt
 have hmk := run_mk (P := Tryz.prog) (t := 175) (e := 177) (z := .int .u64 0) (bytes := 8) Tryz.underlying175 Sha.info_u64 rfl (a.length + b.length) (by omega) (by omega) w
 rw [u64s_zero] at hmk
 have hcast : ((a.length + b.length : Nat) : Int) = (a.length : Int) + (b.length : Int) := by omega
 rw [hcast] at hmk
 have t0 : ¬ ((a.length : Int) + (b.length : Int) < 0) := by omega
 go_enter Tryz.func172, Tryz.ntmps172
 go_wp2_with fail
 have hr0 : Blk (w.alloc (Obj.cells (u64s (List.replicate (a.length + b.length) 0)) 177)) w.heap.size 177 (u64s (tOut a b 0)) := Blk.new _ _ _
 have hb0 : Below w.heap.size w (w.alloc (Obj.cells (u64s (List.replicate (a.length + b.length) 0)) 177)) := (Below.refl _ _).alloc (Nat.le_refl _) _
 generalize w.alloc (Obj.cells (u64s (List.replicate (a.length + b.length) 0)) 177) = w1 at *
 clear hmk hcast
 go_loopw [6] (fun i wr => ∃ k : Nat, k ≤ a.length ∧ i = .int .i64 k ∧ Blk wr w.heap.size 177 (u64s (tOut a b k)) ∧ Below w.heap.size w wr) (fun i _ => a.length - (intOf i).toNat)
 case atStart => exact ⟨0, by omega, rfl, hr0, hb0⟩
 case round =>
  obtain ⟨i, hi, rfl, hrow, hbl⟩ := hrel
  clear hr0 hb0
  by_cases hia : i < a.length
  ·have d1 : (i : Int) < (a.length : Int) := by omega
   go_wp2_with fail
   go_loopw [7, 8] (fun c k wr => ∃ m : Nat, m ≤ b.length ∧ k = .int .i64 m ∧ c = .int .u64 ((tIn (a.getD i 0) b i (tOut a b i) m).2 : Nat) ∧ Blk wr w.heap.size 177 (u64s (tIn (a.getD i 0) b i (tOut a b i) m).1) ∧ Below w.heap.size w wr) (fun _ k _ => b.length - (intOf k).toNat)
   case atStart => exact ⟨0, by omega, rfl, rfl, hrow, hbl⟩
   case round =>
    obtain ⟨m, hm, rfl, rfl, hrow1, hbl1⟩ := hrel
    have hlen := tIn_len (a.getD i 0) b i (tOut a b i) m
    rw [tOut_len] at hlen
    by_cases hmb : m < b.length
    ·have d2 : (m : Int) < (b.length : Int) := by omega
     have c1 := hrow1.cell (i + m)
     rw [u64s_get _ (i + m) (by omega)] at c1
     have f1 := hrow1.frozen (i + m)
     have c2 : wr.cell? ⟨ga, i, none⟩ = some (.int .u64 ((a.getD i 0 : Nat) : Int)) := by
      rw [World.cell?_of_block (a := ⟨ga, i, none⟩) (hbl1.block ga hgal), hga.cell i, u64s_get a i hia]
     have c3 : wr.cell? ⟨gb, m, none⟩ = some (.int .u64 ((b.getD m 0 : Nat) : Int)) := by
      rw [World.cell?_of_block (a := ⟨gb, m, none⟩) (hbl1.block gb hgbl), hgb.cell m, u64s_get b m hmb]
     have hT : tIn (a.getD i 0) b i (tOut a b i) (m + 1) = (((tIn (a.getD i 0) b i (tOut a b i) m).1.set (i + m) (((tIn (a.getD i 0) b i (tOut a b i) m).1.getD (i + m) 0 + a.getD i 0 * b.getD m 0 + (tIn (a.getD i 0) b i (tOut a b i) m).2) % 18446744073709551616 % 65536)),
      ((tIn (a.getD i 0) b i (tOut a b i) m).1.getD (i + m) 0 + a.getD i 0 * b.getD m 0 + (tIn (a.getD i 0) b i (tOut a b i) m).2) % 18446744073709551616 / 65536) := rfl
     have HT := Lib.hid hT
     have HR := Lib.hid hrow1.drew
     have e1 : (i : Int) + (m : Int) < (a.length : Int) + (b.length : Int) := by omega
     have e2 : (0 : Int) ≤ (i : Int) + (m : Int) := by omega
     have e3 : (m : Int) < (b.length : Int) := by omega
     have hbd := hbl1.drew
     clear hT hrow1 hbl1
     generalize tIn (a.getD i 0) b i (tOut a b i) m = R at *
     obtain ⟨o, c⟩ := R
     generalize a.getD i 0 = x at *
     generalize b.getD m 0 = y at *
     generalize hz : o.getD (i + m) 0 = z at *
     simp only at *
     have hV := wrapV x y z c
     obtain ⟨V, hVd⟩ : ∃ V, V = (z + x * y + c) % 18446744073709551616 := ⟨_, rfl⟩
     rw [← hVd] at hV
     have HVd := Lib.hid hVd
     clear hVd
     go_wp2_with fail
     go_region
     go_wp2_with fail
     go_roundw
     case rel =>
      refine ⟨m + 1, by omega, by go_num, ?_, ?_, hbd.setCell (p := ⟨w.heap.size, i + m, none⟩) (Nat.le_refl _) _⟩
      ·rw [HT.out, ← HVd.out]
       have hv1 := HVd.out
       rw [show (V : Int) / 65536 = ((V / 65536 : Nat) : Int) by omega, wrap64, Nat.mod_eq_of_lt (by omega)]
      ·rw [HT.out, ← HVd.out, ← u64s_set]
       exact HR.out.set_ _ _
     case measure => simp [intOf]; omega
    ·have hmE : m = b.length := by omega
     subst hmE
     have c1 := hrow1.cell (i + b.length)
     rw [u64s_get _ (i + b.length) (by omega)] at c1
     have f1 := hrow1.frozen (i + b.length)
     have hT : tOut a b (i + 1) = (tIn (a.getD i 0) b i (tOut a b i) b.length).1.set (i + b.length) (((tIn (a.getD i 0) b i (tOut a b i) b.length).1.getD (i + b.length) 0 + (tIn (a.getD i 0) b i (tOut a b i) b.length).2) % 18446744073709551616) := rfl
     have HT := Lib.hid hT
     have HR := Lib.hid hrow1
     have e1 : (i : Int) + (b.length : Int) < (a.length : Int) + (b.length : Int) := by omega
     have e2 : (0 : Int) ≤ (i : Int) + (b.length : Int) := by omega
     have hbd := hbl1
     clear hT hrow1 hbl1
     generalize tIn (a.getD i 0) b i (tOut a b i) b.length = R at *
     obtain ⟨o, c⟩ := R
     generalize a.getD i 0 = x at *
     generalize hz : o.getD (i + b.length) 0 = z at *
     simp only at *
     have hV : IntKind.u64.wrap ((z : Int) + (c : Int)) = (((z + c) % 18446744073709551616 : Nat) : Int) := by rw [IntKind.wrap_u64]; omega
     have HV := Lib.hid hV
     clear hV
     go_wp2_with fail
     go_roundw
     case rel =>
      refine ⟨i + 1, by omega, by go_num, ?_, hbd.setCell (p := ⟨w.heap.size, i + b.length, none⟩) (Nat.le_refl _) _⟩
      rw [HT.out, HV.out, ← u64s_set]
      exact HR.out.set_ _ _
     case measure => simp [intOf]; omega
  ·have hiE : i = a.length := by omega
   subst hiE
   have hl : (timesL a b).length = a.length + b.length := tOut_len a b a.length
   have HR := Lib.hid (show Blk wr w.heap.size 177 (u64s (timesL a b)) from hrow)
   clear hrow
   go_wp2_with fail
   go_ret
   exact ⟨.slice (some ⟨w.heap.size, 0, none⟩) (a.length + b.length) (a.length + b.length), rfl, ⟨w.heap.size, a.length + b.length, by rw [hl], Nat.le_refl _, HR.out⟩, hbl⟩
end R1
end Go.Proofs.YtnbkhdbligjifaaGreatDoor
namespace Go.Proofs.YtnbkhdbligjifaaGreatDoor
open Go.RowKit
namespace R1
theorem above_any (a : List Nat) (va : Value) (n noughts : Nat) (hn : n < 18446744073709551616) (hno : noughts ≤ 100) (B : Nat) (w : World) (ha : URow B va a w) (hla : a.length ≤ 1000) :
 Calls Tryz.prog 173 #[va, .int .u64 (n : Int), .int .i64 (noughts : Int)] w fun e w' => e = .returned (.bool (aboveL a n noughts a.length)) ∧ Below w.heap.size w w' := by
 obtain ⟨ga, ca, rfl, _, hga⟩ := ha
 have hgal := hga.lt
 obtain ⟨R, hR⟩ : ∃ R, aboveL a n noughts a.length = R := ⟨_, rfl⟩
 rw [hR]
 have HG := Lib.hid hga
 clear hga
 go_enter Tryz.func173, Tryz.ntmps173
 go_wp2_with fail
 go_loopw [7] (fun i wr => ∃ k : Nat, k ≤ a.length ∧ i = .int .i64 ((k : Int) - 1) ∧ aboveL a n noughts k = R ∧ Below w.heap.size w wr) (fun i _ => (intOf i + 1).toNat)
 case atStart => exact ⟨a.length, by omega, rfl, hR, Below.refl _ _⟩
 case round =>
  obtain ⟨k, hk, rfl, hR1, hbl⟩ := hrel
  cases k with
  | zero =>
    have hRf : R = false := hR1.symm
    subst hRf
    go_wp2_with fail
    go_ret
    exact ⟨rfl, hbl⟩
  | succ k =>
    have e0 : (((k + 1 : Nat) : Int) - 1) = (k : Int) := by omega
    rw [e0]
    have hs0 := hbl.size
    rw [aboveL] at hR1
    have c1 : wr.cell? ⟨ga, k, none⟩ = some (.int .u64 ((a.getD k 0 : Nat) : Int)) := by
     rw [World.cell?_of_block (a := ⟨ga, k, none⟩) (hbl.block ga hgal), HG.out.cell k, u64s_get a k (by omega)]
    by_cases hin : noughts ≤ k ∧ k < noughts + 4
    ·have hD := digits_any n hn wr
     have hwd : wantD n noughts k = (digs n).getD (k - noughts) 0 := by rw [wantD, if_pos hin]
     obtain ⟨hin1, hin2⟩ := hin
     have d1 : (noughts : Int) ≤ (k : Int) := by omega
     have d2 : (k : Int) < (noughts : Int) + 4 := by omega
     go_wp2_with (go_at_call 171; refine hD.mono ?_)
     rintro e w1 ⟨v, rfl, ⟨g, c, rfl, hg, hrow⟩, hb1⟩
     have hlen : (digs n).length = 4 := rfl
     have c2 := hrow.cell (k - noughts)
     rw [u64s_get _ _ (by omega), ← hwd] at c2
     rw [hlen]
     have c3 : w1.cell? ⟨ga, k, none⟩ = some (.int .u64 ((a.getD k 0 : Nat) : Int)) := (World.cell?_of_block (a := ⟨ga, k, none⟩) (hb1.block ga (by omega))).trans c1
     generalize wantD n noughts k = y at *
     generalize a.getD k 0 = x at *
     have d3 : (0 : Int) ≤ (k : Int) - (noughts : Int) := by omega
     have d4 : (k : Int) - (noughts : Int) < 4 := by omega
     have HX := Lib.hid hR1
     clear hR1 hD hrow hwd hR c1
     by_cases hxy : x = y
     ·have hq : ((x : Int) = (y : Int)) := by rw [hxy]
      go_wp2_with fail
      go_roundw
      case rel => exact ⟨k, by omega, by go_num, by rw [← HX.out, if_neg (by simpa using hxy)], hbl.trans (hb1.mono hs0)⟩
      case measure => simp [intOf]
     ·have hq : ¬ ((x : Int) = (y : Int)) := by omega
      go_wp2_with fail
      go_ret
      refine ⟨?_, hbl.trans (hb1.mono hs0)⟩
      rw [← HX.out, if_pos hxy]
      rfl
    ·have hwd : wantD n noughts k = 0 := by rw [wantD, if_neg hin]
     rw [hwd] at hR1
     generalize a.getD k 0 = x at *
     have HX := Lib.hid hR1
     clear hR1 hwd hR
     by_cases hin1 : noughts ≤ k
     ·have d1 : (noughts : Int) ≤ (k : Int) := by omega
      have d2 : ¬ ((k : Int) < (noughts : Int) + 4) := by omega
      clear hin
      by_cases hxy : x = 0
      ·have hq : ((x : Int) = 0) := by omega
       go_wp2_with fail
       go_roundw
       case rel => exact ⟨k, by omega, by go_num, by rw [← HX.out, if_neg (by simpa using hxy)], hbl⟩
       case measure => simp [intOf]
      ·have hq : ¬ ((x : Int) = 0) := by omega
       go_wp2_with fail
       go_ret
       refine ⟨?_, hbl⟩
       rw [← HX.out, if_pos hxy]
       simp
     ·have d1 : ¬ ((noughts : Int) ≤ (k : Int)) := by omega
      clear hin
      by_cases hxy : x = 0
      ·have hq : ((x : Int) = 0) := by omega
       go_wp2_with fail
       go_roundw
       case rel => exact ⟨k, by omega, by go_num, by rw [← HX.out, if_neg (by simpa using hxy)], hbl⟩
       case measure => simp [intOf]
      ·have hq : ¬ ((x : Int) = 0) := by omega
       go_wp2_with fail
       go_ret
       refine ⟨?_, hbl⟩
       rw [← HX.out, if_pos hxy]
       simp
theorem above_at (a : List Nat) (va : Value) (n noughts : Nat) (no : Int) (hno' : no = (noughts : Int)) (hn : n < 18446744073709551616) (hno : noughts ≤ 100) (B : Nat) (w : World) (ha : URow B va a w) (hla : a.length ≤ 1000) (q : Bool) (hq : aboveL a n noughts a.length = q) :
 Calls Tryz.prog 173 #[va, .int .u64 (n : Int), .int .i64 no] w fun e w' => e = .returned (.bool q) ∧ Below w.heap.size w w' := by
 subst hno'; subst hq
 exact above_any a va n noughts hn hno B w ha hla
theorem digs_len (n : Nat) : (digs n).length = 4 := rfl
def addOf : Nat → Nat
 | 0 => 0
 | j + 1 => 2 ^ j
theorem addOf_half (j : Nat) : addOf (j + 1) / 2 = addOf j := by
 cases j with
 | zero => rfl
 | succ j => rw [addOf, addOf, Nat.pow_succ]; omega
theorem bitsOf2_any (n : Nat) (hn : n < 18446744073709551616) (w : World) :
 Calls Tryz.prog 134 #[.int .u64 (n : Int), .int .i64 2] w fun e w' => e = .returned (.int .u32 ((bitsF n 2 37 0 % 4294967296 : Nat) : Int)) ∧ Below w.heap.size w w' := by
 obtain ⟨R, hR⟩ : ∃ R, bitsF n 2 37 0 = R := ⟨_, rfl⟩
 rw [hR]
 have hR0 := Lib.hid hR
 clear hR
 go_enter Tryz.func134, Tryz.ntmps134
 go_wp2_with fail
 go_loopw [5, 6] (fun x a wr => ∃ j y : Nat, j ≤ 37 ∧ x = .int .u64 (y : Int) ∧ a = .int .u64 ((addOf j : Nat) : Int) ∧ y + 2 ^ j ≤ 2 ^ 37 ∧ bitsF n 2 j y = R ∧ Below w.heap.size w wr) (fun _ a _ => (intOf a).toNat)
 case atStart => exact ⟨37, 0, by omega, rfl, rfl, by omega, hR0.out, Below.refl _ _⟩
 case round =>
  obtain ⟨j, y, hj, rfl, rfl, hy, hR1, hbl⟩ := hrel
  cases j with
  | zero =>
    have hRy : y = R := hR1
    subst hRy
    have h0 : addOf 0 = 0 := rfl
    rw [h0]
    go_wp2_with fail
    go_ret
    refine ⟨?_, hbl⟩
    rw [show ((y % 4294967296 : Nat) : Int) = (y : Int) % 4294967296 by omega]; rfl
  | succ j =>
    have hh := addOf_half j
    have hadd : addOf (j + 1) = 2 ^ j := rfl
    rw [hadd] at hh ⊢
    rw [Nat.pow_succ] at hy
    have hp : 0 < 2 ^ j := Nat.two_pow_pos j
    have h37 : (2 : Nat) ^ 37 = 137438953472 := rfl
    rw [bitsF] at hR1
    generalize hadd2 : 2 ^ j = add at *
    have HA2 := Lib.hid hadd2
    clear hadd2
    have hD := digits_any (y + add) (by omega) wr
    have d1 : ¬ ((add : Int) = 0) := by omega
    have d2 : (0 : Int) < (add : Int) := by omega
    have hw : IntKind.u64.wrap ((y : Int) + (add : Int)) = (((y + add : Nat)) : Int) := by rw [IntKind.wrap_u64]; omega
    have hw2 : IntKind.u64.wrap ((add : Int) / 2) = ((addOf j : Nat) : Int) := by rw [IntKind.wrap_u64]; omega
    generalize hz : y + add = z at *
    have HD := Lib.hid hD
    have HR1 := Lib.hid hR1
    have HW := Lib.hid hw2
    clear hD hR1
    go_wp2_with (go_at_call 171; refine HD.out.mono ?_; rintro e w1 ⟨v1, rfl, hr1, hb1⟩)
    have hT := times_any (digs z) (digs z) v1 v1 wr.heap.size w1 hr1 hr1 (by rw [digs_len]; omega) (by rw [digs_len]; omega)
    have HT := Lib.hid hT
    clear hT
    have hTi := times_ok (digs z) (digs z) (small_digs z (by omega)) (small_digs z (by omega))
    have hl8 : (timesL (digs z) (digs z)).length = 8 := by rw [hTi.1]; rfl
    rw [show noughtsOf 2 = 4 by decide] at HR1
    have hcu : cubeL z 2 = timesL (digs z) (digs z) := by unfold cubeL; rw [if_neg (by decide)]
    rw [hcu] at HR1
    clear hTi hcu
    generalize timesL (digs z) (digs z) = p at *
    go_wp2_with (go_at_call 172; with_reducible refine HT.out.mono ?_; rintro e w2 ⟨v2, rfl, hr2, hb2⟩)
    have hbl2 : Below w.heap.size w w2 := hbl.trans ((hb1.trans (hb2.mono hb1.size)).mono hbl.size)
    have hs2 := hbl2.size
    cases hc : aboveL p n 4 p.length with
    | true =>
      have HA := Lib.hid (above_at p v2 n 4 4 rfl hn (by omega) w1.heap.size w2 hr2 (by omega) true hc)
      have HR2 := Lib.hid (show bitsF n 2 j y = R by rw [← HR1.out, hc, if_pos rfl])
      clear HR1 HT HD hR0 hc hl8 hr1 hr2
      go_wp2_with (go_at_call 173; with_reducible refine HA.out.mono ?_; rintro e w3 ⟨rfl, hb3⟩)
      go_roundw
      case rel => exact ⟨j, y, by omega, rfl, rfl, by rw [HA2.out]; omega, HR2.out, hbl2.trans (hb3.mono hs2)⟩
      case measure => simp [intOf]; omega
    | false =>
      have HA := Lib.hid (above_at p v2 n 4 4 rfl hn (by omega) w1.heap.size w2 hr2 (by omega) false hc)
      have HR2 := Lib.hid (show bitsF n 2 j z = R by rw [← HR1.out, hc, if_neg (by decide)])
      clear HR1 HT HD hR0 hc hl8 hr1 hr2
      go_wp2_with (go_at_call 173; with_reducible refine HA.out.mono ?_; rintro e w3 ⟨rfl, hb3⟩)
      go_roundw
      case rel => exact ⟨j, z, by omega, rfl, rfl, by rw [HA2.out]; omega, HR2.out, hbl2.trans (hb3.mono hs2)⟩
      case measure => simp [intOf]; omega
theorem bitsOf3_any (n : Nat) (hn : n < 18446744073709551616) (w : World) :
 Calls Tryz.prog 134 #[.int .u64 (n : Int), .int .i64 3] w fun e w' => e = .returned (.int .u32 ((bitsF n 3 37 0 % 4294967296 : Nat) : Int)) ∧ Below w.heap.size w w' := by
 obtain ⟨R, hR⟩ : ∃ R, bitsF n 3 37 0 = R := ⟨_, rfl⟩
 rw [hR]
 have hR0 := Lib.hid hR
 clear hR
 go_enter Tryz.func134, Tryz.ntmps134
 go_wp2_with fail
 go_loopw [5, 6] (fun x a wr => ∃ j y : Nat, j ≤ 37 ∧ x = .int .u64 (y : Int) ∧ a = .int .u64 ((addOf j : Nat) : Int) ∧ y + 2 ^ j ≤ 2 ^ 37 ∧ bitsF n 3 j y = R ∧ Below w.heap.size w wr) (fun _ a _ => (intOf a).toNat)
 case atStart => exact ⟨37, 0, by omega, rfl, rfl, by omega, hR0.out, Below.refl _ _⟩
 case round =>
  obtain ⟨j, y, hj, rfl, rfl, hy, hR1, hbl⟩ := hrel
  cases j with
  | zero =>
    have hRy : y = R := hR1
    subst hRy
    have h0 : addOf 0 = 0 := rfl
    rw [h0]
    go_wp2_with fail
    go_ret
    refine ⟨?_, hbl⟩
    rw [show ((y % 4294967296 : Nat) : Int) = (y : Int) % 4294967296 by omega]; rfl
  | succ j =>
    have hh := addOf_half j
    have hadd : addOf (j + 1) = 2 ^ j := rfl
    rw [hadd] at hh ⊢
    rw [Nat.pow_succ] at hy
    have hp : 0 < 2 ^ j := Nat.two_pow_pos j
    have h37 : (2 : Nat) ^ 37 = 137438953472 := rfl
    rw [bitsF] at hR1
    generalize hadd2 : 2 ^ j = add at *
    have HA2 := Lib.hid hadd2
    clear hadd2
    have hD := digits_any (y + add) (by omega) wr
    have d1 : ¬ ((add : Int) = 0) := by omega
    have d2 : (0 : Int) < (add : Int) := by omega
    have hw : IntKind.u64.wrap ((y : Int) + (add : Int)) = (((y + add : Nat)) : Int) := by rw [IntKind.wrap_u64]; omega
    have hw2 : IntKind.u64.wrap ((add : Int) / 2) = ((addOf j : Nat) : Int) := by rw [IntKind.wrap_u64]; omega
    generalize hz : y + add = z at *
    have HD := Lib.hid hD
    have HR1 := Lib.hid hR1
    have HW := Lib.hid hw2
    clear hD hR1
    go_wp2_with (go_at_call 171; refine HD.out.mono ?_; rintro e w1 ⟨v1, rfl, hr1, hb1⟩)
    have hT := times_any (digs z) (digs z) v1 v1 wr.heap.size w1 hr1 hr1 (by rw [digs_len]; omega) (by rw [digs_len]; omega)
    have HT := Lib.hid hT
    clear hT
    have hTi := times_ok (digs z) (digs z) (small_digs z (by omega)) (small_digs z (by omega))
    have hl8 : (timesL (digs z) (digs z)).length = 8 := by rw [hTi.1]; rfl
    rw [show noughtsOf 3 = 6 by decide] at HR1
    have hcu : cubeL z 3 = timesL (timesL (digs z) (digs z)) (digs z) := by unfold cubeL; rw [if_pos rfl]
    rw [hcu] at HR1
    have hl12 : (timesL (timesL (digs z) (digs z)) (digs z)).length = 12 := by rw [(times_ok _ (digs z) hTi.2.1 (small_digs z (by omega))).1, hl8]; rfl
    clear hTi hcu
    generalize timesL (digs z) (digs z) = p1 at *
    have h4 := digs_len z
    generalize digs z = p0 at *
    go_wp2_with (go_at_call 172; with_reducible refine HT.out.mono ?_; rintro e w3 ⟨v3, rfl, hr3, hb3⟩)
    have hT2 := times_any p1 p0 v3 v1 wr.heap.size w3 (hr3.mono (by have := hb1.size; omega)) (hr1.below hb3 (Nat.le_refl _)) (by omega) (by omega)
    have HT2 := Lib.hid hT2
    clear hT2 HT HD
    generalize timesL p1 p0 = p at *
    go_wp2_with (go_at_call 172; with_reducible refine HT2.out.mono ?_; rintro e w2 ⟨v2, rfl, hr2, hb2⟩)
    have hbl2 : Below w.heap.size w w2 := hbl.trans ((hb1.trans ((hb3.trans (hb2.mono hb3.size)).mono hb1.size)).mono hbl.size)
    have hs2 := hbl2.size
    cases hc : aboveL p n 6 p.length with
    | true =>
      have HA := Lib.hid (above_at p v2 n 6 6 rfl hn (by omega) w3.heap.size w2 hr2 (by omega) true hc)
      have HR2 := Lib.hid (show bitsF n 3 j y = R by rw [← HR1.out, hc, if_pos rfl])
      clear HR1 HT2 hR0 hc hl8 hl12 hr1 hr2 hr3
      go_wp2_with (go_at_call 173; with_reducible refine HA.out.mono ?_; rintro e w4 ⟨rfl, hb4⟩)
      go_roundw
      case rel => exact ⟨j, y, by omega, rfl, rfl, by rw [HA2.out]; omega, HR2.out, hbl2.trans (hb4.mono hs2)⟩
      case measure => simp [intOf]; omega
    | false =>
      have HA := Lib.hid (above_at p v2 n 6 6 rfl hn (by omega) w3.heap.size w2 hr2 (by omega) false hc)
      have HR2 := Lib.hid (show bitsF n 3 j z = R by rw [← HR1.out, hc, if_neg (by decide)])
      clear HR1 HT2 hR0 hc hl8 hl12 hr1 hr2 hr3
      go_wp2_with (go_at_call 173; with_reducible refine HA.out.mono ?_; rintro e w4 ⟨rfl, hb4⟩)
      go_roundw
      case rel => exact ⟨j, z, by omega, rfl, rfl, by rw [HA2.out]; omega, HR2.out, hbl2.trans (hb4.mono hs2)⟩
      case measure => simp [intOf]; omega
end R1
end Go.Proofs.YtnbkhdbligjifaaGreatDoor
set_option maxRecDepth 100000
set_option maxHeartbeats 40000000
namespace Go.Proofs.YtnbkhdbligjifaaGreatDoor
open Go.RowKit
namespace R1
open Sha
theorem own_below {w w' : World} {base : Nat} {e : TypeId} {size : Nat} {v : Value} {n : Nat} {xs : List Value} (h : w.ownsRow base e size v n xs) (hb : Below w.heap.size w w') : w'.ownsRow base e size v n xs := by
 refine ⟨h.1, ?_⟩
 rcases h.2 with hn | ⟨g, cap, cur, rfl, hb0, hgg, rest⟩
 ·exact .inl hn
 ·exact .inr ⟨g, cap, cur, rfl, hb0, (hb.block g (Array.getElem?_eq_some_iff.1 hgg).1).trans hgg, rest⟩
def Apart (u v : Value) : Prop := ∀ g, u.ownBlock = some g → v.ownBlock ≠ some g
theorem Apart.symm {u v : Value} (h : Apart u v) : Apart v u := fun g h1 h2 => h g h2 h1
theorem Apart.next {u u' v : Value} {w : World} {base : Nat} {e : TypeId} {size n : Nat} {xs : List Value} (h : Apart u v) (hv : w.ownsRow base e size v n xs) (hu : u'.ownBlock = u.ownBlock ∨ u'.ownBlock = some w.heap.size) : Apart u' v := fun g h1 h2 => by
 rcases hu with hu | hu
 ·rw [hu] at h1; exact h g h1 h2
 ·rw [hu] at h1
  have := (hv.lt g h2).2
  injection h1 with h1
  omega
theorem Apart.kept {u v : Value} {w w' : World} {base : Nat} {e : TypeId} {size n : Nat} {xs : List Value} (h : Apart u v) (hv : w.ownsRow base e size v n xs) (hg : w.grownBy w' u.ownBlock) : w'.ownsRow base e size v n xs := by
 refine hv.kept hg ?_
 cases hvb : v.ownBlock with
 | none => exact .inl rfl
 | some g => exact .inr fun e => h g e.symm hvb
theorem apart_nil : Apart (.slice none 0 0) (.slice none 0 0) := fun g h => by simp [Value.ownBlock] at h
def firsts (l : List Nat) : List Value := (l.take 8).map fun (p : Nat) => Value.int .u32 ((rootB p false : Nat) : Int)
def addeds (l : List Nat) : List Value := l.map fun (p : Nat) => Value.int .u32 ((rootB p true : Nat) : Int)
theorem primes20 (m : Nat) (_hm : 2 ≤ m) (h : (primesTo m).length < 8) : m < 20 := by
 rcases Nat.lt_or_ge m 20 with h1 | h1
 ·exact h1
 ·have hp := (primesTo_pre 20 (m - 20) (by omega)).length_le
  rw [show 20 + (m - 20) = m by omega, show (primesTo 20).length = 8 by decide +kernel] at hp
  omega
theorem tmodG (v d : Nat) : ((v : Int).tmod (d : Int)) = ((v % d : Nat) : Int) := by rw [Int.tmod_eq_emod_of_nonneg (by omega)]; rfl
theorem roots_any (w : World) :
 Calls Tryz.prog 95 #[] w fun e w' => ∃ v1 v2, e = .returned (.tuple #[v1, v2]) ∧ w'.ownsRow w.heap.size 171 1 v1 8 (r32 S0.list) ∧ w'.ownsRow w.heap.size 171 1 v2 64 (r32 R64) ∧ Below w.heap.size w w' := by
 obtain ⟨i0, hi, hz0, hz1, hz2⟩ := info_parts info_u32
 go_enter Tryz.func95, Tryz.ntmps95
 go_wp2_with fail
 go_loopw [2, 3, 4] (fun u v n wr => ∃ m : Nat, 2 ≤ m ∧ m ≤ 312 ∧ n = .int .u64 (m : Int) ∧ wr.ownsRow w.heap.size 171 1 u ((primesTo m).take 8).length (firsts (primesTo m)) ∧ wr.ownsRow w.heap.size 171 1 v (primesTo m).length (addeds (primesTo m)) ∧ Apart u v ∧ Below w.heap.size w wr) (fun _ _ n _ => 312 - (intOf n).toNat)
 case atStart => exact ⟨2, by omega, by omega, rfl, World.ownsRow_nil _ _ _ _, World.ownsRow_nil _ _ _ _, apart_nil, Below.refl _ _⟩
 case round =>
  obtain ⟨m, hm2, hm, rfl, hu, hv, hap, hbl⟩ := hrel
  obtain ⟨A, cap, rfl, _⟩ := row_form hu
  obtain ⟨A', cap', rfl, _⟩ := row_form hv
  have hb0 := hbl.size
  by_cases hlt : (primesTo m).length < 64
  ·have hm3 : m < 312 := by
    rcases Nat.lt_or_ge m 312 with h | h
    ·exact h
    ·have e : m = 312 := by omega
     subst e
     exact absurd P64_length (by unfold P64; omega)
   have hS := primesTo_succ m hm2
   have h20 := primes20 m hm2
   have hPF := prime_start m (by omega)
   have t1 : ((primesTo m).length : Int) < 64 := by omega
   generalize hL : primesTo m = L at *
   generalize hN : (L.take 8).length = n1 at *
   have HN := Lib.hid hN
   clear hN
   have HS := Lib.hid hS
   have HL := Lib.hid hL
   have HU := Lib.hid hu
   have HV := Lib.hid hv
   have HAP := Lib.hid hap
   have H20 := Lib.hid h20
   have HPF := Lib.hid hPF
   clear hS hL hu hv hap h20 hPF
   go_wp2_with fail
   go_loopw [5, 6] (fun b d wx => ∃ (j f : Nat) (q : Bool), j + f = 4096 ∧ wx = wr ∧ d = .int .u64 ((2 + j : Nat) : Int) ∧ b = .bool q ∧ ((q = true ∧ primeF m f (2 + j) = isPrime m) ∨ (q = false ∧ isPrime m = false))) (fun _ d _ => 5000 - (intOf d).toNat)
   case atStart => exact ⟨0, 4096, true, by omega, rfl, rfl, rfl, .inl ⟨rfl, HPF.out.symm⟩⟩
   case round =>
    obtain ⟨j, f, q, hjf, rfl, rfl, rfl, hq⟩ := hrel
    obtain ⟨D, hD⟩ : ∃ D, D = 2 + j := ⟨_, rfl⟩
    rw [← hD] at hq ⊢
    have hD5 : D * D ≤ 4098 * 4098 := Nat.mul_le_mul (by omega) (by omega)
    have hw : IntKind.u64.wrap ((D : Int) * (D : Int)) = ((D * D : Nat) : Int) := by rw [IntKind.wrap_u64, ← Int.natCast_mul]; omega
    have hw1 : IntKind.u64.wrap ((D : Int) + 1) = ((2 + (j + 1) : Nat) : Int) := by rw [IntKind.wrap_u64]; omega
    have HD := Lib.hid hD
    generalize hD1 : 2 + (j + 1) = D1 at *
    have HD1 := Lib.hid hD1
    clear hD hD1
    rcases hq with ⟨rfl, hq⟩ | ⟨rfl, hq⟩
    ·by_cases hdd : D * D ≤ m
     ·have hf : ∃ (f' : Nat), f = f' + 1 := ⟨f - 1, by
       rcases Nat.eq_zero_or_pos f with h0 | h0
       ·exfalso
        have hd := HD.out
        have : 4098 * 4098 ≤ D * D := Nat.mul_le_mul (by omega) (by omega)
        omega
       ·omega⟩
      obtain ⟨f', rfl⟩ := hf
      rw [primeF, if_pos hdd] at hq
      have t2 : ((D * D : Nat) : Int) ≤ (m : Int) := by omega
      have t3 := tmodG m D
      have t4 : ¬ ((D : Int) = 0) := by have := HD.out; omega
      generalize D * D = E at *
      by_cases hz : m % D = 0
      ·rw [if_pos hz] at hq
       have HQ := Lib.hid hq
       rw [hz] at t3
       clear hq
       go_wp2_with fail
       go_roundw
       case rel => exact ⟨j + 1, f', false, by omega, by simp, by rw [HD1.out], rfl, .inr ⟨rfl, HQ.out.symm⟩⟩
       case measure => first | (have := HD.out; have := HD1.out; simp [intOf]; omega) | (simp [intOf]; omega)
      ·rw [if_neg hz] at hq
       have HQ := Lib.hid hq
       generalize m % D = z at *
       have t5 : ¬ ((z : Int) = 0) := by omega
       have t6 : ((z : Int) != 0) = true := bne_iff_ne.2 t5
       clear hq
       go_wp2_with fail
       go_roundw
       case rel => exact ⟨j + 1, f', true, by omega, by simp, by rw [HD1.out], rfl, .inl ⟨rfl, by rw [show 2 + (j + 1) = D + 1 by have := HD.out; omega]; exact HQ.out⟩⟩
       case measure => first | (have := HD.out; have := HD1.out; simp [intOf]; omega) | (simp [intOf]; omega)
     ·rw [primeF_end m f D (by omega)] at hq
      have t2 : ¬ (((D * D : Nat) : Int) ≤ (m : Int)) := by omega
      have HS2 := Lib.hid (show primesTo (m + 1) = L ++ [m] by rw [HS.out, if_pos hq.symm])
      clear hq HS HPF
      generalize D * D = E at *
      have hB3 := bitsOf3_any m (by omega)
      rw [bits_root m 3 true (.inr ⟨rfl, rfl, by omega⟩)] at hB3
      obtain ⟨b3, hb3⟩ : ∃ b3, b3 = rootB m true := ⟨_, rfl⟩
      rw [← hb3] at hB3
      have HB3 := Lib.hid hB3
      have HQ3 := Lib.hid hb3
      clear hB3 hb3
      by_cases h8 : L.length < 8
      ·have hB2 := bitsOf2_any m (by omega) wr
       rw [bits_root m 2 false (.inl ⟨rfl, rfl, by have := H20.out h8; omega⟩)] at hB2
       obtain ⟨b2, hb2⟩ : ∃ b2, b2 = rootB m false := ⟨_, rfl⟩
       rw [← hb2] at hB2
       have HB2 := Lib.hid hB2
       have HQ2 := Lib.hid hb2
       have hn1 : (n1 : Int) < 8 := by rw [← HN.out, List.length_take]; omega
       clear hB2 hb2
       go_wp2_with fail
       refine HB2.out.mono ?_
       rintro e wa ⟨rfl, hba⟩
       have HUa := own_below HU.out hba
       have HVa := own_below HV.out hba
       have hsa := hba.size
       go_wp2_with (at_builtin; refine wpList_append_own_at _ rfl _ _ 166 rfl w.heap.size 171 i0 (.int .u32 0) 1 4 Tryz.underlying166 hi hz0 hz1 hz2 rfl (by decide) _ _ _ rfl (HUa.alloc _) ⟨wa.heap.size, 0, none⟩ 1 1 [.int .u32 (b2 : Int)] rfl rfl (cell_one_new _ _ _) (by simp [Value.oneCell']) (by unfold maxLen; omega) (by omega) (by simp; omega) ?_; intro v' wb hown' hgrow hnil' hwh')
       have hg1 : (wa.alloc (.cells #[.int .u32 (b2 : Int)] 171)).grownBy wb (Value.slice A n1 cap).ownBlock := hgrow
       have hq1 : v'.ownBlock = (Value.slice A n1 cap).ownBlock ∨ v'.ownBlock = some (wa.alloc (.cells #[.int .u32 (b2 : Int)] 171)).heap.size := hwh'
       have HVb := HAP.out.kept (HVa.alloc _) hg1
       have APb := HAP.out.next (HVa.alloc _) hq1
       have HBb := below_row (hbl.trans (hba.mono hb0)) (Nat.le_refl _) HUa (Nat.le_refl _) hg1
       have hsb := HBb.size
       have HAPb := Lib.hid APb
       clear hgrow hwh' hnil' hg1 hq1 HUa HVa APb HB2
       refine (HB3.out wb).mono ?_
       rintro e wc ⟨rfl, hbc⟩
       have HUc := own_below hown' hbc
       have HVc := own_below HVb hbc
       have hsc := hbc.size
       clear hown' HVb
       go_wp2_with (at_builtin; refine wpList_append_own_at _ rfl _ _ 166 rfl w.heap.size 171 i0 (.int .u32 0) 1 4 Tryz.underlying166 hi hz0 hz1 hz2 rfl (by decide) _ _ _ rfl (HVc.alloc _) ⟨wc.heap.size, 0, none⟩ 1 1 [.int .u32 (b3 : Int)] rfl rfl (cell_one_new _ _ _) (by simp [Value.oneCell']) (by unfold maxLen; omega) (by omega) (by simp; omega) ?_; intro v'' wd hown2 hgrow2 hnil2 hwh2)
       have hg2 : (wc.alloc (.cells #[.int .u32 (b3 : Int)] 171)).grownBy wd (Value.slice A' L.length cap').ownBlock := hgrow2
       have hq2 : v''.ownBlock = (Value.slice A' L.length cap').ownBlock ∨ v''.ownBlock = some (wc.alloc (.cells #[.int .u32 (b3 : Int)] 171)).heap.size := hwh2
       have HUd := HAPb.out.symm.kept (HUc.alloc _) hg2
       have APd := (HAPb.out.symm.next (HUc.alloc _) hq2).symm
       have HBd := below_row (HBb.trans (hbc.mono hsb)) (Nat.le_refl _) HVc (Nat.le_refl _) hg2
       have hlen : ((L ++ [m]).take 8).length = n1 + 1 := by
        have h := HN.out
        rw [List.length_take] at h ⊢; rw [List.length_append]; simp; omega
       have hrow : firsts (L ++ [m]) = firsts L ++ [.int .u32 (b2 : Int)] := by
        unfold firsts
        rw [List.take_of_length_le (by simp; omega), List.take_of_length_le (by omega), List.map_append, HQ2.out]; rfl
       have hrow2 : addeds (L ++ [m]) = addeds L ++ [.int .u32 (b3 : Int)] := by
        unfold addeds
        rw [List.map_append, HQ3.out]; rfl
       have HL1 := Lib.hid hlen
       have HL2 := Lib.hid hrow
       have HL3 := Lib.hid hrow2
       have HLU := Lib.hid HUd
       have HLV := Lib.hid hown2
       clear hgrow2 hwh2 hnil2 hg2 hq2 HUc HVc hlen hrow hrow2 HUd hown2
       go_roundw
       case rel => exact ⟨m + 1, by omega, by omega, by go_num, by rw [HS2.out, HL1.out, HL2.out]; exact HLU.out, by rw [HS2.out, HL3.out, List.length_append]; exact HLV.out, APd, HBd⟩
       case measure => simp [intOf]; omega
      ·have hn1 : ¬ ((n1 : Int) < 8) := by rw [← HN.out, List.length_take]; omega
       go_wp2_with fail
       refine (HB3.out wr).mono ?_
       rintro e wc ⟨rfl, hbc⟩
       have HUc := own_below HU.out hbc
       have HVc := own_below HV.out hbc
       have hsc := hbc.size
       go_wp2_with (at_builtin; refine wpList_append_own_at _ rfl _ _ 166 rfl w.heap.size 171 i0 (.int .u32 0) 1 4 Tryz.underlying166 hi hz0 hz1 hz2 rfl (by decide) _ _ _ rfl (HVc.alloc _) ⟨wc.heap.size, 0, none⟩ 1 1 [.int .u32 (b3 : Int)] rfl rfl (cell_one_new _ _ _) (by simp [Value.oneCell']) (by unfold maxLen; omega) (by omega) (by simp; omega) ?_; intro v'' wd hown2 hgrow2 hnil2 hwh2)
       have hg2 : (wc.alloc (.cells #[.int .u32 (b3 : Int)] 171)).grownBy wd (Value.slice A' L.length cap').ownBlock := hgrow2
       have hq2 : v''.ownBlock = (Value.slice A' L.length cap').ownBlock ∨ v''.ownBlock = some (wc.alloc (.cells #[.int .u32 (b3 : Int)] 171)).heap.size := hwh2
       have HUd := HAP.out.symm.kept (HUc.alloc _) hg2
       have APd := (HAP.out.symm.next (HUc.alloc _) hq2).symm
       have HBd := below_row (hbl.trans (hbc.mono hb0)) (Nat.le_refl _) HVc (Nat.le_refl _) hg2
       have htk : (L ++ [m]).take 8 = L.take 8 := List.take_append_of_le_length (by omega)
       have hrow : firsts (L ++ [m]) = firsts L := by unfold firsts; rw [htk]
       have hrow2 : addeds (L ++ [m]) = addeds L ++ [.int .u32 (b3 : Int)] := by
        unfold addeds
        rw [List.map_append, HQ3.out]; rfl
       have HL1 := Lib.hid htk
       have HL2 := Lib.hid hrow
       have HL3 := Lib.hid hrow2
       have HLU := Lib.hid HUd
       have HLV := Lib.hid hown2
       clear hgrow2 hwh2 hnil2 hg2 hq2 HUc HVc htk hrow hrow2 HUd hown2
       go_roundw
       case rel => exact ⟨m + 1, by omega, by omega, by go_num, by rw [HS2.out, HL1.out, HL2.out, HN.out]; exact HLU.out, by rw [HS2.out, HL3.out, List.length_append]; exact HLV.out, APd, HBd⟩
       case measure => simp [intOf]; omega
    ·have HS2 := Lib.hid (show primesTo (m + 1) = L by rw [HS.out, if_neg (by rw [hq]; decide)])
     clear hq HS HPF
     by_cases hdd : D * D ≤ m
     ·have t2 : ((D * D : Nat) : Int) ≤ (m : Int) := by omega
      generalize D * D = E at *
      go_wp2_with fail
      go_roundw
      case rel => exact ⟨m + 1, by omega, by omega, by go_num, by rw [HS2.out, HN.out]; exact HU.out, by rw [HS2.out]; exact HV.out, HAP.out, hbl⟩
      case measure => first | (have := HD.out; have := HD1.out; simp [intOf]; omega) | (simp [intOf]; omega)
     ·have t2 : ¬ (((D * D : Nat) : Int) ≤ (m : Int)) := by omega
      generalize D * D = E at *
      go_wp2_with fail
      go_roundw
      case rel => exact ⟨m + 1, by omega, by omega, by go_num, by rw [HS2.out, HN.out]; exact HU.out, by rw [HS2.out]; exact HV.out, HAP.out, hbl⟩
      case measure => first | (have := HD.out; have := HD1.out; simp [intOf]; omega) | (simp [intOf]; omega)
  ·have hF := primesTo_full m hm2 hm (by omega)
   have hu8 : ((primesTo m).take 8).length = 8 := by rw [List.length_take]; omega
   have hl := Nat.le_antisymm (primesTo_len m hm2 hm) (by omega)
   have hr1 : firsts (primesTo m) = r32 S0.list := by rw [hF]; unfold firsts; rw [P8]; rfl
   have hr2 : addeds (primesTo m) = r32 R64 := by
    rw [hF]; unfold addeds r32 R64
    rw [List.map_map]; rfl
   rw [hu8, hr1] at hu
   rw [hl, hr2] at hv
   have t1 : ¬ (((primesTo m).length : Int) < 64) := by omega
   rw [hu8]
   generalize (primesTo m).length = n2 at *
   have HU := Lib.hid hu
   have HV := Lib.hid hv
   clear hF hu8 hr1 hr2 hu hv hap
   go_wp2_with fail
   go_ret2
   subst hl
   exact ⟨_, _, rfl, HU.out, HV.out, hbl⟩
end R1
end Go.Proofs.YtnbkhdbligjifaaGreatDoor
namespace Go.Proofs.YtnbkhdbligjifaaGreatDoor
open Go.RowKit
namespace R1
open Sha
theorem or_comm (x y : Nat) (hx : x < 4294967296) (hy : y < 4294967296) : bits .or .u32 (x : Int) (y : Int) = bits .or .u32 (y : Int) (x : Int) := by
 rw [u32_or_nat _ _ hx hy, u32_or_nat _ _ hy hx, Nat.or_comm]
theorem rotr_flip (x : Int) (k : Nat) (h0 : 0 ≤ x) (h1 : x < 4294967296) : bits .or .u32 (x / 2 ^ k) (x * 2 ^ (32 - k) % 4294967296) = rotr x k := by
 obtain ⟨X, rfl⟩ := Int.eq_ofNat_of_zero_le h0
 have e1 : (X : Int) / 2 ^ k = ((X / 2 ^ k : Nat) : Int) := by rw [Int.natCast_ediv, Int.natCast_pow]; rfl
 have e2 : (X : Int) * 2 ^ (32 - k) % 4294967296 = ((X * 2 ^ (32 - k) % 4294967296 : Nat) : Int) := by rw [Int.natCast_emod, Int.natCast_mul, Int.natCast_pow]; rfl
 unfold rotr
 rw [e1, e2]
 exact or_comm _ _ (Nat.lt_of_le_of_lt (Nat.div_le_self _ _) (by omega)) (Nat.mod_lt _ (by omega))
theorem turn_any (x : Int) (k : Nat) (K : Int) (hK : K = (k : Int)) (h0 : 0 ≤ x) (h1 : x < 4294967296) (hn : 1 ≤ k) (hn' : k ≤ 31) (w : World) :
 Calls Tryz.prog 135 #[.int .u32 x, .int .u32 K] w fun e w' => e = .returned (.int .u32 (rotr x k)) ∧ w' = w := by
 subst hK
 have h2 : IntKind.u32.wrap (32 - (k : Int)) = 32 - (k : Int) := by rw [IntKind.wrap_u32']; omega
 have h3 : IntKind.u64.wrap (32 - (k : Int)) = 32 - (k : Int) := by rw [IntKind.wrap_u64]; omega
 go_enter Tryz.func135, Tryz.ntmps135
 go_wp2_with fail
 rw [rotr_flip x k h0 h1]
 go_ret
 exact ⟨rfl, rfl⟩
end R1
end Go.Proofs.YtnbkhdbligjifaaGreatDoor
