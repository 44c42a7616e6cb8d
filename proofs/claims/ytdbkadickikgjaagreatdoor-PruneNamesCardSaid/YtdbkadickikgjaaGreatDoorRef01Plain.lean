/-
 Plain words for the document's roots (strongboxref01): numbers in digits of 16 bits, their products, the root's bits: the same as the program's. No program is named.
-/
import Derived.Test.YtdbkadickikgjaaGreatDoorShaBits
namespace Go.Proofs.YtdbkadickikgjaaGreatDoor
open Go.RowKit
namespace R1
def digs (n : Nat) : List Nat := [n % 65536, n / 65536 % 65536, n / 65536 / 65536 % 65536, n / 65536 / 65536 / 65536]
def tIn (ai : Nat) (b : List Nat) (i : Nat) (out : List Nat) : Nat → List Nat × Nat
 | 0 => (out, 0)
 | k + 1 => (((tIn ai b i out k).1.set (i + k) (((tIn ai b i out k).1.getD (i + k) 0 + ai * b.getD k 0 + (tIn ai b i out k).2) % 18446744073709551616 % 65536)),
     ((tIn ai b i out k).1.getD (i + k) 0 + ai * b.getD k 0 + (tIn ai b i out k).2) % 18446744073709551616 / 65536)
def tOut (a b : List Nat) : Nat → List Nat
 | 0 => List.replicate (a.length + b.length) 0
 | i + 1 => (tIn (a.getD i 0) b i (tOut a b i) b.length).1.set (i + b.length) (((tIn (a.getD i 0) b i (tOut a b i) b.length).1.getD (i + b.length) 0 + (tIn (a.getD i 0) b i (tOut a b i) b.length).2) % 18446744073709551616)
def timesL (a b : List Nat) : List Nat := tOut a b a.length
def wantD (n noughts i : Nat) : Nat := if noughts ≤ i ∧ i < noughts + 4 then (digs n).getD (i - noughts) 0 else 0
def aboveL (a : List Nat) (n noughts : Nat) : Nat → Bool
 | 0 => false
 | i + 1 => if a.getD i 0 ≠ wantD n noughts i then decide (wantD n noughts i < a.getD i 0) else aboveL a n noughts i
def cubeL (x root : Nat) : List Nat := if root = 3 then timesL (timesL (digs x) (digs x)) (digs x) else timesL (digs x) (digs x)
def noughtsOf (root : Nat) : Nat := if root = 3 then 6 else 4
def bitsF (n root : Nat) : Nat → Nat → Nat
 | 0, x => x
 | j + 1, x => if aboveL (cubeL (x + 2 ^ j) root) n (noughtsOf root) (cubeL (x + 2 ^ j) root).length then bitsF n root j x else bitsF n root j (x + 2 ^ j)
def val : List Nat → Nat
 | [] => 0
 | d :: t => d + 65536 * val t
def Small (l : List Nat) : Prop := ∀ i, l.getD i 0 < 65536
theorem val_take_succ (l : List Nat) (k : Nat) : val (l.take (k + 1)) = val (l.take k) + l.getD k 0 * 65536 ^ k := by
 induction l generalizing k with
 | nil => simp [val]
 | cons d t ih =>
   cases k with
   | zero => simp [val]
   | succ k =>
     rw [List.take_succ_cons, List.take_succ_cons, val, val, ih k, List.getD_cons_succ, Nat.mul_add, Nat.pow_succ, ← Nat.add_assoc]
     congr 1
     rw [Nat.mul_comm 65536, Nat.mul_assoc]
theorem val_take_lt (l : List Nat) (h : Small l) (k : Nat) : val (l.take k) < 65536 ^ k := by
 induction k with
 | zero => simp [val]
 | succ k ih =>
   rw [val_take_succ, Nat.pow_succ]
   have h1 := Nat.mul_le_mul_right (65536 ^ k) (show l.getD k 0 ≤ 65535 from by have := h k; omega)
   omega
theorem val_set (l : List Nat) (i v : Nat) (h : i < l.length) : val (l.set i v) + l.getD i 0 * 65536 ^ i = val l + v * 65536 ^ i := by
 induction l generalizing i with
 | nil => simp at h
 | cons d t ih =>
   cases i with
   | zero => simp [val]; omega
   | succ i =>
     have := ih i (by simpa using h)
     rw [List.set_cons_succ, val, val, List.getD_cons_succ, Nat.pow_succ, ← Nat.mul_assoc, ← Nat.mul_assoc]
     omega
theorem small_set (l : List Nat) (i v : Nat) (hl : Small l) (hv : v < 65536) : Small (l.set i v) := by
 intro j
 have := hl j
 simp only [List.getD_eq_getElem?_getD, List.getElem?_set] at this ⊢
 split
 · split <;> simp <;> omega
 · exact this
theorem tIn_ok (ai : Nat) (b : List Nat) (i : Nat) (out : List Nat) (ha : ai < 65536) (hb : Small b) (ho : Small out) (k : Nat) (hk : k ≤ b.length) (hl : i + b.length ≤ out.length) :
   (tIn ai b i out k).1.length = out.length ∧ Small (tIn ai b i out k).1 ∧ (tIn ai b i out k).2 < 65536 ∧ (∀ j, i + k ≤ j → (tIn ai b i out k).1.getD j 0 = out.getD j 0) ∧
   val (tIn ai b i out k).1 + (tIn ai b i out k).2 * 65536 ^ (i + k) = val out + ai * 65536 ^ i * val (b.take k) := by
 induction k with
 | zero => simp [tIn, val]; exact ho
 | succ k ih =>
   obtain ⟨h1, h2, h3, h4, h5⟩ := ih (by omega)
   rw [tIn]
   generalize hR : tIn ai b i out k = R at *
   obtain ⟨o, c⟩ := R
   simp only at h1 h2 h3 h4 h5 ⊢
   have hbk := hb k
   have hok := h2 (i + k)
   generalize hv : o.getD (i + k) 0 + ai * b.getD k 0 + c = v
   have hm : ai * b.getD k 0 ≤ 65535 * 65535 := Nat.mul_le_mul (by omega) (by omega)
   have hv2 : v % 18446744073709551616 = v := Nat.mod_eq_of_lt (by omega)
   rw [hv2]
   have hs := val_set o (i + k) (v % 65536) (by omega)
   refine ⟨by simpa using h1, small_set _ _ _ h2 (by omega), by omega, fun j hj => ?_, ?_⟩
   · rw [← h4 j (by omega)]
     simp only [List.getD_eq_getElem?_getD, List.getElem?_set]
     rw [if_neg (by omega)]
   · rw [val_take_succ, Nat.mul_add, ← Nat.add_assoc (val out), ← h5]
     have e1 : ai * 65536 ^ i * (b.getD k 0 * 65536 ^ k) = ai * b.getD k 0 * 65536 ^ (i + k) := by
       rw [Nat.pow_add]; simp only [Nat.mul_assoc, Nat.mul_left_comm]
     have e2 : v / 65536 * 65536 ^ (i + (k + 1)) = 65536 * (v / 65536) * 65536 ^ (i + k) := by
       rw [← Nat.add_assoc, Nat.pow_succ]; simp only [Nat.mul_comm, Nat.mul_left_comm]; rw [Nat.mul_assoc]
     rw [e1, e2]
     have e3 : (65536 * (v / 65536) + v % 65536) * 65536 ^ (i + k) = v * 65536 ^ (i + k) := by rw [Nat.div_add_mod]
     rw [Nat.add_mul] at e3
     have e4 : v * 65536 ^ (i + k) = o.getD (i + k) 0 * 65536 ^ (i + k) + ai * b.getD k 0 * 65536 ^ (i + k) + c * 65536 ^ (i + k) := by rw [← hv, Nat.add_mul, Nat.add_mul]
     omega
theorem small_zero (n : Nat) : Small (List.replicate n 0) := by
 intro i; simp [List.getD_eq_getElem?_getD, List.getElem?_replicate]; split <;> simp
theorem val_zero (n : Nat) : val (List.replicate n 0) = 0 := by
 induction n with
 | zero => rfl
 | succ n ih => rw [List.replicate_succ, val, ih]
theorem tOut_ok (a b : List Nat) (ha : Small a) (hb : Small b) (i : Nat) (hi : i ≤ a.length) :
   (tOut a b i).length = a.length + b.length ∧ Small (tOut a b i) ∧ (∀ j, i + b.length ≤ j → (tOut a b i).getD j 0 = 0) ∧ val (tOut a b i) = val (a.take i) * val b := by
 induction i with
 | zero =>
   refine ⟨by simp [tOut], small_zero _, fun j _ => ?_, by simp [tOut, val_zero, val]⟩
   simp [tOut, List.getD_eq_getElem?_getD, List.getElem?_replicate]; split <;> simp
 | succ i ih =>
   obtain ⟨h1, h2, h3, h4⟩ := ih (by omega)
   rw [tOut]
   have ht := tIn_ok (a.getD i 0) b i (tOut a b i) (ha i) hb h2 b.length (Nat.le_refl _) (by omega)
   generalize tIn (a.getD i 0) b i (tOut a b i) b.length = R at *
   obtain ⟨o, c⟩ := R
   obtain ⟨g1, g2, g3, g4, g5⟩ := ht
   simp only at g1 g2 g3 g4 g5 ⊢
   have h0 : o.getD (i + b.length) 0 = 0 := by rw [g4 _ (Nat.le_refl _)]; exact h3 _ (Nat.le_refl _)
   rw [h0, Nat.zero_add, Nat.mod_eq_of_lt (by omega)]
   have hs := val_set o (i + b.length) c (by omega)
   refine ⟨by simp; omega, small_set _ _ _ g2 g3, fun j hj => ?_, ?_⟩
   · have e : (o.set (i + b.length) c).getD j 0 = o.getD j 0 := by
       simp only [List.getD_eq_getElem?_getD, List.getElem?_set]
       rw [if_neg (by omega)]
     rw [e, g4 j (by omega)]
     exact h3 j (by omega)
   · rw [h0] at hs
     rw [val_take_succ, Nat.add_mul, ← h4]
     rw [List.take_length] at g5
     have e : a.getD i 0 * 65536 ^ i * val b = a.getD i 0 * 65536 ^ i * val b := rfl
     omega
theorem times_ok (a b : List Nat) (ha : Small a) (hb : Small b) : (timesL a b).length = a.length + b.length ∧ Small (timesL a b) ∧ val (timesL a b) = val a * val b := by
 obtain ⟨h1, h2, _, h4⟩ := tOut_ok a b ha hb a.length (Nat.le_refl _)
 refine ⟨h1, h2, ?_⟩
 rw [timesL, h4, List.take_length]
theorem small_digs (n : Nat) (hn : n < 18446744073709551616) : Small (digs n) := by
 intro i
 match i with
 | 0 => show n % 65536 < _; omega
 | 1 => show n / 65536 % 65536 < _; omega
 | 2 => show n / 65536 / 65536 % 65536 < _; omega
 | 3 => show n / 65536 / 65536 / 65536 < _; omega
 | i + 4 => show 0 < _; omega
theorem val_digs (n : Nat) : val (digs n) = n := by
 simp only [digs, val]; omega
theorem wantD_small (n noughts i : Nat) (hn : n < 18446744073709551616) : wantD n noughts i < 65536 := by
 unfold wantD
 split
 · exact small_digs n hn _
 · omega
def wants (n noughts m : Nat) : List Nat := (List.range m).map (wantD n noughts)
theorem wants_get (n noughts m i : Nat) (h : i < m) : (wants n noughts m).getD i 0 = wantD n noughts i := by simp [wants, h]
theorem wants_small (n noughts m : Nat) (hn : n < 18446744073709551616) : Small (wants n noughts m) := by
 intro i
 by_cases h : i < m
 · rw [wants_get _ _ _ _ h]; exact wantD_small _ _ _ hn
 · rw [List.getD_eq_getElem?_getD, List.getElem?_eq_none (by simp [wants]; omega)]; show 0 < _; omega
theorem above_ok (a : List Nat) (n noughts : Nat) (ha : Small a) (hn : n < 18446744073709551616) (m : Nat) (i : Nat) (hi : i ≤ m) :
   aboveL a n noughts i = decide (val ((wants n noughts m).take i) < val (a.take i)) := by
 induction i with
 | zero => simp [aboveL, val]
 | succ i ih =>
   rw [aboveL, val_take_succ, val_take_succ, wants_get n noughts m i (by omega)]
   have h1 := val_take_lt a ha i
   have h2 := val_take_lt (wants n noughts m) (wants_small n noughts m hn) i
   by_cases h : a.getD i 0 = wantD n noughts i
   · rw [if_neg (by simpa using h), ih (by omega), h]
     congr 1; simp
   · rw [if_pos h]
     congr 1
     apply propext
     have hm : ∀ x y : Nat, x < y → x * 65536 ^ i + 65536 ^ i ≤ y * 65536 ^ i := fun x y hxy => by
       have := Nat.mul_le_mul_right (65536 ^ i) (show x + 1 ≤ y from hxy)
       rwa [Nat.add_mul, Nat.one_mul] at this
     constructor
     · intro hlt
       have := hm _ _ hlt
       omega
     · intro hlt
       rcases Nat.lt_or_ge (wantD n noughts i) (a.getD i 0) with h' | h'
       · exact h'
       · have := hm _ _ (show a.getD i 0 < wantD n noughts i by omega)
         omega
theorem val_zero_cons (l : List Nat) : val (0 :: l) = 65536 * val l := by rw [val, Nat.zero_add]
theorem val_two (a b c d : Nat) : val [a, b, c, d, 0, 0] = val [a, b, c, d] := by simp only [val, Nat.mul_zero, Nat.add_zero]
theorem wants4 (n : Nat) : val (wants n 4 8) = n * 65536 ^ 4 := by
 have : wants n 4 8 = 0 :: 0 :: 0 :: 0 :: digs n := rfl
 rw [this]
 simp only [val_zero_cons, val_digs]; omega
theorem wants6 (n : Nat) : val (wants n 6 12) = n * 65536 ^ 6 := by
 have : wants n 6 12 = 0 :: 0 :: 0 :: 0 :: 0 :: 0 :: [n % 65536, n / 65536 % 65536, n / 65536 / 65536 % 65536, n / 65536 / 65536 / 65536, 0, 0] := rfl
 rw [this]
 simp only [val_zero_cons]
 rw [val_two, show [n % 65536, n / 65536 % 65536, n / 65536 / 65536 % 65536, n / 65536 / 65536 / 65536] = digs n from rfl, val_digs]; omega
theorem cube2 (x n : Nat) (hx : x < 18446744073709551616) (hn : n < 18446744073709551616) : (cubeL x 2).length = 8 ∧ aboveL (cubeL x 2) n (noughtsOf 2) 8 = decide (n * 65536 ^ 4 < x * x) := by
 have hs := small_digs x hx
 obtain ⟨h1, h2, h3⟩ := times_ok (digs x) (digs x) hs hs
 have e : cubeL x 2 = timesL (digs x) (digs x) := by unfold cubeL; rw [if_neg (by decide)]
 rw [e]
 have hl : (timesL (digs x) (digs x)).length = 8 := by rw [h1]; rfl
 refine ⟨hl, ?_⟩
 rw [show noughtsOf 2 = 4 by decide, above_ok _ n 4 h2 hn 8 8 (Nat.le_refl _)]
 rw [List.take_of_length_le (by simp [wants]), List.take_of_length_le (by omega), wants4, h3, val_digs]
theorem cube3 (x n : Nat) (hx : x < 18446744073709551616) (hn : n < 18446744073709551616) : (cubeL x 3).length = 12 ∧ aboveL (cubeL x 3) n (noughtsOf 3) 12 = decide (n * 65536 ^ 6 < x * x * x) := by
 have hs := small_digs x hx
 obtain ⟨h1, h2, h3⟩ := times_ok (digs x) (digs x) hs hs
 obtain ⟨g1, g2, g3⟩ := times_ok _ (digs x) h2 hs
 have e : cubeL x 3 = timesL (timesL (digs x) (digs x)) (digs x) := by unfold cubeL; rw [if_pos rfl]
 rw [e]
 have hl : (timesL (timesL (digs x) (digs x)) (digs x)).length = 12 := by rw [g1, h1]; rfl
 refine ⟨hl, ?_⟩
 rw [show noughtsOf 3 = 6 by decide, above_ok _ n 6 g2 hn 12 12 (Nat.le_refl _)]
 rw [List.take_of_length_le (by simp [wants]), List.take_of_length_le (by omega), wants6, g3, h3, val_digs]
theorem bits_step (n root : Nat) (cubed : Bool) (hr : (root = 2 ∧ cubed = false) ∨ (root = 3 ∧ cubed = true)) (x : Nat) (hx : x < 18446744073709551616) (hn : n < 18446744073709551616) :
   aboveL (cubeL x root) n (noughtsOf root) (cubeL x root).length = Sha.overB x n cubed := by
 rcases hr with ⟨rfl, rfl⟩ | ⟨rfl, rfl⟩
 · obtain ⟨h1, h2⟩ := cube2 x n hx hn
   rw [h1, h2, Sha.overB, if_neg (by decide), show (65536 : Nat) ^ 4 = 18446744073709551616 by decide]
 · obtain ⟨h1, h2⟩ := cube3 x n hx hn
   rw [h1, h2, Sha.overB, if_pos rfl, show (65536 : Nat) ^ 6 = 79228162514264337593543950336 by decide]
theorem bitsF_root (n root : Nat) (cubed : Bool) (hr : (root = 2 ∧ cubed = false) ∨ (root = 3 ∧ cubed = true)) (hn : n < 18446744073709551616) (j x : Nat) (hx : x + 2 ^ j ≤ 2 ^ 37) :
   bitsF n root j x = Sha.rootF n cubed j x := by
 induction j generalizing x with
 | zero => rfl
 | succ j ih =>
   rw [Nat.pow_succ] at hx
   have hp : 0 < 2 ^ j := Nat.two_pow_pos j
   have h37 : (2 : Nat) ^ 37 = 137438953472 := rfl
   rw [bitsF, Sha.rootF, bits_step n root cubed hr _ (by omega) hn]
   cases Sha.overB (x + 2 ^ j) n cubed with
   | true => rw [if_pos rfl, if_pos rfl]; exact ih x (by omega)
   | false => rw [if_neg (by decide), if_neg (by decide)]; exact ih (x + 2 ^ j) (by omega)
theorem rootF_more (n : Nat) (cubed : Bool) (b x : Nat) (h : Sha.overB (x + 2 ^ b) n cubed = true) : Sha.rootF n cubed (b + 1) x = Sha.rootF n cubed b x := by
 rw [Sha.rootF, if_pos h]
theorem bits_root (n root : Nat) (cubed : Bool) (hr : (root = 2 ∧ cubed = false ∧ n < 256) ∨ (root = 3 ∧ cubed = true ∧ n < 4096)) : bitsF n root 37 0 % 4294967296 = Sha.rootB n cubed := by
 have ho : Sha.overB (0 + 2 ^ 36) n cubed = true := by
   rcases hr with ⟨_, rfl, hn⟩ | ⟨_, rfl, hn⟩
   · unfold Sha.overB
     rw [if_neg (by decide), decide_eq_true_eq]; omega
   · unfold Sha.overB
     rw [if_pos rfl, decide_eq_true_eq]; omega
 have hr' : (root = 2 ∧ cubed = false) ∨ (root = 3 ∧ cubed = true) := by
   rcases hr with ⟨h1, h2, _⟩ | ⟨h1, h2, _⟩
   · exact .inl ⟨h1, h2⟩
   · exact .inr ⟨h1, h2⟩
 have hn : n < 18446744073709551616 := by rcases hr with ⟨_, _, h⟩ | ⟨_, _, h⟩ <;> omega
 have h1 := bitsF_root n root cubed hr' hn (36 + 1) 0 (by rw [Nat.zero_add]; exact Nat.le_refl _)
 have h2 := rootF_more n cubed 36 0 ho
 rw [h2] at h1
 unfold Sha.rootB
 exact congrArg (· % 4294967296) h1
end R1
end Go.Proofs.YtdbkadickikgjaaGreatDoor
