/-
 The walk of package sha: Hash's Sum. The walks of package sha: New, Sum. The digest of bytes, by its plain words.
-/
import Derived.Test.YtnbkhdbligjifaaGreatDoorShaCopy
import Derived.StillTailTactics
import Derived.Deep.RegionLaw
import Derived.Deep.AppendLies
set_option linter.unusedVariables false
set_option linter.unusedSimpArgs false
set_option maxRecDepth 100000
set_option maxHeartbeats 40000000
namespace Go.Proofs.YtnbkhdbligjifaaGreatDoor
open Go.RowKit
namespace Sha
def endz (k : Nat) : List UInt8 := 128 :: List.replicate k 0
theorem endz_succ (k : Nat) : endz k ++ [0] = endz (k + 1) := by simp [endz, List.replicate_succ']
theorem endz_len (k : Nat) : (endz k).length = k + 1 := by simp [endz]
theorem zeros_end (n k : Nat) (hk : k ≤ zeros n) : ((n + (k + 1) + 8) % 64 = 0) ↔ k = zeros n := by
 unfold zeros at *
 omega
theorem len_take (n j m : Nat) (hm : j + m = 7) (hj : j < 8) : (lenBytes n).take (j + 1) = (lenBytes n).take j ++ [UInt8.ofNat (n * 8 % 18446744073709551616 / 256 ^ m)] ∧ ((UInt8.ofNat (n * 8 % 18446744073709551616 / 256 ^ m)).toNat : Int) = (n * 8 % 18446744073709551616 : Nat) / 2 ^ (8 * m) % 256 := by
 constructor
 ·rw [List.take_add_one]
  congr 1
  have : (lenBytes n)[j]? = some (UInt8.ofNat (n * 8 % 18446744073709551616 / 256 ^ (7 - j))) := by simp [lenBytes, hj]
  rw [this, show 7 - j = m by omega]; rfl
 ·generalize n * 8 % 18446744073709551616 = x
  rw [show (2 : Int) ^ (8 * m) = ((256 ^ m : Nat) : Int) by rw [Int.pow_mul, Int.natCast_pow]; rfl]
  rw [UInt8.toNat_ofNat']
  show ((x / 256 ^ m % 256 : Nat) : Int) = _
  rw [Int.natCast_emod, Int.natCast_ediv]; rfl
theorem row_rest {w : World} {base n : Nat} {v : Value} {x : List UInt8} {H : Nat} (h : w.ownsRow base 5 1 v n (Lib.byteCells x)) (hx : x.length = n) (hn : 0 < n) (hH : H < base) : RestIs w H v x := by
 obtain ⟨hl, ⟨_, h0⟩ | ⟨g, cap, cur, rfl, hb, hg, hnc, hc, hs, ht⟩⟩ := h
 ·omega
 ·refine ⟨_, _, by rw [hx], by rw [hx]; exact hnc, .inr ⟨g, 0, rfl, by omega, ?_, fun j hj => ?_⟩⟩
  ·exact (Array.getElem?_eq_some_iff.1 hg).1
  ·rw [Nat.zero_add, cell_of_row _ _ j _ _ _ hg]
   have hjl : j < (Lib.byteCells x).length := by rw [Lib.byteCells_length]; exact hj
   have hj2 : cur.toList[j]? = (Lib.byteCells x)[j]? := by rw [← ht, List.getElem?_take_of_lt (by omega)]
   rw [← Array.getElem?_toList, hj2, List.getElem?_eq_getElem hjl]
   obtain ⟨_, h2⟩ := cells_b8 x j _ (List.getElem?_eq_getElem hjl)
   rw [h2]
theorem st_pos (q : St) (h : q.ok) (n : Nat) : 0 ≤ q.list.getD n 0 := by
 obtain ⟨h1, h2, h3, h4, h5, h6, h7, h8⟩ := h
 match n with
 | 0 => exact h1.1
 | 1 => exact h2.1
 | 2 => exact h3.1
 | 3 => exact h4.1
 | 4 => exact h5.1
 | 5 => exact h6.1
 | 6 => exact h7.1
 | 7 => exact h8.1
 | n + 8 => exact Int.le_refl 0
theorem b4_take (x : Int) (hx : 0 ≤ x) (j m : Nat) (hm : j + m = 3) (hj : j < 4) : (bytes4 x).take (j + 1) = (bytes4 x).take j ++ [UInt8.ofNat (x.toNat / 256 ^ m)] ∧ ((UInt8.ofNat (x.toNat / 256 ^ m)).toNat : Int) = x / 2 ^ (8 * m) % 256 := by
 constructor
 ·rw [List.take_add_one]
  congr 1
  have : (bytes4 x)[j]? = some (UInt8.ofNat (x.toNat / 256 ^ (3 - j))) := by simp [bytes4, hj]
  rw [this, show 3 - j = m by omega]; rfl
 ·rw [show (2 : Int) ^ (8 * m) = ((256 ^ m : Nat) : Int) by rw [Int.pow_mul, Int.natCast_pow]; rfl]
  obtain ⟨y, rfl⟩ : ∃ y : Nat, x = (y : Int) := ⟨x.toNat, by omega⟩
  rw [UInt8.toNat_ofNat', Int.toNat_natCast]
  show ((y / 256 ^ m % 256 : Nat) : Int) = _
  rw [Int.natCast_emod, Int.natCast_ediv]; rfl
theorem idx8 (q : St) (n : Nat) (h : n < 8) : ∀ W : World, (Instr.index 172 (.agg #[.int .u32 q.a, .int .u32 q.b, .int .u32 q.c, .int .u32 q.d, .int .u32 q.e, .int .u32 q.f, .int .u32 q.g, .int .u32 q.h]) (.int .i64 (n : Int))).run Tryz.prog W = .ok (.int .u32 (q.list.getD n 0)) W := by
 intro W
 have hc : n = 0 ∨ n = 1 ∨ n = 2 ∨ n = 3 ∨ n = 4 ∨ n = 5 ∨ n = 6 ∨ n = 7 := by omega
 rcases hc with rfl | rfl | rfl | rfl | rfl | rfl | rfl | rfl
 ·rfl
 ·rfl
 ·rfl
 ·rfl
 ·rfl
 ·rfl
 ·rfl
 ·rfl
theorem hsum_any (s : St) (hs : s.ok) (l : List UInt8) (v : Value) (total : Nat) (rb rcap : Nat) (roots : List Int) (hsm : Small roots) (H : Nat) (w : World)
 (hH : Blk w H 174 (hcells s v total (.slice (some ⟨rb, 0, none⟩) 64 rcap)))
 (hrb : rb < w.heap.size) (hroots : ∀ j, j < 64 → w.cell? ⟨rb, j, none⟩ = some (.int .u32 (roots.getD j 0)))
 (hv : RestIs w H v l) (hlen : l.length < 64) (ht1 : total ≤ 70368744177664) :
 Calls Tryz.prog 69 #[.pointer (some ⟨H, 0, none⟩)] w fun e w' =>
  e = .returned (.string ⟨(stBytes (eat roots (l ++ (endz (zeros l.length) ++ lenBytes total)) s).1).toArray⟩) ∧ Below w.heap.size w w' := by
 obtain ⟨i0, hi, hz0, hz1, hz2⟩ := info_parts info5
 have hHlt := hH.lt
 have hC := copy_any s l v total rb rcap H w hH hv hlen
 have HC := Lib.hid hC
 have c9 : w.cell? ⟨H, 9, none⟩ = some (.int .i64 (total : Int)) := hH.cell 9
 have HR := Lib.hid hroots
 obtain ⟨res, hres⟩ : ∃ res, res = eat roots (l ++ (endz (zeros l.length) ++ lenBytes total)) s := ⟨_, rfl⟩
 rw [← hres]
 have HRES := Lib.hid hres
 clear hC hroots hH hv hres
 go_enter Tryz.func69, Tryz.ntmps69
 go_wp2_with (go_at_call 102; with_reducible refine HC.out.mono ?_; rintro e w1 ⟨H', v', rfl, hHH, hH1, hR1, hb1⟩)
 obtain ⟨A, c, rfl, hc, _⟩ := id hR1
 have hc8 : w1.cell? ⟨H', 8, none⟩ = some (.slice A l.length c) := hH1.cell 8
 have hlt1 := hH1.lt
 have HH1 := Lib.hid hH1
 have HR1 := Lib.hid hR1
 clear HC hH1 hR1
 go_wp2_with fail
 have hrow0 : (w1.alloc (.cells #[Value.int .u8 128] 5)).ownsRow w1.heap.size 5 1 (.slice (some ⟨w1.heap.size, 0, none⟩) 1 1) 1 (Lib.byteCells (endz 0)) := World.ownsRow_lit w1 #[Value.int .u8 128] 1 (Nat.le_refl _) (by unfold maxLen; omega) rfl
 have hbl0 : Below w1.heap.size w1 (w1.alloc (.cells #[Value.int .u8 128] 5)) := (Below.refl _ _).alloc (Nat.le_refl _) _
 generalize w1.alloc (.cells #[Value.int .u8 128] 5) = w2 at *
 go_loopw [4] (fun v wr => ∃ k : Nat, k ≤ zeros l.length ∧ wr.ownsRow w1.heap.size 5 1 v (k + 1) (Lib.byteCells (endz k)) ∧ Below w1.heap.size w1 wr) (fun v _ => 100 - (match v with | .slice _ n _ => n | _ => 0))
 case atStart => exact ⟨0, by omega, hrow0, hbl0⟩
 case round =>
  obtain ⟨k, hk, hrow, hbl⟩ := hrel
  obtain ⟨E, ec, rfl, _⟩ := row_form hrow
  have hzl : zeros l.length ≤ 63 := by unfold zeros; omega
  have hs1 := hbl.size
  have hc8r : wr.cell? ⟨H', 8, none⟩ = some (.slice A l.length c) := (World.cell?_of_block (a := ⟨H', 8, none⟩) (hbl.block H' hlt1)).trans hc8
  have hz := zeros_end l.length k hk
  by_cases hkz : k < zeros l.length
  ·have t1 : ¬ (((l.length : Int) + ((k + 1 : Nat) : Int) + 8) % 64 = 0) := by omega
   obtain ⟨n, hn⟩ : ∃ n, n = k + 1 := ⟨_, rfl⟩
   rw [← hn] at hrow t1 ⊢
   clear hz hk
   go_wp2_with (first
    | (at_builtin; refine wpList_append_own _ rfl _ _ 136 rfl w1.heap.size 5 i0 (.int .u8 0) 1 1 Tryz.underlying136 hi hz0 hz1 hz2 rfl (by decide) _ _ _ rfl (hrow.alloc _) ⟨wr.heap.size, 0, none⟩ 1 1 [.int .u8 0] rfl rfl (cell_one_new _ _ _) (by simp [Value.oneCell']) (by unfold maxLen; omega) (by omega) (by simp; omega) ?_; intro v' w3 hown' hgrow hnil'))
   have hgrow2 : (wr.alloc (.cells #[.int .u8 0] 5)).grownBy w3 (Value.slice E n ec).ownBlock := hgrow
   clear hgrow hnil'
   have hbl3 : Below w1.heap.size w1 w3 := below_row hbl (Nat.le_refl _) hrow (Nat.le_refl _) hgrow2
   have hxs : Lib.byteCells (endz k) ++ [Value.int .u8 0] = Lib.byteCells (endz (k + 1)) := by rw [← endz_succ, Lib.byteCells_append]; rfl
   rw [hxs] at hown'
   obtain ⟨A3, c3, rfl, _⟩ := row_form hown'
   go_roundw
   case rel =>
    subst hn
    exact ⟨k + 1, by omega, hown', hbl3⟩
   case measure => simp; omega
  ·have hkE : k = zeros l.length := by omega
   have hlz : (l.length + (k + 1) + 8) % 64 = 0 := hz.2 hkE
   clear hz hk hkz hrow0 hbl0
   subst hkE
   generalize hzz : zeros l.length = k at *
   have HZZ := Lib.hid hzz
   clear hzz
   have t2 : (((l.length : Int) + ((k : Int) + 1) + 8) % 64 = 0) := by omega
   go_wp2_with fail
   clear t2
   obtain ⟨Z, hZ⟩ : ∃ Z, Z = endz k := ⟨_, rfl⟩
   rw [← hZ] at hrow
   go_loopw [4, 5] (fun v i wr => ∃ j : Nat, j ≤ 8 ∧ i = .int .i64 (((8 - j : Nat) : Int) - 1) ∧ wr.ownsRow w1.heap.size 5 1 v (k + 1 + j) (Lib.byteCells (Z ++ (lenBytes total).take j)) ∧ Below w1.heap.size w1 wr) (fun _ i _ => (intOf i + 1).toNat)
   case atStart => exact ⟨0, by omega, rfl, by rw [List.take_zero, List.append_nil]; exact hrow, hbl⟩
   case round =>
    obtain ⟨j, hj, rfl, hrow2, hbl2⟩ := hrel
    obtain ⟨E2, ec2, rfl, _⟩ := row_form hrow2
    clear hrow hbl
    by_cases hj8 : j < 8
    ·obtain ⟨m, hm⟩ : ∃ m, j + m = 7 := ⟨7 - j, by omega⟩
     have e0 : ((8 - j : Nat) : Int) - 1 = (m : Int) := by omega
     rw [e0]
     have c9r : wr.cell? ⟨H, 9, none⟩ = some (.int .i64 (total : Int)) := (World.cell?_of_block (a := ⟨H, 9, none⟩) ((hb1.trans (hbl2.mono hb1.size)).block H hHlt)).trans c9
     have hT := len_take total j m hm (by omega)
     have hZ2 : Z ++ (lenBytes total).take (j + 1) = (Z ++ (lenBytes total).take j) ++ [UInt8.ofNat (total * 8 % 18446744073709551616 / 256 ^ m)] := by rw [hT.1, List.append_assoc]
     have hB := hT.2
     rw [Nat.mod_eq_of_lt (show total * 8 < 18446744073709551616 by omega), show ((total * 8 : Nat) : Int) = (total : Int) * 8 by omega] at hB
     rw [Nat.mod_eq_of_lt (show total * 8 < 18446744073709551616 by omega)] at hZ2
     have hBc : Lib.byteCells (Z ++ (lenBytes total).take (j + 1)) = Lib.byteCells (Z ++ (lenBytes total).take j) ++ [.int .u8 ((total : Int) * 8 / 2 ^ (8 * m) % 256)] := by
      rw [hZ2, Lib.byteCells_append, ← hB]; rfl
     have HBc := Lib.hid hBc
     clear hBc hZ2 hB hT
     have hs2 := hbl2.size
     obtain ⟨n, hn⟩ : ∃ n, n = k + 1 + j := ⟨_, rfl⟩
     rw [← hn] at hrow2 ⊢
     have hn100 : n ≤ 100 := by omega
     have hlB : (Lib.byteCells (Z ++ List.take j (lenBytes total))).length = n := by have := hrow2.1; omega
     generalize Lib.byteCells (Z ++ List.take j (lenBytes total)) = X at *
     clear hlz
     go_wp2_with (first
      | (at_builtin; refine wpList_append_own _ rfl _ _ 136 rfl w1.heap.size 5 i0 (.int .u8 0) 1 1 Tryz.underlying136 hi hz0 hz1 hz2 rfl (by decide) _ _ _ rfl (hrow2.alloc _) ⟨wr.heap.size, 0, none⟩ 1 1 [.int .u8 ((total : Int) * 8 / 2 ^ (8 * m) % 256)] rfl rfl (cell_one_new _ _ _) (by simp [Value.oneCell']) (by unfold maxLen; omega) (by omega) (by simp; omega) ?_; intro v' w3 hown' hgrow hnil'))
     have hgrow2 : (wr.alloc (.cells #[.int .u8 ((total : Int) * 8 / 2 ^ (8 * m) % 256)] 5)).grownBy w3 (Value.slice E2 n ec2).ownBlock := hgrow
     clear hgrow hnil'
     have hbl3 : Below w1.heap.size w1 w3 := below_row hbl2 (Nat.le_refl _) hrow2 (Nat.le_refl _) hgrow2
     rw [← HBc.out] at hown'
     go_roundw
     case rel =>
      refine ⟨j + 1, by omega, by go_num, ?_, hbl3⟩
      rw [show k + 1 + (j + 1) = n + 1 by omega]; exact hown'
     case measure => simp [intOf]
    ·have hj8 : j = 8 := by omega
     subst hj8
     have hl8 : (lenBytes total).length = 8 := by simp [lenBytes]
     rw [List.take_of_length_le (Nat.le_of_eq hl8)] at hrow2
     have hZl : (Z ++ lenBytes total).length = k + 1 + 8 := by rw [List.length_append, hl8, hZ, endz_len]
     have hE : RestIs wr H' (.slice E2 (k + 1 + 8) ec2) (Z ++ lenBytes total) := row_rest hrow2 hZl (by omega) hlt1
     have hs2 := hbl2.size
     have hbw : Below w.heap.size w wr := hb1.trans (hbl2.mono hb1.size)
     have hkH : Keep H' w1 wr := fun q hq _ => hbl2.block q hq
     have hTk := take_any s hs l (Z ++ lenBytes total) (.slice A l.length c) (.slice E2 (k + 1 + 8) ec2) total rb rcap roots hsm H' wr (HH1.out.below hbl2 hlt1) (by omega) (by omega)
      (fun q hq => (World.cell?_of_block (a := ⟨rb, q, none⟩) (hbw.block rb hrb)).trans (HR.out q hq)) (HR1.out.keep hkH hs2) hE (by rw [hZl]; omega)
     have hre : eat roots (l ++ (Z ++ lenBytes total)) s = res := by rw [HRES.out, hZ]
     rw [hre] at hTk
     have HT := Lib.hid hTk
     clear hTk hrow2 hE hre hlz HZZ hZl hZ
     generalize hec : Value.slice E2 (k + 1 + 8) ec2 = ve at *
     clear hec
     go_wp2_with (go_at_call 101; refine HT.out.mono ?_)
     rintro e w4 ⟨rfl, ⟨v4, hH4, hR4⟩, hb4, hk4⟩
     have hqok0 : res.1.ok := by rw [HRES.out]; exact eat_ok _ _ _ hs
     obtain ⟨q, ql⟩ := res
     have hqok : q.ok := hqok0
     clear hqok0
     have hB5 := Bld.new w4
     have hH5 : Blk (w4.alloc (.cells #[.pointer none, .slice none 0 0] 138)) H' 174 (hcells q v4 total (.slice (some ⟨rb, 0, none⟩) 64 rcap)) := hH4.alloc _
     have hs4 := hb4.size
     have hb5 : Below w.heap.size w (w4.alloc (.cells #[.pointer none, .slice none 0 0] 138)) := (hbw.trans (hb4.mono hHH)).alloc (by omega) _
     have hs5 : (w4.alloc (.cells #[.pointer none, .slice none 0 0] 138)).heap.size = w4.heap.size + 1 := by simp
     have q0 : (w4.alloc (.cells #[.pointer none, .slice none 0 0] 138)).cell? ⟨H', 0, none⟩ = some (.int .u32 q.a) := hH5.cell 0
     have q1 : (w4.alloc (.cells #[.pointer none, .slice none 0 0] 138)).cell? ⟨H', 1, none⟩ = some (.int .u32 q.b) := hH5.cell 1
     have q2 : (w4.alloc (.cells #[.pointer none, .slice none 0 0] 138)).cell? ⟨H', 2, none⟩ = some (.int .u32 q.c) := hH5.cell 2
     have q3 : (w4.alloc (.cells #[.pointer none, .slice none 0 0] 138)).cell? ⟨H', 3, none⟩ = some (.int .u32 q.d) := hH5.cell 3
     have q4 : (w4.alloc (.cells #[.pointer none, .slice none 0 0] 138)).cell? ⟨H', 4, none⟩ = some (.int .u32 q.e) := hH5.cell 4
     have q5 : (w4.alloc (.cells #[.pointer none, .slice none 0 0] 138)).cell? ⟨H', 5, none⟩ = some (.int .u32 q.f) := hH5.cell 5
     have q6 : (w4.alloc (.cells #[.pointer none, .slice none 0 0] 138)).cell? ⟨H', 6, none⟩ = some (.int .u32 q.g) := hH5.cell 6
     have q7 : (w4.alloc (.cells #[.pointer none, .slice none 0 0] 138)).cell? ⟨H', 7, none⟩ = some (.int .u32 q.h) := hH5.cell 7
     clear hH5 hH4 hR4 hk4
     go_wp2_with fail
     generalize (w4.alloc (.cells #[.pointer none, .slice none 0 0] 138)) = w5 at *
     clear HT hj8 hl8
     obtain ⟨b, hb⟩ : ∃ b, b = w4.heap.size := ⟨_, rfl⟩
     rw [← hb] at hB5 hs5 ⊢
     have hbw4 : w.heap.size ≤ b := by omega
     clear hb
     go_loopw [54, 8] (fun i _ wr => ∃ n : Nat, n ≤ 8 ∧ i = .int .i64 (n : Int) ∧ Bld b b ((q.list.take n).flatMap bytes4) wr ∧ Below w.heap.size w wr ∧ b < wr.heap.size) (fun i _ _ => 8 - (intOf i).toNat)
     case atStart => exact ⟨0, by omega, rfl, hB5, hb5, by omega⟩
     case round =>
      obtain ⟨n, hn, rfl, hBn, hbn, hbs⟩ := hrel
      clear hB5 hb5
      by_cases hn8 : n < 8
      ·have hd : (n : Int) < 8 := by omega
       obtain ⟨x, hxe⟩ : ∃ x, q.list.getD n 0 = x := ⟨_, rfl⟩
       have hx0 : 0 ≤ x := hxe ▸ st_pos q hqok n
       have HXE := Lib.hid hxe
       clear hxe
       go_wp2_with fail
       rw [idx8 q n hn8, HXE.out]
       simp only [Result.andThen]
       rw [Oper.upon_value]
       go_wp2_with fail
       have hx : q.list.take (n + 1) = q.list.take n ++ [x] := by
        rw [List.take_add_one, ← HXE.out]
        congr 1
        have : n < q.list.length := hn8
        simp [List.getD, this]
       have hfl : (q.list.take (n + 1)).flatMap bytes4 = (q.list.take n).flatMap bytes4 ++ bytes4 x := by rw [hx, List.flatMap_append]; simp
       have hfn : ((q.list.take n).flatMap bytes4).length ≤ 32 := by
        have h1 : ((q.list.take n).flatMap bytes4).length = 4 * (q.list.take n).length := by
         clear hx hfl
         induction (q.list.take n) with
         | nil => rfl
         | cons a t ih => rw [List.flatMap_cons, List.length_append, ih, List.length_cons]; simp [bytes4]; omega
        have h2 := List.length_take_le n q.list
        omega
       have HFL := Lib.hid hfl
       clear hfl hx
       generalize (q.list.take n).flatMap bytes4 = L0 at *
       clear HRES
       go_loopw [9] (fun i wr => ∃ j : Nat, j ≤ 4 ∧ i = .int .i64 (((4 - j : Nat) : Int) - 1) ∧ Bld b b (L0 ++ (bytes4 x).take j) wr ∧ Below w.heap.size w wr ∧ b < wr.heap.size) (fun i _ => (intOf i + 1).toNat)
       case atStart => exact ⟨0, by omega, rfl, by rw [List.take_zero, List.append_nil]; exact hBn, hbn, hbs⟩
       case round =>
        obtain ⟨j, hj, rfl, hBj, hbj, hbsj⟩ := hrel
        clear hBn hbn
        by_cases hj4 : j < 4
        ·obtain ⟨m, hm⟩ : ∃ m, j + m = 3 := ⟨3 - j, by omega⟩
         have e0 : ((4 - j : Nat) : Int) - 1 = (m : Int) := by omega
         rw [e0]
         have hW := wbyte_any b b (L0 ++ (bytes4 x).take j) (UInt8.ofNat (x.toNat / 256 ^ m)) wr hBj (by simp; omega) (by omega)
         have hB4 := b4_take x hx0 j m hm hj4
         rw [hB4.2] at hW
         have HW := Lib.hid hW
         have HB4 := Lib.hid hB4.1
         have hbs0 := hbj.size
         clear hW hB4 hBj
         go_wp2_with (go_at_call 90; refine HW.out.mono ?_)
         rintro e w6 ⟨rfl, hB6, hb6, _⟩
         have hs6 := hb6.size
         go_wp2_with fail
         go_roundw
         case rel => exact ⟨j + 1, by omega, by go_num, by rw [HB4.out, ← List.append_assoc]; exact hB6, hbj.trans (hb6.mono hbw4), by omega⟩
         case measure => simp [intOf]
        ·have hj4 : j = 4 := by omega
         subst hj4
         have h4 : (bytes4 x).length = 4 := by simp [bytes4]
         rw [List.take_of_length_le (Nat.le_of_eq h4), ← HFL.out] at hBj
         go_wp2_with fail
         go_roundw
         case rel => exact ⟨n + 1, by omega, by go_num, hBj, hbj, hbsj⟩
         case measure => simp [intOf]; omega
      ·have hn8 : n = 8 := by omega
       subst hn8
       have hl8 : q.list.length = 8 := rfl
       rw [List.take_of_length_le (Nat.le_of_eq hl8)] at hBn
       have hT := text_any b b (q.list.flatMap bytes4) wr hBn (by omega)
       have HT := Lib.hid hT
       clear hT hBn
       go_wp2_with (go_at_call 77; refine HT.out.mono ?_)
       rintro e w6 ⟨rfl, _, hb6, _⟩
       go_wp2_with fail
       go_ret
       exact ⟨rfl, hbn.trans (hb6.mono hbw4)⟩
end Sha
end Go.Proofs.YtnbkhdbligjifaaGreatDoor
namespace Go.Proofs.YtnbkhdbligjifaaGreatDoor
open Go.RowKit
namespace Sha
attribute [local go_sem ↓] appSem_eq
def S0 : St := ⟨rootB 2 false, rootB 3 false, rootB 5 false, rootB 7 false, rootB 11 false, rootB 13 false, rootB 17 false, rootB 19 false⟩
def Z0 : St := ⟨0, 0, 0, 0, 0, 0, 0, 0⟩
def R64 : List Int := P64.map fun p => (rootB p true : Int)
theorem rootB_lt (n : Nat) (c : Bool) : rootB n c < 4294967296 := Nat.mod_lt _ (by omega)
theorem P8 : P64.take 8 = [2, 3, 5, 7, 11, 13, 17, 19] := by decide +kernel
theorem S0_get (k : Nat) (h : k < 8) : S0.list.getD k 0 = (rootB (P64.getD k 0) false : Int) := by
 have hp : P64.getD k 0 = [2, 3, 5, 7, 11, 13, 17, 19].getD k 0 := by
  rw [← P8]
  simp only [List.getD_eq_getElem?_getD]
  rw [List.getElem?_take_of_lt h]
 rw [hp]
 have hc : k = 0 ∨ k = 1 ∨ k = 2 ∨ k = 3 ∨ k = 4 ∨ k = 5 ∨ k = 6 ∨ k = 7 := by omega
 rcases hc with rfl | rfl | rfl | rfl | rfl | rfl | rfl | rfl <;> rfl
theorem S0_ok : S0.ok := by
 refine ⟨?_, ?_, ?_, ?_, ?_, ?_, ?_, ?_⟩ <;>
 ·exact ⟨Int.natCast_nonneg _, by have := rootB_lt; exact Int.ofNat_lt.2 (this _ _)⟩
theorem Z0_part : part Z0 S0 8 = S0 := by
 have h : ∀ n : Nat, (0 + (rootB n false : Int)) % 4294967296 = (rootB n false : Int) := fun n => by have := rootB_lt n false; omega
 rw [part_full]
 unfold addSt Z0 S0
 simp only [h]
theorem zx (k : Nat) (h : k < 8) : (Z0.list.getD k 0 + S0.list.getD k 0) % 4294967296 = S0.list.getD k 0 := by
 have hz : Z0.list.getD k 0 = 0 := by
  have hc : k = 0 ∨ k = 1 ∨ k = 2 ∨ k = 3 ∨ k = 4 ∨ k = 5 ∨ k = 6 ∨ k = 7 := by omega
  rcases hc with rfl | rfl | rfl | rfl | rfl | rfl | rfl | rfl <;> rfl
 rw [hz, S0_get k h]
 have := rootB_lt (P64.getD k 0) false
 omega
theorem R64_len : R64.length = 64 := by rw [R64, List.length_map, P64_length]
theorem R64_get (k : Nat) (h : k < 64) : R64.getD k 0 = (rootB (P64.getD k 0) true : Int) := by
 have hk : k < P64.length := by rw [P64_length]; exact h
 simp [R64, List.getD, hk]
theorem R64_small : Small R64 := by
 intro x hx
 obtain ⟨p, _, rfl⟩ := List.mem_map.1 hx
 exact ⟨Int.natCast_nonneg _, Int.ofNat_lt.2 (rootB_lt _ _)⟩
theorem P64_lt (k : Nat) : P64.getD k 0 < 4096 := by
 have h : ∀ p ∈ P64, p < 312 := by
  intro p hp
  unfold P64 primesTo at hp
  have := List.mem_of_mem_drop (List.mem_filter.1 hp).1
  exact List.mem_range.1 this
 rw [List.getD_eq_getElem?_getD]
 cases hq : P64[k]? with
 | none => show 0 < _; omega
 | some p =>
   have := h p (List.mem_of_getElem? hq)
   show p < _; omega
theorem info_u32 : (Tryz.prog.info? 171).map (fun i => (i.zero, i.size, i.bytes)) = some (some (.int .u32 0), 1, 4) := by kernel_rfl
def r32 (l : List Int) : List Value := l.map fun x => Value.int .u32 x
theorem hcells_roots (s : St) (v : Value) (t : Int) (r r' : Value) : (hcells s v t r).setIfInBounds 10 r' = hcells s v t r' := by
 apply Array.toList_inj.1
 simp [hcells]
theorem eat_len (r : List Int) (l : List UInt8) (s : St) : (eat r l s).2.length = l.length % 64 := by
 induction hn : l.length using Nat.strongRecOn generalizing l s with
 | _ n ih =>
   by_cases h : 64 ≤ l.length
   ·rw [eat_step r l s h, ih (l.drop 64).length (by simp; omega) _ _ rfl]
    simp only [List.length_drop]; omega
   ·rw [eat_end r l s (by omega)]; show l.length = _; omega
theorem zeros_mod (n : Nat) : zeros (n % 64) = zeros n := by unfold zeros; omega
theorem root_back (n : Nat) (cubed : Bool) (hn : n < 4096) (w : World) :
 Calls Tryz.prog 100 #[.int .u64 (n : Int), .bool cubed] w fun e w' => e = .returned (.int .u32 (rootB n cubed : Nat)) ∧ w' = w :=
 (root_any n cubed hn w).mono fun _ _ h => ⟨h.1, h.2.symm⟩
theorem new_any (w : World) :
 Calls Tryz.prog 67 #[] w fun e w' =>
  ∃ rb rcap, e = .returned (.pointer (some ⟨w.heap.size, 0, none⟩)) ∧ Blk w' w.heap.size 174 (hcells S0 (.slice none 0 0) 0 (.slice (some ⟨rb, 0, none⟩) 64 rcap)) ∧ w.heap.size < rb ∧ rb < w'.heap.size ∧ (∀ j, j < 64 → w'.cell? ⟨rb, j, none⟩ = some (.int .u32 (R64.getD j 0))) ∧ Below w.heap.size w w' := by
 obtain ⟨i0, hi, hz0, hz1, hz2⟩ := info_parts info_u32
 go_enter Tryz.func67, Tryz.ntmps67
 have hH0 : Blk (w.alloc (.cells (hcells Z0 (.slice none 0 0) 0 (.slice none 0 0)) 174)) w.heap.size 174 (hcells Z0 (.slice none 0 0) 0 (.slice none 0 0)) := Blk.new _ _ _
 have hb0 : Below w.heap.size w (w.alloc (.cells (hcells Z0 (.slice none 0 0) 0 (.slice none 0 0)) 174)) := (Below.refl _ _).alloc (Nat.le_refl _) _
 have hs0 : (w.alloc (.cells (hcells Z0 (.slice none 0 0) 0 (.slice none 0 0)) 174)).heap.size = w.heap.size + 1 := by simp
 go_wp2_with (go_at_call 99; refine (primes_any _).mono ?_; rintro e w1 ⟨v, rfl, hrow, hb1⟩; obtain ⟨A1, c1, rfl, hrf⟩ := row_form hrow)
 obtain ⟨g1, cur, rfl, hg1, hP1, hPc⟩ := hrf (by omega)
 change Below (w.alloc (.cells (hcells Z0 (.slice none 0 0) 0 (.slice none 0 0)) 174)).heap.size (w.alloc (.cells (hcells Z0 (.slice none 0 0) 0 (.slice none 0 0)) 174)) w1 at hb1
 change (w.alloc (.cells (hcells Z0 (.slice none 0 0) 0 (.slice none 0 0)) 174)).heap.size ≤ g1 at hg1
 clear hrow hrf
 have hs1 := hb1.size
 rw [hs0] at hg1 hs1 hb1
 have hb01 : Below w.heap.size w w1 := hb0.trans (hb1.mono (by omega))
 have hH1 := hH0.below hb1 (by omega)
 clear hb1 hb0 hH0 hs0
 have hg1lt := hP1.lt
 have hPg : ∀ k, k < 64 → w1.cell? ⟨g1, k, none⟩ = some (.int .u64 ((P64.getD k 0 : Nat) : Int)) := fun k hk => by
  rw [hP1.cell k]
  apply hPc
  have : k < P64.length := by rw [P64_length]; exact hk
  simp [List.getD, this]
 clear hPc hP1
 obtain ⟨h, hh⟩ : ∃ h, h = w.heap.size := ⟨_, rfl⟩
 rw [← hh] at hs1 hg1 hH1 hb01 ⊢
 have hb01' : Below h w w1 := by rw [hh]; rw [hh] at hb01; exact hb01
 have HHH := Lib.hid hh
 clear hh
 obtain ⟨R, hR⟩ : ∃ R, R = w1.heap.size := ⟨_, rfl⟩
 rw [← hR] at hg1lt hs1
 have hRle : R ≤ w1.heap.size := Nat.le_of_eq hR
 clear hR
 go_loopw [8] (fun i wr => ∃ (k : Nat) (v : Value), k ≤ 64 ∧ i = .int .i64 (k : Int) ∧ wr.ownsRow R 171 1 v k (r32 (R64.take k)) ∧ Blk wr h 174 (hcells (part Z0 S0 (min k 8)) (.slice none 0 0) 0 v) ∧ Below h w wr ∧ R ≤ wr.heap.size ∧ (∀ j, j < 64 → wr.cell? ⟨g1, j, none⟩ = some (.int .u64 ((P64.getD j 0 : Nat) : Int)))) (fun i _ => 64 - (intOf i).toNat)
 case atStart => exact ⟨0, .slice none 0 0, by omega, rfl, World.ownsRow_nil _ _ _ _, hH1, hb01', hRle, hPg⟩
 case round =>
  obtain ⟨k, v, hk, rfl, hrow, hHr, hbl, hRr, hPr⟩ := hrel
  clear hH1 hPg hb01 hb01'
  by_cases hk64 : k < 64
  ·have d0 : (k : Int) < 64 := by omega
   have cp := hPr k hk64
   have hp := P64_lt k
   have hRg := R64_get k hk64
   have hSg := S0_get k
   have hRt : r32 (R64.take (k + 1)) = r32 (R64.take k) ++ [.int .u32 (R64.getD k 0)] := by
    have hl := R64_len
    unfold r32
    rw [List.take_add_one, List.map_append]
    congr 1
    have : k < R64.length := by omega
    simp [List.getD, this]
   have hC1 := root_back (P64.getD k 0) true hp
   have hC0 := root_back (P64.getD k 0) false hp
   rw [← hRg] at hC1
   have HRt := Lib.hid hRt
   have HC1 := Lib.hid hC1
   obtain ⟨A2, c2, rfl, _⟩ := row_form hrow
   have hlR : (r32 (R64.take k)).length = k := by have := hrow.1; omega
   have hhlt := hHr.lt
   clear hRg hRt hC1
   generalize r32 (R64.take k) = X at *
   generalize R64.getD k 0 = y at *
   generalize P64.getD k 0 = p at *
   by_cases hk8 : k < 8
   ·have d8 : (k : Int) < 8 := by omega
    have hSg8 := hSg hk8
    rw [← hSg8] at hC0
    have HC0 := Lib.hid hC0
    clear hC0 hSg hSg8
    rw [Nat.min_eq_left (by omega)] at hHr
    have hset := part_set Z0 S0 (.slice none 0 0) 0 (.slice A2 k c2) k hk8
    have hzx : (Z0.list.getD k 0 + S0.list.getD k 0) % 4294967296 = S0.list.getD k 0 := zx k hk8
    rw [hzx] at hset
    have HSET := Lib.hid hset
    clear hset hzx
    have zk : wr.cell? ⟨h, k, none⟩ = some (.int .u32 (Z0.list.getD k 0)) := (hHr.cell k).trans (part_get Z0 S0 _ _ _ k hk8)
    generalize S0.list.getD k 0 = x at *
    have fk := hHr.frozen k
    generalize Z0.list.getD k 0 = z at *
    have HHr := Lib.hid hHr
    have HPr := Lib.hid hPr
    have HRow := Lib.hid hrow
    have HBl := Lib.hid hbl
    clear hHr hPr hrow hbl
    go_wp2_with fail
    refine wp_region_still_tail 7 (by kernel_rfl) (by kernel_rfl) ?_
    simp only [List.take_succ_cons, List.take_zero, List.drop_succ_cons, List.drop_zero]
    repeat (first
     | still_step
     | (refine wpStill_step (fun K hK => ?_)
        go_simp
        refine ⟨_, HC0.out _, hK _ ?_⟩
        clear hK K))
    try refine wpStill_nil ?_
    change wpList _ _ _ _ _ wr.drew
    generalize hw3 : wr.drew = w3
    have hH3 : Blk w3 h 174 (hcells (part Z0 S0 k) (.slice none 0 0) 0 (.slice A2 k c2)) := hw3 ▸ HHr.out.drew
    have HP3 := Lib.hid (show ∀ (j : Nat), j < 64 → w3.cell? ⟨g1, j, none⟩ = some (.int .u64 ((P64.getD j 0 : Nat) : Int)) from hw3 ▸ HPr.out)
    have HRow3 := Lib.hid (show w3.ownsRow R 171 1 (.slice A2 k c2) k X from hw3 ▸ HRow.out)
    have HB3 := Lib.hid (show Below h w w3 from hw3 ▸ HBl.out.drew)
    have hR3 : R ≤ w3.heap.size := hw3 ▸ hRr
    have zk3 : w3.cell? ⟨h, k, none⟩ = some (.int .u32 z) := by rw [← hw3]; exact zk
    have fk3 : w3.frozen? ⟨h, k, none⟩ = false := by rw [← hw3]; exact fk
    clear hw3 HHr HPr HRow HBl zk fk cp
    go_wp2_with fail
    have hHx : Blk (w3.setCell ⟨h, k, none⟩ (.int .u32 x)) h 174 (hcells (part Z0 S0 (min (k + 1) 8)) (.slice none 0 0) 0 (.slice A2 k c2)) := by
     rw [Nat.min_eq_left (by omega), ← HSET.out]; exact hH3.set_ k _
    have HPx := Lib.hid (show ∀ (j : Nat), j < 64 → (w3.setCell ⟨h, k, none⟩ (.int .u32 x)).cell? ⟨g1, j, none⟩ = some (.int .u64 ((P64.getD j 0 : Nat) : Int)) from fun j hj => (World.cell?_setCell_other _ _ _ _ (by intro e; injection e; omega)).trans (HP3.out j hj))
    have HRowx := Lib.hid (show (w3.setCell ⟨h, k, none⟩ (.int .u32 x)).ownsRow R 171 1 (.slice A2 k c2) k X from ownsRow_setCell_below HRow3.out (by show h < R; omega) _)
    have HBx := Lib.hid (show Below h w (w3.setCell ⟨h, k, none⟩ (.int .u32 x)) from HB3.out.setCell (p := ⟨h, k, none⟩) (Nat.le_refl _) _)
    have hgx : R ≤ (w3.setCell ⟨h, k, none⟩ (.int .u32 x)).heap.size := by simp; exact hR3
    generalize w3.setCell ⟨h, k, none⟩ (.int .u32 x) = wx at *
    clear HSET hH3 HP3 HRow3 HB3 zk3 fk3
    have f10 := hHx.frozen 10
    have c10 : wx.cell? ⟨h, 10, none⟩ = some (.slice A2 k c2) := hHx.cell 10
    have hsx := hHx.lt
    have HHx := Lib.hid hHx
    clear hHx
    obtain ⟨g5, c5, w5, hrun, hown', hgrow, _, _⟩ := run_append_lies (P := Tryz.prog) (wx.drew.alloc (.cells #[.int .u32 y] 171)) 166 166 R 171 i0 (.int .u32 0) 1 4 Tryz.underlying166 hi hz0 hz1 hz2 rfl (by decide) (.slice A2 k c2) k X ((show wx.drew.ownsRow R 171 1 (.slice A2 k c2) k X from HRowx.out).alloc _) ⟨wx.heap.size, 0, none⟩ 1 1 [.int .u32 y] rfl (cell_one_new wx.drew _ _) (by simp [Value.oneCell']) (by omega) (by unfold maxLen; omega) (by omega) (by simp; omega) _ rfl
    have hrunA : (appSem #[166, 166] 166 #[.slice A2 k c2, .slice (some ⟨wx.heap.size, 0, none⟩) 1 1]).run Tryz.prog (wx.alloc (.cells #[.int .u32 y] 171)).drew = .ok (.slice (some ⟨g5, 0, none⟩) (k + 1) c5) w5 := hrun
    have hb5 : Below R wx w5 := below_row ((Below.refl R wx).drew) hgx (show wx.drew.ownsRow R 171 1 (.slice A2 k c2) k X from HRowx.out) (Nat.le_refl _) hgrow
    have hH5 := HHx.out.below hb5 (by omega)
    have d10 : w5.cell? ⟨h, 10, none⟩ = some (.slice A2 k c2) := hH5.cell 10
    have e10 := hH5.frozen 10
    have HH5 := Lib.hid hH5
    have HO5 := Lib.hid hown'
    have HB5 := Lib.hid hb5
    clear hrun hgrow hH5 hown' hb5
    go_region_law (first | (go_simp; go_at_call 100; refine (HC1.out _).mono ?_; rintro e w' ⟨rfl, rfl⟩))
    all_goals go_wp2_with fail
    all_goals
     refine ⟨⟨k + 1, .slice (some ⟨g5, 0, none⟩) (k + 1) c5, by omega, by go_num, ?_, ?_, ?_, ?_, ?_⟩, by simp [intOf]; omega⟩
     ·rw [HRt.out]; exact ownsRow_setCell_below HO5.out (by show h < R; omega) _
     ·have hq := HH5.out.set_ 10 (.slice (some ⟨g5, 0, none⟩) (k + 1) c5)
      rw [hcells_roots] at hq
      exact hq
     ·exact (HBx.out.trans (HB5.out.mono (by omega))).setCell (p := ⟨h, 10, none⟩) (Nat.le_refl _) _
     ·have := HB5.out.size
      simp; omega
     ·intro j hj
      rw [World.cell?_setCell_other _ _ _ _ (by intro e; injection e; omega), World.cell?_of_block (a := ⟨g1, j, none⟩) (HB5.out.block g1 hg1lt)]
      exact HPx.out j hj
   ·have d8 : ¬ ((k : Int) < 8) := by omega
    clear hC0 hSg
    rw [Nat.min_eq_right (by omega)] at hHr
    have hHx : Blk wr h 174 (hcells (part Z0 S0 (min (k + 1) 8)) (.slice none 0 0) 0 (.slice A2 k c2)) := by
     rw [Nat.min_eq_right (by omega)]; exact hHr
    have HPx := Lib.hid hPr
    have HRowx := Lib.hid hrow
    have HBx := Lib.hid hbl
    have hgx : R ≤ wr.heap.size := hRr
    clear hHr hPr hrow hbl
    obtain ⟨wx, hwx⟩ : ∃ wx, wx = wr := ⟨_, rfl⟩
    subst hwx
    go_wp2_with fail
    have f10 := hHx.frozen 10
    have c10 : wx.cell? ⟨h, 10, none⟩ = some (.slice A2 k c2) := hHx.cell 10
    have hsx := hHx.lt
    have HHx := Lib.hid hHx
    clear hHx
    obtain ⟨g5, c5, w5, hrun, hown', hgrow, _, _⟩ := run_append_lies (P := Tryz.prog) (wx.drew.alloc (.cells #[.int .u32 y] 171)) 166 166 R 171 i0 (.int .u32 0) 1 4 Tryz.underlying166 hi hz0 hz1 hz2 rfl (by decide) (.slice A2 k c2) k X ((show wx.drew.ownsRow R 171 1 (.slice A2 k c2) k X from HRowx.out).alloc _) ⟨wx.heap.size, 0, none⟩ 1 1 [.int .u32 y] rfl (cell_one_new wx.drew _ _) (by simp [Value.oneCell']) (by omega) (by unfold maxLen; omega) (by omega) (by simp; omega) _ rfl
    have hrunA : (appSem #[166, 166] 166 #[.slice A2 k c2, .slice (some ⟨wx.heap.size, 0, none⟩) 1 1]).run Tryz.prog (wx.alloc (.cells #[.int .u32 y] 171)).drew = .ok (.slice (some ⟨g5, 0, none⟩) (k + 1) c5) w5 := hrun
    have hb5 : Below R wx w5 := below_row ((Below.refl R wx).drew) hgx (show wx.drew.ownsRow R 171 1 (.slice A2 k c2) k X from HRowx.out) (Nat.le_refl _) hgrow
    have hH5 := HHx.out.below hb5 (by omega)
    have d10 : w5.cell? ⟨h, 10, none⟩ = some (.slice A2 k c2) := hH5.cell 10
    have e10 := hH5.frozen 10
    have HH5 := Lib.hid hH5
    have HO5 := Lib.hid hown'
    have HB5 := Lib.hid hb5
    clear hrun hgrow hH5 hown' hb5
    go_region_law (first | (go_simp; go_at_call 100; refine (HC1.out _).mono ?_; rintro e w' ⟨rfl, rfl⟩))
    all_goals go_wp2_with fail
    all_goals
     refine ⟨⟨k + 1, .slice (some ⟨g5, 0, none⟩) (k + 1) c5, by omega, by go_num, ?_, ?_, ?_, ?_, ?_⟩, by simp [intOf]; omega⟩
     ·rw [HRt.out]; exact ownsRow_setCell_below HO5.out (by show h < R; omega) _
     ·have hq := HH5.out.set_ 10 (.slice (some ⟨g5, 0, none⟩) (k + 1) c5)
      rw [hcells_roots] at hq
      exact hq
     ·exact (HBx.out.trans (HB5.out.mono (by omega))).setCell (p := ⟨h, 10, none⟩) (Nat.le_refl _) _
     ·have := HB5.out.size
      simp; omega
     ·intro j hj
      rw [World.cell?_setCell_other _ _ _ _ (by intro e; injection e; omega), World.cell?_of_block (a := ⟨g1, j, none⟩) (HB5.out.block g1 hg1lt)]
      exact HPx.out j hj
  ·have hk64 : k = 64 := by omega
   subst hk64
   obtain ⟨A2, c2, rfl, hrf⟩ := row_form hrow
   obtain ⟨g2, cur2, rfl, hg2, hB2, hc2⟩ := hrf (by omega)
   rw [show min 64 8 = 8 from rfl, Z0_part] at hHr
   have hR64 : R64.take 64 = R64 := List.take_of_length_le (by rw [R64_len]; exact Nat.le_refl _)
   have HHr := Lib.hid hHr
   have HC := Lib.hid hc2
   have HB := Lib.hid hbl
   clear hHr hPr hrow hrf hc2 hbl
   go_wp2_with fail
   go_ret
   have hh := HHH.out
   refine ⟨g2, c2, by rw [hh]; rfl, by rw [← hh]; exact HHr.out, by omega, hB2.lt, fun j hj => ?_, by rw [← hh]; exact HB.out⟩
   rw [hB2.cell j]
   apply HC.out
   rw [hR64, r32]
   have : j < R64.length := by rw [R64_len]; exact hj
   simp [List.getD, this]
theorem sum_any (b : ByteArray) (hb : b.size ≤ 70368744177664) (w : World) :
 Calls Tryz.prog 33 #[.string b] w fun e w' => e = .returned (.string ⟨(digest R64 S0 b.data.toList).toArray⟩) ∧ Below w.heap.size w w' := by
 go_enter Tryz.func33, Tryz.ntmps33
 go_wp2_with (go_at_call 67; refine (new_any _).mono ?_)
 rintro e w1 ⟨rb, rcap, rfl, hH1, hrb, hrb1, hR1, hb1⟩
 have hadd := add_any S0 S0_ok [] b (.slice none 0 0) 0 rb rcap R64 R64_small w.heap.size w1 hH1 hrb1 (by omega) hR1 (RestIs.nil _ _) (by simpa using hb) (by omega) (by omega)
 have HA := Lib.hid hadd
 have HR1 := Lib.hid hR1
 clear hadd hH1 hR1
 go_wp2_with (go_at_call 68; refine HA.out.mono ?_)
 rintro e w2 ⟨rfl, ⟨v', hH2, hv2⟩, hb2, hk2⟩
 rw [List.nil_append] at hH2 hv2
 rw [show (0 : Int) + (b.size : Int) = ((b.size : Nat) : Int) by omega] at hH2
 have hs2 := hb2.size
 have hS := hsum_any (eat R64 b.data.toList S0).1 (eat_ok _ _ _ S0_ok) (eat R64 b.data.toList S0).2 v' b.size rb rcap R64 R64_small w.heap.size w2 hH2 (by omega)
  (fun j hj => (World.cell?_of_block (a := ⟨rb, j, none⟩) (hk2 rb hrb1 (by omega))).trans (HR1.out j hj)) hv2 (eat_left _ _ _) hb
 rw [eat_append, eat_len, zeros_mod] at hS
 have hl : b.data.toList.length = b.size := by simp
 have hD : stBytes (eat R64 (b.data.toList ++ (endz (zeros b.data.toList.length) ++ lenBytes b.size)) S0).1 = digest R64 S0 b.data.toList := by
  rw [digest, pad, hl]; rfl
 rw [hD] at hS
 have HS := Lib.hid hS
 clear hS HA HR1 hH2 hv2 hD
 go_wp2_with (go_at_call 69; refine HS.out.mono ?_)
 rintro e w3 ⟨rfl, hb3⟩
 go_wp2_with fail
 go_ret
 have hs1 := hb1.size
 exact ⟨rfl, (hb1.trans hb2).trans (hb3.mono (by omega))⟩
end Sha
end Go.Proofs.YtnbkhdbligjifaaGreatDoor
namespace Go.Proofs.YtnbkhdbligjifaaGreatDoor
open Go.RowKit
namespace Shd
def sumL (l : List UInt8) : List UInt8 := Sha.digest Sha.R64 Sha.S0 l
theorem sumL_len (l : List UInt8) : (sumL l).length = 32 := Sha.stBytes_length _
end Shd
end Go.Proofs.YtnbkhdbligjifaaGreatDoor
