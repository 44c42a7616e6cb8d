/-
 The walk of package sha: Hash's Sum.
-/
import Derived.Test.YtfkchheildfkpaaGreatDoorShaAdd
import Derived.Test.YtfkchheildfkpaaGreatDoorShaCopy
namespace Go.Proofs.YtfkchheildfkpaaGreatDoor
open Go.RowKit
namespace Sha
def endz (k : Nat) : List UInt8 := 128 :: List.replicate k 0
theorem endz_succ (k : Nat) : endz k ++ [0] = endz (k + 1) := by simp [endz, List.replicate_succ']
theorem endz_len (k : Nat) : (endz k).length = k + 1 := by simp [endz]
theorem zeros_end (n k : Nat) (hk : k ≤ zeros n) : ((n + (k + 1) + 8) % 64 = 0) ↔ k = zeros n := by
 unfold zeros at *
 omega
theorem len_take (n j m : Nat) (hm : j + m = 7) (hj : j < 8) : (lenBytes n).take (j + 1) = (lenBytes n).take j ++ [UInt8.ofNat (n * 8 % 18446744073709551616 / 256 ^ m)] ∧ ((UInt8.ofNat (n * 8 % 18446744073709551616 / 256 ^ m)).toNat : Int) = (n * 8 % 18446744073709551616 : Nat) / 2 ^ (8 * m) % 256 := by
 constructor
 · rw [List.take_add_one]
   congr 1
   have : (lenBytes n)[j]? = some (UInt8.ofNat (n * 8 % 18446744073709551616 / 256 ^ (7 - j))) := by simp [lenBytes, hj]
   rw [this, show 7 - j = m by omega]; rfl
 · generalize n * 8 % 18446744073709551616 = x
   rw [show (2 : Int) ^ (8 * m) = ((256 ^ m : Nat) : Int) by rw [Int.pow_mul, Int.natCast_pow]; rfl]
   rw [UInt8.toNat_ofNat']
   show ((x / 256 ^ m % 256 : Nat) : Int) = _
   rw [Int.natCast_emod, Int.natCast_ediv]; rfl
theorem row_rest {w : World} {base n : Nat} {v : Value} {x : List UInt8} {H : Nat} (h : w.ownsRow base 5 1 v n (Lib.byteCells x)) (hx : x.length = n) (hn : 0 < n) (hH : H < base) : RestIs w H v x := by
 obtain ⟨hl, ⟨_, h0⟩ | ⟨g, cap, cur, rfl, hb, hg, hnc, hc, hs, ht⟩⟩ := h
 · omega
 · refine ⟨_, _, by rw [hx], by rw [hx]; exact hnc, .inr ⟨g, 0, rfl, by omega, ?_, fun j hj => ?_⟩⟩
   · exact (Array.getElem?_eq_some_iff.1 hg).1
   · rw [Nat.zero_add, cell_of_row _ _ j _ _ _ hg]
     have hjl : j < (Lib.byteCells x).length := by rw [Lib.byteCells_length]; exact hj
     have hj2 : cur.toList[j]? = (Lib.byteCells x)[j]? := by rw [← ht, List.getElem?_take_of_lt (by omega)]
     rw [← Array.getElem?_toList, hj2, List.getElem?_eq_getElem hjl]
     obtain ⟨_, h2⟩ := cells_b8 x j _ (List.getElem?_eq_getElem hjl)
     rw [h2]
theorem st_pos (q : St) (h : q.ok) (n : Nat) : 0 ≤ q.list.getD n 0 := by
 obtain ⟨h1, h2, h3, h4, h5, h6, h7, h8⟩ := h
 match n with
 | 0 => exact h1.1
 | 1 => exact h2.1
 | 2 => exact h3.1
 | 3 => exact h4.1
 | 4 => exact h5.1
 | 5 => exact h6.1
 | 6 => exact h7.1
 | 7 => exact h8.1
 | n + 8 => exact Int.le_refl 0
theorem b4_take (x : Int) (hx : 0 ≤ x) (j m : Nat) (hm : j + m = 3) (hj : j < 4) : (bytes4 x).take (j + 1) = (bytes4 x).take j ++ [UInt8.ofNat (x.toNat / 256 ^ m)] ∧ ((UInt8.ofNat (x.toNat / 256 ^ m)).toNat : Int) = x / 2 ^ (8 * m) % 256 := by
 constructor
 · rw [List.take_add_one]
   congr 1
   have : (bytes4 x)[j]? = some (UInt8.ofNat (x.toNat / 256 ^ (3 - j))) := by simp [bytes4, hj]
   rw [this, show 3 - j = m by omega]; rfl
 · rw [show (2 : Int) ^ (8 * m) = ((256 ^ m : Nat) : Int) by rw [Int.pow_mul, Int.natCast_pow]; rfl]
   obtain ⟨y, rfl⟩ : ∃ y : Nat, x = (y : Int) := ⟨x.toNat, by omega⟩
   rw [UInt8.toNat_ofNat', Int.toNat_natCast]
   show ((y / 256 ^ m % 256 : Nat) : Int) = _
   rw [Int.natCast_emod, Int.natCast_ediv]; rfl
set_option maxRecDepth 100000 in
theorem idx8 (q : St) (n : Nat) (h : n < 8) : ∀ W : World, (Instr.index 359 (.agg #[.int .u32 q.a, .int .u32 q.b, .int .u32 q.c, .int .u32 q.d, .int .u32 q.e, .int .u32 q.f, .int .u32 q.g, .int .u32 q.h]) (.int .i64 (n : Int))).run Tryz.prog W = .ok (.int .u32 (q.list.getD n 0)) W := by
 intro W
 have hc : n = 0 ∨ n = 1 ∨ n = 2 ∨ n = 3 ∨ n = 4 ∨ n = 5 ∨ n = 6 ∨ n = 7 := by omega
 rcases hc with rfl | rfl | rfl | rfl | rfl | rfl | rfl | rfl
 · rfl
 · rfl
 · rfl
 · rfl
 · rfl
 · rfl
 · rfl
 · rfl
set_option maxRecDepth 100000 in
set_option maxHeartbeats 2000000 in
theorem hsum_any (s : St) (hs : s.ok) (l : List UInt8) (v : Value) (total : Nat) (rb rcap : Nat) (roots : List Int) (hsm : Small roots) (H : Nat) (w : World)
   (hH : Blk w H 362 (hcells s v total (.slice (some ⟨rb, 0, none⟩) 64 rcap)))
   (hrb : rb < w.heap.size) (hroots : ∀ j, j < 64 → w.cell? ⟨rb, j, none⟩ = some (.int .u32 (roots.getD j 0)))
   (hv : RestIs w H v l) (hlen : l.length < 64) (ht1 : total ≤ 70368744177664) :
   Calls Tryz.prog 184 #[.pointer (some ⟨H, 0, none⟩)] w fun e w' =>
     e = .returned (.string ⟨(stBytes (eat roots (l ++ (endz (zeros l.length) ++ lenBytes total)) s).1).toArray⟩) ∧ Below w.heap.size w w' := by
 obtain ⟨i0, hi, hz0, hz1, hz2⟩ := info_parts info5
 have hHlt := hH.lt
 have hC := copy_any s l v total rb rcap H w hH hv hlen
 have HC := Lib.hid hC
 have c9 : w.cell? ⟨H, 9, none⟩ = some (.int .i64 (total : Int)) := hH.cell 9
 have HR := Lib.hid hroots
 obtain ⟨res, hres⟩ : ∃ res, res = eat roots (l ++ (endz (zeros l.length) ++ lenBytes total)) s := ⟨_, rfl⟩
 rw [← hres]
 have HRES := Lib.hid hres
 clear hC hroots hH hv hres
 go_enter Tryz.func184, Tryz.ntmps184
 go_wp2_with (go_at_call 258; with_reducible refine HC.out.mono ?_; rintro e w1 ⟨H', v', rfl, hHH, hH1, hR1, hb1⟩)
 obtain ⟨A, c, rfl, hc, _⟩ := id hR1
 have hc8 : w1.cell? ⟨H', 8, none⟩ = some (.slice A l.length c) := hH1.cell 8
 have hlt1 := hH1.lt
 have HH1 := Lib.hid hH1
 have HR1 := Lib.hid hR1
 clear HC hH1 hR1
 go_wp2_with fail
 have hrow0 : (w1.alloc (.cells #[Value.int .u8 128] 5)).ownsRow w1.heap.size 5 1 (.slice (some ⟨w1.heap.size, 0, none⟩) 1 1) 1 (Lib.byteCells (endz 0)) := World.ownsRow_lit w1 #[Value.int .u8 128] 1 (Nat.le_refl _) (by unfold maxLen; omega) rfl
 have hbl0 : Below w1.heap.size w1 (w1.alloc (.cells #[Value.int .u8 128] 5)) := (Below.refl _ _).alloc (Nat.le_refl _) _
 generalize w1.alloc (.cells #[Value.int .u8 128] 5) = w2 at *
 go_loopw [4] (fun v wr => ∃ k : Nat, k ≤ zeros l.length ∧ wr.ownsRow w1.heap.size 5 1 v (k + 1) (Lib.byteCells (endz k)) ∧ Below w1.heap.size w1 wr) (fun v _ => 100 - (match v with | .slice _ n _ => n | _ => 0))
 case atStart => exact ⟨0, by omega, hrow0, hbl0⟩
 case round =>
   obtain ⟨k, hk, hrow, hbl⟩ := hrel
   obtain ⟨E, ec, rfl, _⟩ := row_form hrow
   have hzl : zeros l.length ≤ 63 := by unfold zeros; omega
   have hs1 := hbl.size
   have hc8r : wr.cell? ⟨H', 8, none⟩ = some (.slice A l.length c) := (World.cell?_of_block (a := ⟨H', 8, none⟩) (hbl.block H' hlt1)).trans hc8
   have hz := zeros_end l.length k hk
   by_cases hkz : k < zeros l.length
   · have t1 : ¬ (((l.length : Int) + ((k + 1 : Nat) : Int) + 8) % 64 = 0) := by omega
     obtain ⟨n, hn⟩ : ∃ n, n = k + 1 := ⟨_, rfl⟩
     rw [← hn] at hrow t1 ⊢
     clear hz hk
     go_wp2_with (first
         | (at_builtin; refine wpList_append_own _ rfl _ _ 71 rfl w1.heap.size 5 i0 (.int .u8 0) 1 1 Tryz.underlying71 hi hz0 hz1 hz2 rfl (by decide) _ _ _ rfl (hrow.alloc _) ⟨wr.heap.size, 0, none⟩ 1 1 [.int .u8 0] rfl rfl (cell_one_new _ _ _) (by simp [Value.oneCell']) (by unfold maxLen; omega) (by omega) (by simp; omega) ?_; intro v' w3 hown' hgrow hnil'))
     have hgrow2 : (wr.alloc (.cells #[.int .u8 0] 5)).grownBy w3 (Value.slice E n ec).ownBlock := hgrow
     clear hgrow hnil'
     have hbl3 : Below w1.heap.size w1 w3 := below_row hbl (Nat.le_refl _) hrow (Nat.le_refl _) hgrow2
     have hxs : Lib.byteCells (endz k) ++ [Value.int .u8 0] = Lib.byteCells (endz (k + 1)) := by rw [← endz_succ, Lib.byteCells_append]; rfl
     rw [hxs] at hown'
     obtain ⟨A3, c3, rfl, _⟩ := row_form hown'
     go_roundw
     case rel =>
       subst hn
       exact ⟨k + 1, by omega, hown', hbl3⟩
     case measure => simp; omega
   · have hkE : k = zeros l.length := by omega
     have hlz : (l.length + (k + 1) + 8) % 64 = 0 := hz.2 hkE
     clear hz hk hkz hrow0 hbl0
     subst hkE
     generalize hzz : zeros l.length = k at *
     have HZZ := Lib.hid hzz
     clear hzz
     have t2 : (((l.length : Int) + ((k : Int) + 1) + 8) % 64 = 0) := by omega
     go_wp2_with fail
     clear t2
     obtain ⟨Z, hZ⟩ : ∃ Z, Z = endz k := ⟨_, rfl⟩
     rw [← hZ] at hrow
     go_loopw [4, 5] (fun v i wr => ∃ j : Nat, j ≤ 8 ∧ i = .int .i64 (((8 - j : Nat) : Int) - 1) ∧ wr.ownsRow w1.heap.size 5 1 v (k + 1 + j) (Lib.byteCells (Z ++ (lenBytes total).take j)) ∧ Below w1.heap.size w1 wr) (fun _ i _ => (intOf i + 1).toNat)
     case atStart => exact ⟨0, by omega, rfl, by rw [List.take_zero, List.append_nil]; exact hrow, hbl⟩
     case round =>
       obtain ⟨j, hj, rfl, hrow2, hbl2⟩ := hrel
       obtain ⟨E2, ec2, rfl, _⟩ := row_form hrow2
       clear hrow hbl
       by_cases hj8 : j < 8
       · obtain ⟨m, hm⟩ : ∃ m, j + m = 7 := ⟨7 - j, by omega⟩
         have e0 : ((8 - j : Nat) : Int) - 1 = (m : Int) := by omega
         rw [e0]
         have c9r : wr.cell? ⟨H, 9, none⟩ = some (.int .i64 (total : Int)) := (World.cell?_of_block (a := ⟨H, 9, none⟩) ((hb1.trans (hbl2.mono hb1.size)).block H hHlt)).trans c9
         have hT := len_take total j m hm (by omega)
         have hZ2 : Z ++ (lenBytes total).take (j + 1) = (Z ++ (lenBytes total).take j) ++ [UInt8.ofNat (total * 8 % 18446744073709551616 / 256 ^ m)] := by rw [hT.1, List.append_assoc]
         have hB := hT.2
         rw [Nat.mod_eq_of_lt (show total * 8 < 18446744073709551616 by omega), show ((total * 8 : Nat) : Int) = (total : Int) * 8 by omega] at hB
         rw [Nat.mod_eq_of_lt (show total * 8 < 18446744073709551616 by omega)] at hZ2
         have hBc : Lib.byteCells (Z ++ (lenBytes total).take (j + 1)) = Lib.byteCells (Z ++ (lenBytes total).take j) ++ [.int .u8 ((total : Int) * 8 / 2 ^ (8 * m) % 256)] := by
           rw [hZ2, Lib.byteCells_append, ← hB]; rfl
         have HBc := Lib.hid hBc
         clear hBc hZ2 hB hT
         have hs2 := hbl2.size
         obtain ⟨n, hn⟩ : ∃ n, n = k + 1 + j := ⟨_, rfl⟩
         rw [← hn] at hrow2 ⊢
         have hn100 : n ≤ 100 := by omega
         have hlB : (Lib.byteCells (Z ++ List.take j (lenBytes total))).length = n := by have := hrow2.1; omega
         generalize Lib.byteCells (Z ++ List.take j (lenBytes total)) = X at *
         clear hlz
         go_wp2_with (first
           | (at_builtin; refine wpList_append_own _ rfl _ _ 71 rfl w1.heap.size 5 i0 (.int .u8 0) 1 1 Tryz.underlying71 hi hz0 hz1 hz2 rfl (by decide) _ _ _ rfl (hrow2.alloc _) ⟨wr.heap.size, 0, none⟩ 1 1 [.int .u8 ((total : Int) * 8 / 2 ^ (8 * m) % 256)] rfl rfl (cell_one_new _ _ _) (by simp [Value.oneCell']) (by unfold maxLen; omega) (by omega) (by simp; omega) ?_; intro v' w3 hown' hgrow hnil'))
         have hgrow2 : (wr.alloc (.cells #[.int .u8 ((total : Int) * 8 / 2 ^ (8 * m) % 256)] 5)).grownBy w3 (Value.slice E2 n ec2).ownBlock := hgrow
         clear hgrow hnil'
         have hbl3 : Below w1.heap.size w1 w3 := below_row hbl2 (Nat.le_refl _) hrow2 (Nat.le_refl _) hgrow2
         rw [← HBc.out] at hown'
         go_roundw
         case rel =>
           refine ⟨j + 1, by omega, by go_num, ?_, hbl3⟩
           rw [show k + 1 + (j + 1) = n + 1 by omega]; exact hown'
         case measure => simp [intOf]
       · have hj8 : j = 8 := by omega
         subst hj8
         have hl8 : (lenBytes total).length = 8 := by simp [lenBytes]
         rw [List.take_of_length_le (Nat.le_of_eq hl8)] at hrow2
         have hZl : (Z ++ lenBytes total).length = k + 1 + 8 := by rw [List.length_append, hl8, hZ, endz_len]
         have hE : RestIs wr H' (.slice E2 (k + 1 + 8) ec2) (Z ++ lenBytes total) := row_rest hrow2 hZl (by omega) hlt1
         have hs2 := hbl2.size
         have hbw : Below w.heap.size w wr := hb1.trans (hbl2.mono hb1.size)
         have hkH : Keep H' w1 wr := fun q hq _ => hbl2.block q hq
         have hTk := take_any s hs l (Z ++ lenBytes total) (.slice A l.length c) (.slice E2 (k + 1 + 8) ec2) total rb rcap roots hsm H' wr (HH1.out.below hbl2 hlt1) (by omega) (by omega)
           (fun q hq => (World.cell?_of_block (a := ⟨rb, q, none⟩) (hbw.block rb hrb)).trans (HR.out q hq)) (HR1.out.keep hkH hs2) hE (by rw [hZl]; omega)
         have hre : eat roots (l ++ (Z ++ lenBytes total)) s = res := by rw [HRES.out, hZ]
         rw [hre] at hTk
         have HT := Lib.hid hTk
         clear hTk hrow2 hE hre hlz HZZ hZl hZ
         generalize hec : Value.slice E2 (k + 1 + 8) ec2 = ve at *
         clear hec
         go_wp2_with (go_at_call 257; refine HT.out.mono ?_)
         rintro e w4 ⟨rfl, ⟨v4, hH4, hR4⟩, hb4, hk4⟩
         have hqok0 : res.1.ok := by rw [HRES.out]; exact eat_ok _ _ _ hs
         obtain ⟨q, ql⟩ := res
         have hqok : q.ok := hqok0
         clear hqok0
         have hB5 := Bld.new w4
         have hH5 : Blk (w4.alloc (.cells #[.pointer none, .slice none 0 0] 149)) H' 362 (hcells q v4 total (.slice (some ⟨rb, 0, none⟩) 64 rcap)) := hH4.alloc _
         have hs4 := hb4.size
         have hb5 : Below w.heap.size w (w4.alloc (.cells #[.pointer none, .slice none 0 0] 149)) := (hbw.trans (hb4.mono hHH)).alloc (by omega) _
         have hs5 : (w4.alloc (.cells #[.pointer none, .slice none 0 0] 149)).heap.size = w4.heap.size + 1 := by simp
         have q0 : (w4.alloc (.cells #[.pointer none, .slice none 0 0] 149)).cell? ⟨H', 0, none⟩ = some (.int .u32 q.a) := hH5.cell 0
         have q1 : (w4.alloc (.cells #[.pointer none, .slice none 0 0] 149)).cell? ⟨H', 1, none⟩ = some (.int .u32 q.b) := hH5.cell 1
         have q2 : (w4.alloc (.cells #[.pointer none, .slice none 0 0] 149)).cell? ⟨H', 2, none⟩ = some (.int .u32 q.c) := hH5.cell 2
         have q3 : (w4.alloc (.cells #[.pointer none, .slice none 0 0] 149)).cell? ⟨H', 3, none⟩ = some (.int .u32 q.d) := hH5.cell 3
         have q4 : (w4.alloc (.cells #[.pointer none, .slice none 0 0] 149)).cell? ⟨H', 4, none⟩ = some (.int .u32 q.e) := hH5.cell 4
         have q5 : (w4.alloc (.cells #[.pointer none, .slice none 0 0] 149)).cell? ⟨H', 5, none⟩ = some (.int .u32 q.f) := hH5.cell 5
         have q6 : (w4.alloc (.cells #[.pointer none, .slice none 0 0] 149)).cell? ⟨H', 6, none⟩ = some (.int .u32 q.g) := hH5.cell 6
         have q7 : (w4.alloc (.cells #[.pointer none, .slice none 0 0] 149)).cell? ⟨H', 7, none⟩ = some (.int .u32 q.h) := hH5.cell 7
         clear hH5 hH4 hR4 hk4
         go_wp2_with fail
         generalize (w4.alloc (.cells #[.pointer none, .slice none 0 0] 149)) = w5 at *
         clear HT hj8 hl8
         obtain ⟨b, hb⟩ : ∃ b, b = w4.heap.size := ⟨_, rfl⟩
         rw [← hb] at hB5 hs5 ⊢
         have hbw4 : w.heap.size ≤ b := by omega
         clear hb
         go_loopw [54, 8] (fun i _ wr => ∃ n : Nat, n ≤ 8 ∧ i = .int .i64 (n : Int) ∧ Bld b b ((q.list.take n).flatMap bytes4) wr ∧ Below w.heap.size w wr ∧ b < wr.heap.size) (fun i _ _ => 8 - (intOf i).toNat)
         case atStart => exact ⟨0, by omega, rfl, hB5, hb5, by omega⟩
         case round =>
           obtain ⟨n, hn, rfl, hBn, hbn, hbs⟩ := hrel
           clear hB5 hb5
           by_cases hn8 : n < 8
           · have hd : (n : Int) < 8 := by omega
             obtain ⟨x, hxe⟩ : ∃ x, q.list.getD n 0 = x := ⟨_, rfl⟩
             have hx0 : 0 ≤ x := hxe ▸ st_pos q hqok n
             have HXE := Lib.hid hxe
             clear hxe
             go_wp2_with fail
             rw [idx8 q n hn8, HXE.out]
             simp only [Result.andThen]
             rw [Oper.upon_value]
             go_wp2_with fail
             have hx : q.list.take (n + 1) = q.list.take n ++ [x] := by
               rw [List.take_add_one, ← HXE.out]
               congr 1
               have : n < q.list.length := hn8
               simp [List.getD, this]
             have hfl : (q.list.take (n + 1)).flatMap bytes4 = (q.list.take n).flatMap bytes4 ++ bytes4 x := by rw [hx, List.flatMap_append]; simp
             have hfn : ((q.list.take n).flatMap bytes4).length ≤ 32 := by
               have h1 : ((q.list.take n).flatMap bytes4).length = 4 * (q.list.take n).length := by
                 clear hx hfl
                 induction (q.list.take n) with
                 | nil => rfl
                 | cons a t ih => rw [List.flatMap_cons, List.length_append, ih, List.length_cons]; simp [bytes4]; omega
               have h2 := List.length_take_le n q.list
               omega
             have HFL := Lib.hid hfl
             clear hfl hx
             generalize (q.list.take n).flatMap bytes4 = L0 at *
             clear HRES
             go_loopw [9] (fun i wr => ∃ j : Nat, j ≤ 4 ∧ i = .int .i64 (((4 - j : Nat) : Int) - 1) ∧ Bld b b (L0 ++ (bytes4 x).take j) wr ∧ Below w.heap.size w wr ∧ b < wr.heap.size) (fun i _ => (intOf i + 1).toNat)
             case atStart => exact ⟨0, by omega, rfl, by rw [List.take_zero, List.append_nil]; exact hBn, hbn, hbs⟩
             case round =>
               obtain ⟨j, hj, rfl, hBj, hbj, hbsj⟩ := hrel
               clear hBn hbn
               by_cases hj4 : j < 4
               · obtain ⟨m, hm⟩ : ∃ m, j + m = 3 := ⟨3 - j, by omega⟩
                 have e0 : ((4 - j : Nat) : Int) - 1 = (m : Int) := by omega
                 rw [e0]
                 have hW := wbyte_any b b (L0 ++ (bytes4 x).take j) (UInt8.ofNat (x.toNat / 256 ^ m)) wr hBj (by simp; omega) (by omega)
                 have hB4 := b4_take x hx0 j m hm hj4
                 rw [hB4.2] at hW
                 have HW := Lib.hid hW
                 have HB4 := Lib.hid hB4.1
                 have hbs0 := hbj.size
                 clear hW hB4 hBj
                 go_wp2_with (go_at_call 259; refine HW.out.mono ?_)
                 rintro e w6 ⟨rfl, hB6, hb6, _⟩
                 have hs6 := hb6.size
                 go_wp2_with fail
                 go_roundw
                 case rel => exact ⟨j + 1, by omega, by go_num, by rw [HB4.out, ← List.append_assoc]; exact hB6, hbj.trans (hb6.mono hbw4), by omega⟩
                 case measure => simp [intOf]
               · have hj4 : j = 4 := by omega
                 subst hj4
                 have h4 : (bytes4 x).length = 4 := by simp [bytes4]
                 rw [List.take_of_length_le (Nat.le_of_eq h4), ← HFL.out] at hBj
                 go_wp2_with fail
                 go_roundw
                 case rel => exact ⟨n + 1, by omega, by go_num, hBj, hbj, hbsj⟩
                 case measure => simp [intOf]; omega
           · have hn8 : n = 8 := by omega
             subst hn8
             have hl8 : q.list.length = 8 := rfl
             rw [List.take_of_length_le (Nat.le_of_eq hl8)] at hBn
             have hT := text_any b b (q.list.flatMap bytes4) wr hBn (by omega)
             have HT := Lib.hid hT
             clear hT hBn
             go_wp2_with (go_at_call 72; refine HT.out.mono ?_)
             rintro e w6 ⟨rfl, _, hb6, _⟩
             go_wp2_with fail
             go_ret
             exact ⟨rfl, hbn.trans (hb6.mono hbw4)⟩
end Sha
end Go.Proofs.YtfkchheildfkpaaGreatDoor
