/-
 The walks of the document's package strongboxref01: above, bitsOf.
-/
import Derived.Test.YtdbkadickikgjaaGreatDoorRef01Walks
namespace Go.Proofs.YtdbkadickikgjaaGreatDoor
open Go.RowKit
namespace R1
set_option maxRecDepth 100000 in
set_option maxHeartbeats 2000000 in
theorem above_any (a : List Nat) (va : Value) (n noughts : Nat) (hn : n < 18446744073709551616) (hno : noughts ≤ 100) (B : Nat) (w : World) (ha : URow B va a w) (hla : a.length ≤ 1000) :
   Calls Tryz.prog 374 #[va, .int .u64 (n : Int), .int .i64 (noughts : Int)] w fun e w' => e = .returned (.bool (aboveL a n noughts a.length)) ∧ Below w.heap.size w w' := by
 obtain ⟨ga, ca, rfl, _, hga⟩ := ha
 have hgal := hga.lt
 obtain ⟨R, hR⟩ : ∃ R, aboveL a n noughts a.length = R := ⟨_, rfl⟩
 rw [hR]
 have HG := Lib.hid hga
 clear hga
 go_enter Tryz.func374, Tryz.ntmps374
 go_wp2_with fail
 go_loopw [7] (fun i wr => ∃ k : Nat, k ≤ a.length ∧ i = .int .i64 ((k : Int) - 1) ∧ aboveL a n noughts k = R ∧ Below w.heap.size w wr) (fun i _ => (intOf i + 1).toNat)
 case atStart => exact ⟨a.length, by omega, rfl, hR, Below.refl _ _⟩
 case round =>
   obtain ⟨k, hk, rfl, hR1, hbl⟩ := hrel
   cases k with
   | zero =>
     have hRf : R = false := hR1.symm
     subst hRf
     go_wp2_with fail
     go_ret
     exact ⟨rfl, hbl⟩
   | succ k =>
     have e0 : (((k + 1 : Nat) : Int) - 1) = (k : Int) := by omega
     rw [e0]
     have hs0 := hbl.size
     rw [aboveL] at hR1
     have c1 : wr.cell? ⟨ga, k, none⟩ = some (.int .u64 ((a.getD k 0 : Nat) : Int)) := by
       rw [World.cell?_of_block (a := ⟨ga, k, none⟩) (hbl.block ga hgal), HG.out.cell k, u64s_get a k (by omega)]
     by_cases hin : noughts ≤ k ∧ k < noughts + 4
     · have hD := digits_any n hn wr
       have hwd : wantD n noughts k = (digs n).getD (k - noughts) 0 := by rw [wantD, if_pos hin]
       obtain ⟨hin1, hin2⟩ := hin
       have d1 : (noughts : Int) ≤ (k : Int) := by omega
       have d2 : (k : Int) < (noughts : Int) + 4 := by omega
       go_wp2_with (go_at_call 372; refine hD.mono ?_)
       rintro e w1 ⟨v, rfl, ⟨g, c, rfl, hg, hrow⟩, hb1⟩
       have hlen : (digs n).length = 4 := rfl
       have c2 := hrow.cell (k - noughts)
       rw [u64s_get _ _ (by omega), ← hwd] at c2
       rw [hlen]
       have c3 : w1.cell? ⟨ga, k, none⟩ = some (.int .u64 ((a.getD k 0 : Nat) : Int)) := (World.cell?_of_block (a := ⟨ga, k, none⟩) (hb1.block ga (by omega))).trans c1
       generalize wantD n noughts k = y at *
       generalize a.getD k 0 = x at *
       have d3 : (0 : Int) ≤ (k : Int) - (noughts : Int) := by omega
       have d4 : (k : Int) - (noughts : Int) < 4 := by omega
       have HX := Lib.hid hR1
       clear hR1 hD hrow hwd hR c1
       by_cases hxy : x = y
       · have hq : ((x : Int) = (y : Int)) := by rw [hxy]
         go_wp2_with fail
         go_roundw
         case rel => exact ⟨k, by omega, by go_num, by rw [← HX.out, if_neg (by simpa using hxy)], hbl.trans (hb1.mono hs0)⟩
         case measure => simp [intOf]
       · have hq : ¬ ((x : Int) = (y : Int)) := by omega
         go_wp2_with fail
         go_ret
         refine ⟨?_, hbl.trans (hb1.mono hs0)⟩
         rw [← HX.out, if_pos hxy]
         rfl
     · have hwd : wantD n noughts k = 0 := by rw [wantD, if_neg hin]
       rw [hwd] at hR1
       generalize a.getD k 0 = x at *
       have HX := Lib.hid hR1
       clear hR1 hwd hR
       by_cases hin1 : noughts ≤ k
       · have d1 : (noughts : Int) ≤ (k : Int) := by omega
         have d2 : ¬ ((k : Int) < (noughts : Int) + 4) := by omega
         clear hin
         by_cases hxy : x = 0
         · have hq : ((x : Int) = 0) := by omega
           go_wp2_with fail
           go_roundw
           case rel => exact ⟨k, by omega, by go_num, by rw [← HX.out, if_neg (by simpa using hxy)], hbl⟩
           case measure => simp [intOf]
         · have hq : ¬ ((x : Int) = 0) := by omega
           go_wp2_with fail
           go_ret
           refine ⟨?_, hbl⟩
           rw [← HX.out, if_pos hxy]
           simp
       · have d1 : ¬ ((noughts : Int) ≤ (k : Int)) := by omega
         clear hin
         by_cases hxy : x = 0
         · have hq : ((x : Int) = 0) := by omega
           go_wp2_with fail
           go_roundw
           case rel => exact ⟨k, by omega, by go_num, by rw [← HX.out, if_neg (by simpa using hxy)], hbl⟩
           case measure => simp [intOf]
         · have hq : ¬ ((x : Int) = 0) := by omega
           go_wp2_with fail
           go_ret
           refine ⟨?_, hbl⟩
           rw [← HX.out, if_pos hxy]
           simp
theorem above_at (a : List Nat) (va : Value) (n noughts : Nat) (no : Int) (hno' : no = (noughts : Int)) (hn : n < 18446744073709551616) (hno : noughts ≤ 100) (B : Nat) (w : World) (ha : URow B va a w) (hla : a.length ≤ 1000) (q : Bool) (hq : aboveL a n noughts a.length = q) :
   Calls Tryz.prog 374 #[va, .int .u64 (n : Int), .int .i64 no] w fun e w' => e = .returned (.bool q) ∧ Below w.heap.size w w' := by
 subst hno'; subst hq
 exact above_any a va n noughts hn hno B w ha hla
theorem digs_len (n : Nat) : (digs n).length = 4 := rfl
def addOf : Nat → Nat
 | 0 => 0
 | j + 1 => 2 ^ j
theorem addOf_half (j : Nat) : addOf (j + 1) / 2 = addOf j := by
 cases j with
 | zero => rfl
 | succ j => rw [addOf, addOf, Nat.pow_succ]; omega
set_option maxRecDepth 100000 in
set_option maxHeartbeats 4000000 in
theorem bitsOf2_any (n : Nat) (hn : n < 18446744073709551616) (w : World) :
   Calls Tryz.prog 319 #[.int .u64 (n : Int), .int .i64 2] w fun e w' => e = .returned (.int .u32 ((bitsF n 2 37 0 % 4294967296 : Nat) : Int)) ∧ Below w.heap.size w w' := by
 obtain ⟨R, hR⟩ : ∃ R, bitsF n 2 37 0 = R := ⟨_, rfl⟩
 rw [hR]
 have hR0 := Lib.hid hR
 clear hR
 go_enter Tryz.func319, Tryz.ntmps319
 go_wp2_with fail
 go_loopw [5, 6] (fun x a wr => ∃ j y : Nat, j ≤ 37 ∧ x = .int .u64 (y : Int) ∧ a = .int .u64 ((addOf j : Nat) : Int) ∧ y + 2 ^ j ≤ 2 ^ 37 ∧ bitsF n 2 j y = R ∧ Below w.heap.size w wr) (fun _ a _ => (intOf a).toNat)
 case atStart => exact ⟨37, 0, by omega, rfl, rfl, by omega, hR0.out, Below.refl _ _⟩
 case round =>
   obtain ⟨j, y, hj, rfl, rfl, hy, hR1, hbl⟩ := hrel
   cases j with
   | zero =>
     have hRy : y = R := hR1
     subst hRy
     have h0 : addOf 0 = 0 := rfl
     rw [h0]
     go_wp2_with fail
     go_ret
     refine ⟨?_, hbl⟩
     rw [show ((y % 4294967296 : Nat) : Int) = (y : Int) % 4294967296 by omega]; rfl
   | succ j =>
     have hh := addOf_half j
     have hadd : addOf (j + 1) = 2 ^ j := rfl
     rw [hadd] at hh ⊢
     rw [Nat.pow_succ] at hy
     have hp : 0 < 2 ^ j := Nat.two_pow_pos j
     have h37 : (2 : Nat) ^ 37 = 137438953472 := rfl
     rw [bitsF] at hR1
     generalize hadd2 : 2 ^ j = add at *
     have HA2 := Lib.hid hadd2
     clear hadd2
     have hD := digits_any (y + add) (by omega) wr
     have d1 : ¬ ((add : Int) = 0) := by omega
     have d2 : (0 : Int) < (add : Int) := by omega
     have hw : IntKind.u64.wrap ((y : Int) + (add : Int)) = (((y + add : Nat)) : Int) := by rw [IntKind.wrap_u64]; omega
     have hw2 : IntKind.u64.wrap ((add : Int) / 2) = ((addOf j : Nat) : Int) := by rw [IntKind.wrap_u64]; omega
     generalize hz : y + add = z at *
     have HD := Lib.hid hD
     have HR1 := Lib.hid hR1
     have HW := Lib.hid hw2
     clear hD hR1
     go_wp2_with (go_at_call 372; refine HD.out.mono ?_; rintro e w1 ⟨v1, rfl, hr1, hb1⟩)
     have hT := times_any (digs z) (digs z) v1 v1 wr.heap.size w1 hr1 hr1 (by rw [digs_len]; omega) (by rw [digs_len]; omega)
     have HT := Lib.hid hT
     clear hT
     have hTi := times_ok (digs z) (digs z) (small_digs z (by omega)) (small_digs z (by omega))
     have hl8 : (timesL (digs z) (digs z)).length = 8 := by rw [hTi.1]; rfl
     rw [show noughtsOf 2 = 4 by decide] at HR1
     have hcu : cubeL z 2 = timesL (digs z) (digs z) := by unfold cubeL; rw [if_neg (by decide)]
     rw [hcu] at HR1
     clear hTi hcu
     generalize timesL (digs z) (digs z) = p at *
     go_wp2_with (go_at_call 373; with_reducible refine HT.out.mono ?_; rintro e w2 ⟨v2, rfl, hr2, hb2⟩)
     have hbl2 : Below w.heap.size w w2 := hbl.trans ((hb1.trans (hb2.mono hb1.size)).mono hbl.size)
     have hs2 := hbl2.size
     cases hc : aboveL p n 4 p.length with
     | true =>
       have HA := Lib.hid (above_at p v2 n 4 4 rfl hn (by omega) w1.heap.size w2 hr2 (by omega) true hc)
       have HR2 := Lib.hid (show bitsF n 2 j y = R by rw [← HR1.out, hc, if_pos rfl])
       clear HR1 HT HD hR0 hc hl8 hr1 hr2
       go_wp2_with (go_at_call 374; with_reducible refine HA.out.mono ?_; rintro e w3 ⟨rfl, hb3⟩)
       go_roundw
       case rel => exact ⟨j, y, by omega, rfl, rfl, by rw [HA2.out]; omega, HR2.out, hbl2.trans (hb3.mono hs2)⟩
       case measure => simp [intOf]; omega
     | false =>
       have HA := Lib.hid (above_at p v2 n 4 4 rfl hn (by omega) w1.heap.size w2 hr2 (by omega) false hc)
       have HR2 := Lib.hid (show bitsF n 2 j z = R by rw [← HR1.out, hc, if_neg (by decide)])
       clear HR1 HT HD hR0 hc hl8 hr1 hr2
       go_wp2_with (go_at_call 374; with_reducible refine HA.out.mono ?_; rintro e w3 ⟨rfl, hb3⟩)
       go_roundw
       case rel => exact ⟨j, z, by omega, rfl, rfl, by rw [HA2.out]; omega, HR2.out, hbl2.trans (hb3.mono hs2)⟩
       case measure => simp [intOf]; omega
set_option maxRecDepth 100000 in
set_option maxHeartbeats 4000000 in
theorem bitsOf3_any (n : Nat) (hn : n < 18446744073709551616) (w : World) :
   Calls Tryz.prog 319 #[.int .u64 (n : Int), .int .i64 3] w fun e w' => e = .returned (.int .u32 ((bitsF n 3 37 0 % 4294967296 : Nat) : Int)) ∧ Below w.heap.size w w' := by
 obtain ⟨R, hR⟩ : ∃ R, bitsF n 3 37 0 = R := ⟨_, rfl⟩
 rw [hR]
 have hR0 := Lib.hid hR
 clear hR
 go_enter Tryz.func319, Tryz.ntmps319
 go_wp2_with fail
 go_loopw [5, 6] (fun x a wr => ∃ j y : Nat, j ≤ 37 ∧ x = .int .u64 (y : Int) ∧ a = .int .u64 ((addOf j : Nat) : Int) ∧ y + 2 ^ j ≤ 2 ^ 37 ∧ bitsF n 3 j y = R ∧ Below w.heap.size w wr) (fun _ a _ => (intOf a).toNat)
 case atStart => exact ⟨37, 0, by omega, rfl, rfl, by omega, hR0.out, Below.refl _ _⟩
 case round =>
   obtain ⟨j, y, hj, rfl, rfl, hy, hR1, hbl⟩ := hrel
   cases j with
   | zero =>
     have hRy : y = R := hR1
     subst hRy
     have h0 : addOf 0 = 0 := rfl
     rw [h0]
     go_wp2_with fail
     go_ret
     refine ⟨?_, hbl⟩
     rw [show ((y % 4294967296 : Nat) : Int) = (y : Int) % 4294967296 by omega]; rfl
   | succ j =>
     have hh := addOf_half j
     have hadd : addOf (j + 1) = 2 ^ j := rfl
     rw [hadd] at hh ⊢
     rw [Nat.pow_succ] at hy
     have hp : 0 < 2 ^ j := Nat.two_pow_pos j
     have h37 : (2 : Nat) ^ 37 = 137438953472 := rfl
     rw [bitsF] at hR1
     generalize hadd2 : 2 ^ j = add at *
     have HA2 := Lib.hid hadd2
     clear hadd2
     have hD := digits_any (y + add) (by omega) wr
     have d1 : ¬ ((add : Int) = 0) := by omega
     have d2 : (0 : Int) < (add : Int) := by omega
     have hw : IntKind.u64.wrap ((y : Int) + (add : Int)) = (((y + add : Nat)) : Int) := by rw [IntKind.wrap_u64]; omega
     have hw2 : IntKind.u64.wrap ((add : Int) / 2) = ((addOf j : Nat) : Int) := by rw [IntKind.wrap_u64]; omega
     generalize hz : y + add = z at *
     have HD := Lib.hid hD
     have HR1 := Lib.hid hR1
     have HW := Lib.hid hw2
     clear hD hR1
     go_wp2_with (go_at_call 372; refine HD.out.mono ?_; rintro e w1 ⟨v1, rfl, hr1, hb1⟩)
     have hT := times_any (digs z) (digs z) v1 v1 wr.heap.size w1 hr1 hr1 (by rw [digs_len]; omega) (by rw [digs_len]; omega)
     have HT := Lib.hid hT
     clear hT
     have hTi := times_ok (digs z) (digs z) (small_digs z (by omega)) (small_digs z (by omega))
     have hl8 : (timesL (digs z) (digs z)).length = 8 := by rw [hTi.1]; rfl
     rw [show noughtsOf 3 = 6 by decide] at HR1
     have hcu : cubeL z 3 = timesL (timesL (digs z) (digs z)) (digs z) := by unfold cubeL; rw [if_pos rfl]
     rw [hcu] at HR1
     have hl12 : (timesL (timesL (digs z) (digs z)) (digs z)).length = 12 := by rw [(times_ok _ (digs z) hTi.2.1 (small_digs z (by omega))).1, hl8]; rfl
     clear hTi hcu
     generalize timesL (digs z) (digs z) = p1 at *
     have h4 := digs_len z
     generalize digs z = p0 at *
     go_wp2_with (go_at_call 373; with_reducible refine HT.out.mono ?_; rintro e w3 ⟨v3, rfl, hr3, hb3⟩)
     have hT2 := times_any p1 p0 v3 v1 wr.heap.size w3 (hr3.mono (by have := hb1.size; omega)) (hr1.below hb3 (Nat.le_refl _)) (by omega) (by omega)
     have HT2 := Lib.hid hT2
     clear hT2 HT HD
     generalize timesL p1 p0 = p at *
     go_wp2_with (go_at_call 373; with_reducible refine HT2.out.mono ?_; rintro e w2 ⟨v2, rfl, hr2, hb2⟩)
     have hbl2 : Below w.heap.size w w2 := hbl.trans ((hb1.trans ((hb3.trans (hb2.mono hb3.size)).mono hb1.size)).mono hbl.size)
     have hs2 := hbl2.size
     cases hc : aboveL p n 6 p.length with
     | true =>
       have HA := Lib.hid (above_at p v2 n 6 6 rfl hn (by omega) w3.heap.size w2 hr2 (by omega) true hc)
       have HR2 := Lib.hid (show bitsF n 3 j y = R by rw [← HR1.out, hc, if_pos rfl])
       clear HR1 HT2 hR0 hc hl8 hl12 hr1 hr2 hr3
       go_wp2_with (go_at_call 374; with_reducible refine HA.out.mono ?_; rintro e w4 ⟨rfl, hb4⟩)
       go_roundw
       case rel => exact ⟨j, y, by omega, rfl, rfl, by rw [HA2.out]; omega, HR2.out, hbl2.trans (hb4.mono hs2)⟩
       case measure => simp [intOf]; omega
     | false =>
       have HA := Lib.hid (above_at p v2 n 6 6 rfl hn (by omega) w3.heap.size w2 hr2 (by omega) false hc)
       have HR2 := Lib.hid (show bitsF n 3 j z = R by rw [← HR1.out, hc, if_neg (by decide)])
       clear HR1 HT2 hR0 hc hl8 hl12 hr1 hr2 hr3
       go_wp2_with (go_at_call 374; with_reducible refine HA.out.mono ?_; rintro e w4 ⟨rfl, hb4⟩)
       go_roundw
       case rel => exact ⟨j, z, by omega, rfl, rfl, by rw [HA2.out]; omega, HR2.out, hbl2.trans (hb4.mono hs2)⟩
       case measure => simp [intOf]; omega
end R1
end Go.Proofs.YtdbkadickikgjaaGreatDoor
