/-
 The walks of package sha: the roots' bits, the primes.
-/
import Derived.Test.YtfkchheildfkpaaGreatDoorShaWalks
import Derived.Test.YtfkchheildfkpaaGreatDoorBuilder
namespace Go.Proofs.YtfkchheildfkpaaGreatDoor
open Go.RowKit
namespace Sha
theorem below_row {B : Nat} {w wr w1 : World} {o : Obj} {base : Nat} {e : TypeId} {size : Nat} {v : Value} {n : Nat} {xs : List Value} (hb : Below B w wr) (hBs : B ≤ w.heap.size) (hrow : wr.ownsRow base e size v n xs) (hB : B ≤ base) (hg : (wr.alloc o).grownBy w1 v.ownBlock) : Below B w w1 :=
 (hb.alloc (Nat.le_trans hBs hb.size) o).grown hg (by have := hb.size; simp; omega) (fun k e => Nat.le_trans hB (hrow.lt k e).1)
theorem info_u64 : (Tryz.prog.info? 365).map (fun i => (i.zero, i.size, i.bytes)) = some (some (.int .u64 0), 1, 8) := by kernel_rfl
set_option maxRecDepth 100000 in
set_option maxHeartbeats 1000000 in
theorem root_any (n : Nat) (cubed : Bool) (hn : n < 4096) (w : World) :
   Calls Tryz.prog 256 #[.int .u64 (n : Int), .bool cubed] w fun e w' => e = .returned (.int .u32 (rootB n cubed : Nat)) ∧ w = w' := by
 obtain ⟨R, hR0⟩ : ∃ R, rootF n cubed 36 0 = R := ⟨_, rfl⟩
 have hR0 := Lib.hid hR0
 go_enter Tryz.func256, Tryz.ntmps256
 go_wp2_with fail
 go_loop [5, 6] (fun x b => ∃ c y : Nat, c ≤ 36 ∧ b = .int .i64 ((c : Int) - 1) ∧ x = .int .u64 (y : Int) ∧ y < 68719476736 ∧ 2 ^ c ∣ y ∧ R = rootF n cubed c y) (fun _ b => (intOf b + 1).toNat)
 case atStart => exact ⟨36, 0, Nat.le_refl _, rfl, rfl, by omega, Nat.dvd_zero _, hR0.out.symm⟩
 case round =>
   obtain ⟨c, y, hc, rfl, rfl, hy, hdvd, hr⟩ := hrel
   cases c with
   | zero =>
     have hR := Lib.hid hr
     clear hr hdvd
     go_wp2_with fail
     go_ret
     exact ⟨by unfold rootB; rw [hR0.out, hR.out]; rfl, rfl⟩
   | succ c =>
     have hb : (((c + 1 : Nat) : Int) - 1) = (c : Int) := by omega
     rw [hb]
     have hor := or_bit y c (by omega) hdvd hy
     have hz := bit_room y c (by omega) hdvd hy
     have hd := dvd_next y c hdvd
     have hO := over_any (y + 2 ^ c) n cubed hz hn w
     rw [rootF] at hr
     generalize y + 2 ^ c = z at *
     have HO := Lib.hid hO
     cases hc2 : overB z n cubed with
     | true =>
       have HR := Lib.hid (show R = rootF n cubed c y by rw [hr, hc2]; rfl)
       rw [hc2] at HO
       clear hr hO hc2 hdvd
       have HD := Lib.hid hd
       clear hd
       go_wp2_with (first | (go_at_call 320; refine HO.out.mono ?_; rintro e w' ⟨rfl, rfl⟩))
       go_round
       case rel => exact ⟨c, y, by omega, rfl, rfl, hy, HD.out.1, HR.out⟩
       case measure => simp [intOf]
     | false =>
       have HR := Lib.hid (show R = rootF n cubed c z by rw [hr, hc2]; rfl)
       rw [hc2] at HO
       clear hr hO hc2 hdvd
       have HD := Lib.hid hd
       clear hd
       go_wp2_with (first | (go_at_call 320; refine HO.out.mono ?_; rintro e w' ⟨rfl, rfl⟩))
       go_round
       case rel => exact ⟨c, z, by omega, rfl, rfl, hz, HD.out.2, HR.out⟩
       case measure => simp [intOf]
set_option maxRecDepth 100000 in
set_option maxHeartbeats 1000000 in
theorem primes_any (w : World) :
   Calls Tryz.prog 255 #[.int .i64 64] w fun e w' => ∃ v, e = .returned v ∧ w'.ownsRow w.heap.size 365 1 v 64 (P64.map fun (p : Nat) => Value.int .u64 (p : Int)) ∧ Below w.heap.size w w' := by
 obtain ⟨i0, hi, hz0, hz1, hz2⟩ := info_parts info_u64
 go_enter Tryz.func255, Tryz.ntmps255
 go_wp2_with fail
 go_loopw [3, 4] (fun v n wr => ∃ m : Nat, 2 ≤ m ∧ m ≤ 312 ∧ n = .int .u64 (m : Int) ∧ wr.ownsRow w.heap.size 365 1 v (primesTo m).length ((primesTo m).map fun (p : Nat) => Value.int .u64 (p : Int)) ∧ Below w.heap.size w wr) (fun _ n _ => 312 - (intOf n).toNat)
 case atStart => exact ⟨2, by omega, by omega, rfl, World.ownsRow_nil _ _ _ _, Below.refl _ _⟩
 case round =>
   obtain ⟨m, hm2, hm, rfl, hrow, hbl⟩ := hrel
   obtain ⟨A, cap, rfl, _⟩ := row_form hrow
   have hb0 := hbl.size
   by_cases hlt : (primesTo m).length < 64
   · have hm3 : m < 312 := by
       rcases Nat.lt_or_ge m 312 with h | h
       · exact h
       · have e : m = 312 := by omega
         subst e
         exact absurd P64_length (by unfold P64; omega)
     have hP := prime_any (m : Int) (by omega) (by omega) wr
     have hS := primesTo_succ m hm2
     rw [Int.toNat_natCast] at hP
     generalize hL : primesTo m = L at *
     cases hpm : isPrime m with
     | true =>
       rw [hpm] at hS hP
       rw [if_pos rfl] at hS
       have HS := Lib.hid hS
       have HP := Lib.hid hP
       have HL := Lib.hid hL
       clear hS hP hL hpm
       go_wp2_with (first
         | (go_at_call 319; refine HP.out.mono ?_; rintro e w' ⟨rfl, rfl⟩)
         | (at_builtin; refine wpList_append_own _ rfl _ _ 363 rfl w.heap.size 365 i0 (.int .u64 0) 1 8 Tryz.underlying363 hi hz0 hz1 hz2 rfl (by decide) _ _ _ rfl (hrow.alloc _) ⟨wr.heap.size, 0, none⟩ 1 1 [.int .u64 (m : Int)] rfl rfl (cell_one_new _ _ _) (by simp [Value.oneCell']) (by unfold maxLen; omega) (by omega) (by simp; omega) ?_; intro v' w1 hown' hgrow hnil'))
       have hgrow2 : (wr.alloc (.cells #[.int .u64 (m : Int)] 365)).grownBy w1 (Value.slice A L.length cap).ownBlock := hgrow
       clear hgrow hnil'
       go_roundw
       case rel =>
         refine ⟨m + 1, by omega, by omega, by go_num, ?_, below_row hbl (Nat.le_refl _) hrow (Nat.le_refl _) hgrow2⟩
         rw [HS.out]
         simpa using hown'
       case measure => simp [intOf]; omega
     | false =>
       rw [hpm] at hS hP
       rw [if_neg (by decide)] at hS
       have HS := Lib.hid hS
       have HP := Lib.hid hP
       have HL := Lib.hid hL
       clear hS hP hL hpm
       go_wp2_with (first
         | (go_at_call 319; refine HP.out.mono ?_; rintro e w' ⟨rfl, rfl⟩))
       go_roundw
       case rel =>
         refine ⟨m + 1, by omega, by omega, by go_num, ?_, hbl⟩
         rw [HS.out]
         exact hrow
       case measure => simp [intOf]; omega
   · have hF := primesTo_full m hm2 hm (by omega)
     have hl := Nat.le_antisymm (primesTo_len m hm2 hm) (by omega)
     generalize hL : primesTo m = L at *
     have HL := Lib.hid hL
     have HF := Lib.hid hF
     clear hL hF
     have t1 : ¬ ((L.length : Int) < 64) := by omega
     go_wp2_with fail
     go_ret
     refine ⟨_, rfl, ?_, hbl⟩
     rw [← HF.out]
     rw [hl] at hrow
     exact hrow
end Sha
end Go.Proofs.YtfkchheildfkpaaGreatDoor
