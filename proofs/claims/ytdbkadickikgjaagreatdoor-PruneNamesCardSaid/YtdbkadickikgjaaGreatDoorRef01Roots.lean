/-
 The walks of the document's package strongboxref01: turn, Roots.
-/
import Derived.Test.YtdbkadickikgjaaGreatDoorRef01Bits
import Derived.Test.YtdbkadickikgjaaGreatDoorShaNew
import Derived.Maps.AppendAt
namespace Go.Proofs.YtdbkadickikgjaaGreatDoor
open Go.RowKit
namespace R1
open Sha
theorem own_below {w w' : World} {base : Nat} {e : TypeId} {size : Nat} {v : Value} {n : Nat} {xs : List Value} (h : w.ownsRow base e size v n xs) (hb : Below w.heap.size w w') : w'.ownsRow base e size v n xs := by
 refine ⟨h.1, ?_⟩
 rcases h.2 with hn | ⟨g, cap, cur, rfl, hb0, hgg, rest⟩
 · exact .inl hn
 · exact .inr ⟨g, cap, cur, rfl, hb0, (hb.block g (Array.getElem?_eq_some_iff.1 hgg).1).trans hgg, rest⟩
def Apart (u v : Value) : Prop := ∀ g, u.ownBlock = some g → v.ownBlock ≠ some g
theorem Apart.symm {u v : Value} (h : Apart u v) : Apart v u := fun g h1 h2 => h g h2 h1
theorem Apart.next {u u' v : Value} {w : World} {base : Nat} {e : TypeId} {size n : Nat} {xs : List Value} (h : Apart u v) (hv : w.ownsRow base e size v n xs) (hu : u'.ownBlock = u.ownBlock ∨ u'.ownBlock = some w.heap.size) : Apart u' v := fun g h1 h2 => by
 rcases hu with hu | hu
 · rw [hu] at h1; exact h g h1 h2
 · rw [hu] at h1
   have := (hv.lt g h2).2
   injection h1 with h1
   omega
theorem Apart.kept {u v : Value} {w w' : World} {base : Nat} {e : TypeId} {size n : Nat} {xs : List Value} (h : Apart u v) (hv : w.ownsRow base e size v n xs) (hg : w.grownBy w' u.ownBlock) : w'.ownsRow base e size v n xs := by
 refine hv.kept hg ?_
 cases hvb : v.ownBlock with
 | none => exact .inl rfl
 | some g => exact .inr fun e => h g e.symm hvb
theorem apart_nil : Apart (.slice none 0 0) (.slice none 0 0) := fun g h => by simp [Value.ownBlock] at h
def firsts (l : List Nat) : List Value := (l.take 8).map fun (p : Nat) => Value.int .u32 ((rootB p false : Nat) : Int)
def addeds (l : List Nat) : List Value := l.map fun (p : Nat) => Value.int .u32 ((rootB p true : Nat) : Int)
theorem primes20 (m : Nat) (_hm : 2 ≤ m) (h : (primesTo m).length < 8) : m < 20 := by
 rcases Nat.lt_or_ge m 20 with h1 | h1
 · exact h1
 · have hp := (primesTo_pre 20 (m - 20) (by omega)).length_le
   rw [show 20 + (m - 20) = m by omega, show (primesTo 20).length = 8 by decide +kernel] at hp
   omega
theorem tmodG (v d : Nat) : ((v : Int).tmod (d : Int)) = ((v % d : Nat) : Int) := by rw [Int.tmod_eq_emod_of_nonneg (by omega)]; rfl
set_option maxRecDepth 100000 in
set_option maxHeartbeats 4000000 in
theorem roots_any (w : World) :
   Calls Tryz.prog 239 #[] w fun e w' => ∃ v1 v2, e = .returned (.tuple #[v1, v2]) ∧ w'.ownsRow w.heap.size 294 1 v1 8 (r32 S0.list) ∧ w'.ownsRow w.heap.size 294 1 v2 64 (r32 R64) ∧ Below w.heap.size w w' := by
 obtain ⟨i0, hi, hz0, hz1, hz2⟩ := info_parts info_u32
 go_enter Tryz.func239, Tryz.ntmps239
 go_wp2_with fail
 go_loopw [2, 3, 4] (fun u v n wr => ∃ m : Nat, 2 ≤ m ∧ m ≤ 312 ∧ n = .int .u64 (m : Int) ∧ wr.ownsRow w.heap.size 294 1 u ((primesTo m).take 8).length (firsts (primesTo m)) ∧ wr.ownsRow w.heap.size 294 1 v (primesTo m).length (addeds (primesTo m)) ∧ Apart u v ∧ Below w.heap.size w wr) (fun _ _ n _ => 312 - (intOf n).toNat)
 case atStart => exact ⟨2, by omega, by omega, rfl, World.ownsRow_nil _ _ _ _, World.ownsRow_nil _ _ _ _, apart_nil, Below.refl _ _⟩
 case round =>
   obtain ⟨m, hm2, hm, rfl, hu, hv, hap, hbl⟩ := hrel
   obtain ⟨A, cap, rfl, _⟩ := row_form hu
   obtain ⟨A', cap', rfl, _⟩ := row_form hv
   have hb0 := hbl.size
   by_cases hlt : (primesTo m).length < 64
   · have hm3 : m < 312 := by
       rcases Nat.lt_or_ge m 312 with h | h
       · exact h
       · have e : m = 312 := by omega
         subst e
         exact absurd P64_length (by unfold P64; omega)
     have hS := primesTo_succ m hm2
     have h20 := primes20 m hm2
     have hPF := prime_start m (by omega)
     have t1 : ((primesTo m).length : Int) < 64 := by omega
     generalize hL : primesTo m = L at *
     generalize hN : (L.take 8).length = n1 at *
     have HN := Lib.hid hN
     clear hN
     have HS := Lib.hid hS
     have HL := Lib.hid hL
     have HU := Lib.hid hu
     have HV := Lib.hid hv
     have HAP := Lib.hid hap
     have H20 := Lib.hid h20
     have HPF := Lib.hid hPF
     clear hS hL hu hv hap h20 hPF
     go_wp2_with fail
     go_loopw [5, 6] (fun b d wx => ∃ (j f : Nat) (q : Bool), j + f = 4096 ∧ wx = wr ∧ d = .int .u64 ((2 + j : Nat) : Int) ∧ b = .bool q ∧ ((q = true ∧ primeF m f (2 + j) = isPrime m) ∨ (q = false ∧ isPrime m = false))) (fun _ d _ => 5000 - (intOf d).toNat)
     case atStart => exact ⟨0, 4096, true, by omega, rfl, rfl, rfl, .inl ⟨rfl, HPF.out.symm⟩⟩
     case round =>
       obtain ⟨j, f, q, hjf, rfl, rfl, rfl, hq⟩ := hrel
       obtain ⟨D, hD⟩ : ∃ D, D = 2 + j := ⟨_, rfl⟩
       rw [← hD] at hq ⊢
       have hD5 : D * D ≤ 4098 * 4098 := Nat.mul_le_mul (by omega) (by omega)
       have hw : IntKind.u64.wrap ((D : Int) * (D : Int)) = ((D * D : Nat) : Int) := by rw [IntKind.wrap_u64, ← Int.natCast_mul]; omega
       have hw1 : IntKind.u64.wrap ((D : Int) + 1) = ((2 + (j + 1) : Nat) : Int) := by rw [IntKind.wrap_u64]; omega
       have HD := Lib.hid hD
       generalize hD1 : 2 + (j + 1) = D1 at *
       have HD1 := Lib.hid hD1
       clear hD hD1
       rcases hq with ⟨rfl, hq⟩ | ⟨rfl, hq⟩
       · by_cases hdd : D * D ≤ m
         · have hf : ∃ (f' : Nat), f = f' + 1 := ⟨f - 1, by
             rcases Nat.eq_zero_or_pos f with h0 | h0
             · exfalso
               have hd := HD.out
               have : 4098 * 4098 ≤ D * D := Nat.mul_le_mul (by omega) (by omega)
               omega
             · omega⟩
           obtain ⟨f', rfl⟩ := hf
           rw [primeF, if_pos hdd] at hq
           have t2 : ((D * D : Nat) : Int) ≤ (m : Int) := by omega
           have t3 := tmodG m D
           have t4 : ¬ ((D : Int) = 0) := by have := HD.out; omega
           generalize D * D = E at *
           by_cases hz : m % D = 0
           · rw [if_pos hz] at hq
             have HQ := Lib.hid hq
             rw [hz] at t3
             clear hq
             go_wp2_with fail
             go_roundw
             case rel => exact ⟨j + 1, f', false, by omega, by simp, by rw [HD1.out], rfl, .inr ⟨rfl, HQ.out.symm⟩⟩
             case measure => first | (have := HD.out; have := HD1.out; simp [intOf]; omega) | (simp [intOf]; omega)
           · rw [if_neg hz] at hq
             have HQ := Lib.hid hq
             generalize m % D = z at *
             have t5 : ¬ ((z : Int) = 0) := by omega
             have t6 : ((z : Int) != 0) = true := bne_iff_ne.2 t5
             clear hq
             go_wp2_with fail
             go_roundw
             case rel => exact ⟨j + 1, f', true, by omega, by simp, by rw [HD1.out], rfl, .inl ⟨rfl, by rw [show 2 + (j + 1) = D + 1 by have := HD.out; omega]; exact HQ.out⟩⟩
             case measure => first | (have := HD.out; have := HD1.out; simp [intOf]; omega) | (simp [intOf]; omega)
         · rw [primeF_end m f D (by omega)] at hq
           have t2 : ¬ (((D * D : Nat) : Int) ≤ (m : Int)) := by omega
           have HS2 := Lib.hid (show primesTo (m + 1) = L ++ [m] by rw [HS.out, if_pos hq.symm])
           clear hq HS HPF
           generalize D * D = E at *
           have hB3 := bitsOf3_any m (by omega)
           rw [bits_root m 3 true (.inr ⟨rfl, rfl, by omega⟩)] at hB3
           obtain ⟨b3, hb3⟩ : ∃ b3, b3 = rootB m true := ⟨_, rfl⟩
           rw [← hb3] at hB3
           have HB3 := Lib.hid hB3
           have HQ3 := Lib.hid hb3
           clear hB3 hb3
           by_cases h8 : L.length < 8
           · have hB2 := bitsOf2_any m (by omega) wr
             rw [bits_root m 2 false (.inl ⟨rfl, rfl, by have := H20.out h8; omega⟩)] at hB2
             obtain ⟨b2, hb2⟩ : ∃ b2, b2 = rootB m false := ⟨_, rfl⟩
             rw [← hb2] at hB2
             have HB2 := Lib.hid hB2
             have HQ2 := Lib.hid hb2
             have hn1 : (n1 : Int) < 8 := by rw [← HN.out, List.length_take]; omega
             clear hB2 hb2
             go_wp2_with fail
             refine HB2.out.mono ?_
             rintro e wa ⟨rfl, hba⟩
             have HUa := own_below HU.out hba
             have HVa := own_below HV.out hba
             have hsa := hba.size
             go_wp2_with (at_builtin; refine wpList_append_own_at _ rfl _ _ 296 rfl w.heap.size 294 i0 (.int .u32 0) 1 4 Tryz.underlying296 hi hz0 hz1 hz2 rfl (by decide) _ _ _ rfl (HUa.alloc _) ⟨wa.heap.size, 0, none⟩ 1 1 [.int .u32 (b2 : Int)] rfl rfl (cell_one_new _ _ _) (by simp [Value.oneCell']) (by unfold maxLen; omega) (by omega) (by simp; omega) ?_; intro v' wb hown' hgrow hnil' hwh')
             have hg1 : (wa.alloc (.cells #[.int .u32 (b2 : Int)] 294)).grownBy wb (Value.slice A n1 cap).ownBlock := hgrow
             have hq1 : v'.ownBlock = (Value.slice A n1 cap).ownBlock ∨ v'.ownBlock = some (wa.alloc (.cells #[.int .u32 (b2 : Int)] 294)).heap.size := hwh'
             have HVb := HAP.out.kept (HVa.alloc _) hg1
             have APb := HAP.out.next (HVa.alloc _) hq1
             have HBb := below_row (hbl.trans (hba.mono hb0)) (Nat.le_refl _) HUa (Nat.le_refl _) hg1
             have hsb := HBb.size
             have HAPb := Lib.hid APb
             clear hgrow hwh' hnil' hg1 hq1 HUa HVa APb HB2
             refine (HB3.out wb).mono ?_
             rintro e wc ⟨rfl, hbc⟩
             have HUc := own_below hown' hbc
             have HVc := own_below HVb hbc
             have hsc := hbc.size
             clear hown' HVb
             go_wp2_with (at_builtin; refine wpList_append_own_at _ rfl _ _ 296 rfl w.heap.size 294 i0 (.int .u32 0) 1 4 Tryz.underlying296 hi hz0 hz1 hz2 rfl (by decide) _ _ _ rfl (HVc.alloc _) ⟨wc.heap.size, 0, none⟩ 1 1 [.int .u32 (b3 : Int)] rfl rfl (cell_one_new _ _ _) (by simp [Value.oneCell']) (by unfold maxLen; omega) (by omega) (by simp; omega) ?_; intro v'' wd hown2 hgrow2 hnil2 hwh2)
             have hg2 : (wc.alloc (.cells #[.int .u32 (b3 : Int)] 294)).grownBy wd (Value.slice A' L.length cap').ownBlock := hgrow2
             have hq2 : v''.ownBlock = (Value.slice A' L.length cap').ownBlock ∨ v''.ownBlock = some (wc.alloc (.cells #[.int .u32 (b3 : Int)] 294)).heap.size := hwh2
             have HUd := HAPb.out.symm.kept (HUc.alloc _) hg2
             have APd := (HAPb.out.symm.next (HUc.alloc _) hq2).symm
             have HBd := below_row (HBb.trans (hbc.mono hsb)) (Nat.le_refl _) HVc (Nat.le_refl _) hg2
             have hlen : ((L ++ [m]).take 8).length = n1 + 1 := by
               have h := HN.out
               rw [List.length_take] at h ⊢; rw [List.length_append]; simp; omega
             have hrow : firsts (L ++ [m]) = firsts L ++ [.int .u32 (b2 : Int)] := by
               unfold firsts
               rw [List.take_of_length_le (by simp; omega), List.take_of_length_le (by omega), List.map_append, HQ2.out]; rfl
             have hrow2 : addeds (L ++ [m]) = addeds L ++ [.int .u32 (b3 : Int)] := by
               unfold addeds
               rw [List.map_append, HQ3.out]; rfl
             have HL1 := Lib.hid hlen
             have HL2 := Lib.hid hrow
             have HL3 := Lib.hid hrow2
             have HLU := Lib.hid HUd
             have HLV := Lib.hid hown2
             clear hgrow2 hwh2 hnil2 hg2 hq2 HUc HVc hlen hrow hrow2 HUd hown2
             go_roundw
             case rel => exact ⟨m + 1, by omega, by omega, by go_num, by rw [HS2.out, HL1.out, HL2.out]; exact HLU.out, by rw [HS2.out, HL3.out, List.length_append]; exact HLV.out, APd, HBd⟩
             case measure => simp [intOf]; omega
           · have hn1 : ¬ ((n1 : Int) < 8) := by rw [← HN.out, List.length_take]; omega
             go_wp2_with fail
             refine (HB3.out wr).mono ?_
             rintro e wc ⟨rfl, hbc⟩
             have HUc := own_below HU.out hbc
             have HVc := own_below HV.out hbc
             have hsc := hbc.size
             go_wp2_with (at_builtin; refine wpList_append_own_at _ rfl _ _ 296 rfl w.heap.size 294 i0 (.int .u32 0) 1 4 Tryz.underlying296 hi hz0 hz1 hz2 rfl (by decide) _ _ _ rfl (HVc.alloc _) ⟨wc.heap.size, 0, none⟩ 1 1 [.int .u32 (b3 : Int)] rfl rfl (cell_one_new _ _ _) (by simp [Value.oneCell']) (by unfold maxLen; omega) (by omega) (by simp; omega) ?_; intro v'' wd hown2 hgrow2 hnil2 hwh2)
             have hg2 : (wc.alloc (.cells #[.int .u32 (b3 : Int)] 294)).grownBy wd (Value.slice A' L.length cap').ownBlock := hgrow2
             have hq2 : v''.ownBlock = (Value.slice A' L.length cap').ownBlock ∨ v''.ownBlock = some (wc.alloc (.cells #[.int .u32 (b3 : Int)] 294)).heap.size := hwh2
             have HUd := HAP.out.symm.kept (HUc.alloc _) hg2
             have APd := (HAP.out.symm.next (HUc.alloc _) hq2).symm
             have HBd := below_row (hbl.trans (hbc.mono hb0)) (Nat.le_refl _) HVc (Nat.le_refl _) hg2
             have htk : (L ++ [m]).take 8 = L.take 8 := List.take_append_of_le_length (by omega)
             have hrow : firsts (L ++ [m]) = firsts L := by unfold firsts; rw [htk]
             have hrow2 : addeds (L ++ [m]) = addeds L ++ [.int .u32 (b3 : Int)] := by
               unfold addeds
               rw [List.map_append, HQ3.out]; rfl
             have HL1 := Lib.hid htk
             have HL2 := Lib.hid hrow
             have HL3 := Lib.hid hrow2
             have HLU := Lib.hid HUd
             have HLV := Lib.hid hown2
             clear hgrow2 hwh2 hnil2 hg2 hq2 HUc HVc htk hrow hrow2 HUd hown2
             go_roundw
             case rel => exact ⟨m + 1, by omega, by omega, by go_num, by rw [HS2.out, HL1.out, HL2.out, HN.out]; exact HLU.out, by rw [HS2.out, HL3.out, List.length_append]; exact HLV.out, APd, HBd⟩
             case measure => simp [intOf]; omega
       · have HS2 := Lib.hid (show primesTo (m + 1) = L by rw [HS.out, if_neg (by rw [hq]; decide)])
         clear hq HS HPF
         by_cases hdd : D * D ≤ m
         · have t2 : ((D * D : Nat) : Int) ≤ (m : Int) := by omega
           generalize D * D = E at *
           go_wp2_with fail
           go_roundw
           case rel => exact ⟨m + 1, by omega, by omega, by go_num, by rw [HS2.out, HN.out]; exact HU.out, by rw [HS2.out]; exact HV.out, HAP.out, hbl⟩
           case measure => first | (have := HD.out; have := HD1.out; simp [intOf]; omega) | (simp [intOf]; omega)
         · have t2 : ¬ (((D * D : Nat) : Int) ≤ (m : Int)) := by omega
           generalize D * D = E at *
           go_wp2_with fail
           go_roundw
           case rel => exact ⟨m + 1, by omega, by omega, by go_num, by rw [HS2.out, HN.out]; exact HU.out, by rw [HS2.out]; exact HV.out, HAP.out, hbl⟩
           case measure => first | (have := HD.out; have := HD1.out; simp [intOf]; omega) | (simp [intOf]; omega)
   · have hF := primesTo_full m hm2 hm (by omega)
     have hu8 : ((primesTo m).take 8).length = 8 := by rw [List.length_take]; omega
     have hl := Nat.le_antisymm (primesTo_len m hm2 hm) (by omega)
     have hr1 : firsts (primesTo m) = r32 S0.list := by rw [hF]; unfold firsts; rw [P8]; rfl
     have hr2 : addeds (primesTo m) = r32 R64 := by
       rw [hF]; unfold addeds r32 R64
       rw [List.map_map]; rfl
     rw [hu8, hr1] at hu
     rw [hl, hr2] at hv
     have t1 : ¬ (((primesTo m).length : Int) < 64) := by omega
     rw [hu8]
     generalize (primesTo m).length = n2 at *
     have HU := Lib.hid hu
     have HV := Lib.hid hv
     clear hF hu8 hr1 hr2 hu hv hap
     go_wp2_with fail
     go_ret2
     subst hl
     exact ⟨_, _, rfl, HU.out, HV.out, hbl⟩
end R1
end Go.Proofs.YtdbkadickikgjaaGreatDoor
