/-
 The walks of package sha: New, Sum.
-/
import Derived.Test.YtfkchheildfkpaaGreatDoorShaSum
import Derived.StillTailTactics
import Derived.Deep.RegionLaw
import Derived.Deep.AppendLies
namespace Go.Proofs.YtfkchheildfkpaaGreatDoor
open Go.RowKit
namespace Sha
attribute [local go_sem ↓] appSem_eq
def S0 : St := ⟨rootB 2 false, rootB 3 false, rootB 5 false, rootB 7 false, rootB 11 false, rootB 13 false, rootB 17 false, rootB 19 false⟩
def Z0 : St := ⟨0, 0, 0, 0, 0, 0, 0, 0⟩
def R64 : List Int := P64.map fun p => (rootB p true : Int)
theorem rootB_lt (n : Nat) (c : Bool) : rootB n c < 4294967296 := Nat.mod_lt _ (by omega)
set_option maxRecDepth 100000 in
theorem P8 : P64.take 8 = [2, 3, 5, 7, 11, 13, 17, 19] := by decide +kernel
theorem S0_get (k : Nat) (h : k < 8) : S0.list.getD k 0 = (rootB (P64.getD k 0) false : Int) := by
 have hp : P64.getD k 0 = [2, 3, 5, 7, 11, 13, 17, 19].getD k 0 := by
   rw [← P8]
   simp only [List.getD_eq_getElem?_getD]
   rw [List.getElem?_take_of_lt h]
 rw [hp]
 have hc : k = 0 ∨ k = 1 ∨ k = 2 ∨ k = 3 ∨ k = 4 ∨ k = 5 ∨ k = 6 ∨ k = 7 := by omega
 rcases hc with rfl | rfl | rfl | rfl | rfl | rfl | rfl | rfl <;> rfl
theorem S0_ok : S0.ok := by
 refine ⟨?_, ?_, ?_, ?_, ?_, ?_, ?_, ?_⟩ <;>
 · exact ⟨Int.natCast_nonneg _, by have := rootB_lt; exact Int.ofNat_lt.2 (this _ _)⟩
theorem Z0_part : part Z0 S0 8 = S0 := by
 have h : ∀ n : Nat, (0 + (rootB n false : Int)) % 4294967296 = (rootB n false : Int) := fun n => by have := rootB_lt n false; omega
 rw [part_full]
 unfold addSt Z0 S0
 simp only [h]
theorem zx (k : Nat) (h : k < 8) : (Z0.list.getD k 0 + S0.list.getD k 0) % 4294967296 = S0.list.getD k 0 := by
 have hz : Z0.list.getD k 0 = 0 := by
   have hc : k = 0 ∨ k = 1 ∨ k = 2 ∨ k = 3 ∨ k = 4 ∨ k = 5 ∨ k = 6 ∨ k = 7 := by omega
   rcases hc with rfl | rfl | rfl | rfl | rfl | rfl | rfl | rfl <;> rfl
 rw [hz, S0_get k h]
 have := rootB_lt (P64.getD k 0) false
 omega
theorem R64_len : R64.length = 64 := by rw [R64, List.length_map, P64_length]
theorem R64_get (k : Nat) (h : k < 64) : R64.getD k 0 = (rootB (P64.getD k 0) true : Int) := by
 have hk : k < P64.length := by rw [P64_length]; exact h
 simp [R64, List.getD, hk]
theorem R64_small : Small R64 := by
 intro x hx
 obtain ⟨p, _, rfl⟩ := List.mem_map.1 hx
 exact ⟨Int.natCast_nonneg _, Int.ofNat_lt.2 (rootB_lt _ _)⟩
theorem P64_lt (k : Nat) : P64.getD k 0 < 4096 := by
 have h : ∀ p ∈ P64, p < 312 := by
   intro p hp
   unfold P64 primesTo at hp
   have := List.mem_of_mem_drop (List.mem_filter.1 hp).1
   exact List.mem_range.1 this
 rw [List.getD_eq_getElem?_getD]
 cases hq : P64[k]? with
 | none => show 0 < _; omega
 | some p =>
   have := h p (List.mem_of_getElem? hq)
   show p < _; omega
theorem info_u32 : (Tryz.prog.info? 358).map (fun i => (i.zero, i.size, i.bytes)) = some (some (.int .u32 0), 1, 4) := by kernel_rfl
def r32 (l : List Int) : List Value := l.map fun x => Value.int .u32 x
theorem hcells_roots (s : St) (v : Value) (t : Int) (r r' : Value) : (hcells s v t r).setIfInBounds 10 r' = hcells s v t r' := by
 apply Array.toList_inj.1
 simp [hcells]
theorem eat_len (r : List Int) (l : List UInt8) (s : St) : (eat r l s).2.length = l.length % 64 := by
 induction hn : l.length using Nat.strongRecOn generalizing l s with
 | _ n ih =>
   by_cases h : 64 ≤ l.length
   · rw [eat_step r l s h, ih (l.drop 64).length (by simp; omega) _ _ rfl]
     simp only [List.length_drop]; omega
   · rw [eat_end r l s (by omega)]; show l.length = _; omega
theorem zeros_mod (n : Nat) : zeros (n % 64) = zeros n := by unfold zeros; omega
theorem root_back (n : Nat) (cubed : Bool) (hn : n < 4096) (w : World) :
   Calls Tryz.prog 256 #[.int .u64 (n : Int), .bool cubed] w fun e w' => e = .returned (.int .u32 (rootB n cubed : Nat)) ∧ w' = w :=
 (root_any n cubed hn w).mono fun _ _ h => ⟨h.1, h.2.symm⟩
set_option maxRecDepth 100000 in
set_option maxHeartbeats 2000000 in
theorem new_any (w : World) :
   Calls Tryz.prog 182 #[] w fun e w' =>
     ∃ rb rcap, e = .returned (.pointer (some ⟨w.heap.size, 0, none⟩)) ∧ Blk w' w.heap.size 362 (hcells S0 (.slice none 0 0) 0 (.slice (some ⟨rb, 0, none⟩) 64 rcap)) ∧ w.heap.size < rb ∧ rb < w'.heap.size ∧ (∀ j, j < 64 → w'.cell? ⟨rb, j, none⟩ = some (.int .u32 (R64.getD j 0))) ∧ Below w.heap.size w w' := by
 obtain ⟨i0, hi, hz0, hz1, hz2⟩ := info_parts info_u32
 go_enter Tryz.func182, Tryz.ntmps182
 have hH0 : Blk (w.alloc (.cells (hcells Z0 (.slice none 0 0) 0 (.slice none 0 0)) 362)) w.heap.size 362 (hcells Z0 (.slice none 0 0) 0 (.slice none 0 0)) := Blk.new _ _ _
 have hb0 : Below w.heap.size w (w.alloc (.cells (hcells Z0 (.slice none 0 0) 0 (.slice none 0 0)) 362)) := (Below.refl _ _).alloc (Nat.le_refl _) _
 have hs0 : (w.alloc (.cells (hcells Z0 (.slice none 0 0) 0 (.slice none 0 0)) 362)).heap.size = w.heap.size + 1 := by simp
 go_wp2_with (go_at_call 255; refine (primes_any _).mono ?_; rintro e w1 ⟨v, rfl, hrow, hb1⟩; obtain ⟨A1, c1, rfl, hrf⟩ := row_form hrow)
 obtain ⟨g1, cur, rfl, hg1, hP1, hPc⟩ := hrf (by omega)
 change Below (w.alloc (.cells (hcells Z0 (.slice none 0 0) 0 (.slice none 0 0)) 362)).heap.size (w.alloc (.cells (hcells Z0 (.slice none 0 0) 0 (.slice none 0 0)) 362)) w1 at hb1
 change (w.alloc (.cells (hcells Z0 (.slice none 0 0) 0 (.slice none 0 0)) 362)).heap.size ≤ g1 at hg1
 clear hrow hrf
 have hs1 := hb1.size
 rw [hs0] at hg1 hs1 hb1
 have hb01 : Below w.heap.size w w1 := hb0.trans (hb1.mono (by omega))
 have hH1 := hH0.below hb1 (by omega)
 clear hb1 hb0 hH0 hs0
 have hg1lt := hP1.lt
 have hPg : ∀ k, k < 64 → w1.cell? ⟨g1, k, none⟩ = some (.int .u64 ((P64.getD k 0 : Nat) : Int)) := fun k hk => by
   rw [hP1.cell k]
   apply hPc
   have : k < P64.length := by rw [P64_length]; exact hk
   simp [List.getD, this]
 clear hPc hP1
 obtain ⟨h, hh⟩ : ∃ h, h = w.heap.size := ⟨_, rfl⟩
 rw [← hh] at hs1 hg1 hH1 hb01 ⊢
 have hb01' : Below h w w1 := by rw [hh]; rw [hh] at hb01; exact hb01
 have HHH := Lib.hid hh
 clear hh
 obtain ⟨R, hR⟩ : ∃ R, R = w1.heap.size := ⟨_, rfl⟩
 rw [← hR] at hg1lt hs1
 have hRle : R ≤ w1.heap.size := Nat.le_of_eq hR
 clear hR
 go_loopw [8] (fun i wr => ∃ (k : Nat) (v : Value), k ≤ 64 ∧ i = .int .i64 (k : Int) ∧ wr.ownsRow R 358 1 v k (r32 (R64.take k)) ∧ Blk wr h 362 (hcells (part Z0 S0 (min k 8)) (.slice none 0 0) 0 v) ∧ Below h w wr ∧ R ≤ wr.heap.size ∧ (∀ j, j < 64 → wr.cell? ⟨g1, j, none⟩ = some (.int .u64 ((P64.getD j 0 : Nat) : Int)))) (fun i _ => 64 - (intOf i).toNat)
 case atStart => exact ⟨0, .slice none 0 0, by omega, rfl, World.ownsRow_nil _ _ _ _, hH1, hb01', hRle, hPg⟩
 case round =>
   obtain ⟨k, v, hk, rfl, hrow, hHr, hbl, hRr, hPr⟩ := hrel
   clear hH1 hPg hb01 hb01'
   by_cases hk64 : k < 64
   · have d0 : (k : Int) < 64 := by omega
     have cp := hPr k hk64
     have hp := P64_lt k
     have hRg := R64_get k hk64
     have hSg := S0_get k
     have hRt : r32 (R64.take (k + 1)) = r32 (R64.take k) ++ [.int .u32 (R64.getD k 0)] := by
       have hl := R64_len
       unfold r32
       rw [List.take_add_one, List.map_append]
       congr 1
       have : k < R64.length := by omega
       simp [List.getD, this]
     have hC1 := root_back (P64.getD k 0) true hp
     have hC0 := root_back (P64.getD k 0) false hp
     rw [← hRg] at hC1
     have HRt := Lib.hid hRt
     have HC1 := Lib.hid hC1
     obtain ⟨A2, c2, rfl, _⟩ := row_form hrow
     have hlR : (r32 (R64.take k)).length = k := by have := hrow.1; omega
     have hhlt := hHr.lt
     clear hRg hRt hC1
     generalize r32 (R64.take k) = X at *
     generalize R64.getD k 0 = y at *
     generalize P64.getD k 0 = p at *
     by_cases hk8 : k < 8
     · have d8 : (k : Int) < 8 := by omega
       have hSg8 := hSg hk8
       rw [← hSg8] at hC0
       have HC0 := Lib.hid hC0
       clear hC0 hSg hSg8
       rw [Nat.min_eq_left (by omega)] at hHr
       have hset := part_set Z0 S0 (.slice none 0 0) 0 (.slice A2 k c2) k hk8
       have hzx : (Z0.list.getD k 0 + S0.list.getD k 0) % 4294967296 = S0.list.getD k 0 := zx k hk8
       rw [hzx] at hset
       have HSET := Lib.hid hset
       clear hset hzx
       have zk : wr.cell? ⟨h, k, none⟩ = some (.int .u32 (Z0.list.getD k 0)) := (hHr.cell k).trans (part_get Z0 S0 _ _ _ k hk8)
       generalize S0.list.getD k 0 = x at *
       have fk := hHr.frozen k
       generalize Z0.list.getD k 0 = z at *
       have HHr := Lib.hid hHr
       have HPr := Lib.hid hPr
       have HRow := Lib.hid hrow
       have HBl := Lib.hid hbl
       clear hHr hPr hrow hbl
       go_wp2_with fail
       refine wp_region_still_tail 7 (by kernel_rfl) (by kernel_rfl) ?_
       simp only [List.take_succ_cons, List.take_zero, List.drop_succ_cons, List.drop_zero]
       repeat (first
         | still_step
         | (refine wpStill_step (fun K hK => ?_)
            go_simp
            refine ⟨_, HC0.out _, hK _ ?_⟩
            clear hK K))
       try refine wpStill_nil ?_
       change wpList _ _ _ _ _ wr.drew
       generalize hw3 : wr.drew = w3
       have hH3 : Blk w3 h 362 (hcells (part Z0 S0 k) (.slice none 0 0) 0 (.slice A2 k c2)) := hw3 ▸ HHr.out.drew
       have HP3 := Lib.hid (show ∀ (j : Nat), j < 64 → w3.cell? ⟨g1, j, none⟩ = some (.int .u64 ((P64.getD j 0 : Nat) : Int)) from hw3 ▸ HPr.out)
       have HRow3 := Lib.hid (show w3.ownsRow R 358 1 (.slice A2 k c2) k X from hw3 ▸ HRow.out)
       have HB3 := Lib.hid (show Below h w w3 from hw3 ▸ HBl.out.drew)
       have hR3 : R ≤ w3.heap.size := hw3 ▸ hRr
       have zk3 : w3.cell? ⟨h, k, none⟩ = some (.int .u32 z) := by rw [← hw3]; exact zk
       have fk3 : w3.frozen? ⟨h, k, none⟩ = false := by rw [← hw3]; exact fk
       clear hw3 HHr HPr HRow HBl zk fk cp
       go_wp2_with fail
       have hHx : Blk (w3.setCell ⟨h, k, none⟩ (.int .u32 x)) h 362 (hcells (part Z0 S0 (min (k + 1) 8)) (.slice none 0 0) 0 (.slice A2 k c2)) := by
         rw [Nat.min_eq_left (by omega), ← HSET.out]; exact hH3.set_ k _
       have HPx := Lib.hid (show ∀ (j : Nat), j < 64 → (w3.setCell ⟨h, k, none⟩ (.int .u32 x)).cell? ⟨g1, j, none⟩ = some (.int .u64 ((P64.getD j 0 : Nat) : Int)) from fun j hj => (World.cell?_setCell_other _ _ _ _ (by intro e; injection e; omega)).trans (HP3.out j hj))
       have HRowx := Lib.hid (show (w3.setCell ⟨h, k, none⟩ (.int .u32 x)).ownsRow R 358 1 (.slice A2 k c2) k X from ownsRow_setCell_below HRow3.out (by show h < R; omega) _)
       have HBx := Lib.hid (show Below h w (w3.setCell ⟨h, k, none⟩ (.int .u32 x)) from HB3.out.setCell (p := ⟨h, k, none⟩) (Nat.le_refl _) _)
       have hgx : R ≤ (w3.setCell ⟨h, k, none⟩ (.int .u32 x)).heap.size := by simp; exact hR3
       generalize w3.setCell ⟨h, k, none⟩ (.int .u32 x) = wx at *
       clear HSET hH3 HP3 HRow3 HB3 zk3 fk3
       have f10 := hHx.frozen 10
       have c10 : wx.cell? ⟨h, 10, none⟩ = some (.slice A2 k c2) := hHx.cell 10
       have hsx := hHx.lt
       have HHx := Lib.hid hHx
       clear hHx
       obtain ⟨g5, c5, w5, hrun, hown', hgrow, _, _⟩ := run_append_lies (P := Tryz.prog) (wx.drew.alloc (.cells #[.int .u32 y] 358)) 360 360 R 358 i0 (.int .u32 0) 1 4 Tryz.underlying360 hi hz0 hz1 hz2 rfl (by decide) (.slice A2 k c2) k X ((show wx.drew.ownsRow R 358 1 (.slice A2 k c2) k X from HRowx.out).alloc _) ⟨wx.heap.size, 0, none⟩ 1 1 [.int .u32 y] rfl (cell_one_new wx.drew _ _) (by simp [Value.oneCell']) (by omega) (by unfold maxLen; omega) (by omega) (by simp; omega) _ rfl
       have hrunA : (appSem #[360, 360] 360 #[.slice A2 k c2, .slice (some ⟨wx.heap.size, 0, none⟩) 1 1]).run Tryz.prog (wx.alloc (.cells #[.int .u32 y] 358)).drew = .ok (.slice (some ⟨g5, 0, none⟩) (k + 1) c5) w5 := hrun
       have hb5 : Below R wx w5 := below_row ((Below.refl R wx).drew) hgx (show wx.drew.ownsRow R 358 1 (.slice A2 k c2) k X from HRowx.out) (Nat.le_refl _) hgrow
       have hH5 := HHx.out.below hb5 (by omega)
       have d10 : w5.cell? ⟨h, 10, none⟩ = some (.slice A2 k c2) := hH5.cell 10
       have e10 := hH5.frozen 10
       have HH5 := Lib.hid hH5
       have HO5 := Lib.hid hown'
       have HB5 := Lib.hid hb5
       clear hrun hgrow hH5 hown' hb5
       go_region_law (first | (go_simp; go_at_call 256; refine (HC1.out _).mono ?_; rintro e w' ⟨rfl, rfl⟩))
       all_goals go_wp2_with fail
       all_goals
         refine ⟨⟨k + 1, .slice (some ⟨g5, 0, none⟩) (k + 1) c5, by omega, by go_num, ?_, ?_, ?_, ?_, ?_⟩, by simp [intOf]; omega⟩
         · rw [HRt.out]; exact ownsRow_setCell_below HO5.out (by show h < R; omega) _
         · have hq := HH5.out.set_ 10 (.slice (some ⟨g5, 0, none⟩) (k + 1) c5)
           rw [hcells_roots] at hq
           exact hq
         · exact (HBx.out.trans (HB5.out.mono (by omega))).setCell (p := ⟨h, 10, none⟩) (Nat.le_refl _) _
         · have := HB5.out.size
           simp; omega
         · intro j hj
           rw [World.cell?_setCell_other _ _ _ _ (by intro e; injection e; omega), World.cell?_of_block (a := ⟨g1, j, none⟩) (HB5.out.block g1 hg1lt)]
           exact HPx.out j hj
     · have d8 : ¬ ((k : Int) < 8) := by omega
       clear hC0 hSg
       rw [Nat.min_eq_right (by omega)] at hHr
       have hHx : Blk wr h 362 (hcells (part Z0 S0 (min (k + 1) 8)) (.slice none 0 0) 0 (.slice A2 k c2)) := by
         rw [Nat.min_eq_right (by omega)]; exact hHr
       have HPx := Lib.hid hPr
       have HRowx := Lib.hid hrow
       have HBx := Lib.hid hbl
       have hgx : R ≤ wr.heap.size := hRr
       clear hHr hPr hrow hbl
       obtain ⟨wx, hwx⟩ : ∃ wx, wx = wr := ⟨_, rfl⟩
       subst hwx
       go_wp2_with fail
       have f10 := hHx.frozen 10
       have c10 : wx.cell? ⟨h, 10, none⟩ = some (.slice A2 k c2) := hHx.cell 10
       have hsx := hHx.lt
       have HHx := Lib.hid hHx
       clear hHx
       obtain ⟨g5, c5, w5, hrun, hown', hgrow, _, _⟩ := run_append_lies (P := Tryz.prog) (wx.drew.alloc (.cells #[.int .u32 y] 358)) 360 360 R 358 i0 (.int .u32 0) 1 4 Tryz.underlying360 hi hz0 hz1 hz2 rfl (by decide) (.slice A2 k c2) k X ((show wx.drew.ownsRow R 358 1 (.slice A2 k c2) k X from HRowx.out).alloc _) ⟨wx.heap.size, 0, none⟩ 1 1 [.int .u32 y] rfl (cell_one_new wx.drew _ _) (by simp [Value.oneCell']) (by omega) (by unfold maxLen; omega) (by omega) (by simp; omega) _ rfl
       have hrunA : (appSem #[360, 360] 360 #[.slice A2 k c2, .slice (some ⟨wx.heap.size, 0, none⟩) 1 1]).run Tryz.prog (wx.alloc (.cells #[.int .u32 y] 358)).drew = .ok (.slice (some ⟨g5, 0, none⟩) (k + 1) c5) w5 := hrun
       have hb5 : Below R wx w5 := below_row ((Below.refl R wx).drew) hgx (show wx.drew.ownsRow R 358 1 (.slice A2 k c2) k X from HRowx.out) (Nat.le_refl _) hgrow
       have hH5 := HHx.out.below hb5 (by omega)
       have d10 : w5.cell? ⟨h, 10, none⟩ = some (.slice A2 k c2) := hH5.cell 10
       have e10 := hH5.frozen 10
       have HH5 := Lib.hid hH5
       have HO5 := Lib.hid hown'
       have HB5 := Lib.hid hb5
       clear hrun hgrow hH5 hown' hb5
       go_region_law (first | (go_simp; go_at_call 256; refine (HC1.out _).mono ?_; rintro e w' ⟨rfl, rfl⟩))
       all_goals go_wp2_with fail
       all_goals
         refine ⟨⟨k + 1, .slice (some ⟨g5, 0, none⟩) (k + 1) c5, by omega, by go_num, ?_, ?_, ?_, ?_, ?_⟩, by simp [intOf]; omega⟩
         · rw [HRt.out]; exact ownsRow_setCell_below HO5.out (by show h < R; omega) _
         · have hq := HH5.out.set_ 10 (.slice (some ⟨g5, 0, none⟩) (k + 1) c5)
           rw [hcells_roots] at hq
           exact hq
         · exact (HBx.out.trans (HB5.out.mono (by omega))).setCell (p := ⟨h, 10, none⟩) (Nat.le_refl _) _
         · have := HB5.out.size
           simp; omega
         · intro j hj
           rw [World.cell?_setCell_other _ _ _ _ (by intro e; injection e; omega), World.cell?_of_block (a := ⟨g1, j, none⟩) (HB5.out.block g1 hg1lt)]
           exact HPx.out j hj
   · have hk64 : k = 64 := by omega
     subst hk64
     obtain ⟨A2, c2, rfl, hrf⟩ := row_form hrow
     obtain ⟨g2, cur2, rfl, hg2, hB2, hc2⟩ := hrf (by omega)
     rw [show min 64 8 = 8 from rfl, Z0_part] at hHr
     have hR64 : R64.take 64 = R64 := List.take_of_length_le (by rw [R64_len]; exact Nat.le_refl _)
     have HHr := Lib.hid hHr
     have HC := Lib.hid hc2
     have HB := Lib.hid hbl
     clear hHr hPr hrow hrf hc2 hbl
     go_wp2_with fail
     go_ret
     have hh := HHH.out
     refine ⟨g2, c2, by rw [hh]; rfl, by rw [← hh]; exact HHr.out, by omega, hB2.lt, fun j hj => ?_, by rw [← hh]; exact HB.out⟩
     rw [hB2.cell j]
     apply HC.out
     rw [hR64, r32]
     have : j < R64.length := by rw [R64_len]; exact hj
     simp [List.getD, this]
set_option maxRecDepth 100000 in
set_option maxHeartbeats 2000000 in
theorem sum_any (b : ByteArray) (hb : b.size ≤ 70368744177664) (w : World) :
   Calls Tryz.prog 119 #[.string b] w fun e w' => e = .returned (.string ⟨(digest R64 S0 b.data.toList).toArray⟩) ∧ Below w.heap.size w w' := by
 go_enter Tryz.func119, Tryz.ntmps119
 go_wp2_with (go_at_call 182; refine (new_any _).mono ?_)
 rintro e w1 ⟨rb, rcap, rfl, hH1, hrb, hrb1, hR1, hb1⟩
 have hadd := add_any S0 S0_ok [] b (.slice none 0 0) 0 rb rcap R64 R64_small w.heap.size w1 hH1 hrb1 (by omega) hR1 (RestIs.nil _ _) (by simpa using hb) (by omega) (by omega)
 have HA := Lib.hid hadd
 have HR1 := Lib.hid hR1
 clear hadd hH1 hR1
 go_wp2_with (go_at_call 183; refine HA.out.mono ?_)
 rintro e w2 ⟨rfl, ⟨v', hH2, hv2⟩, hb2, hk2⟩
 rw [List.nil_append] at hH2 hv2
 rw [show (0 : Int) + (b.size : Int) = ((b.size : Nat) : Int) by omega] at hH2
 have hs2 := hb2.size
 have hS := hsum_any (eat R64 b.data.toList S0).1 (eat_ok _ _ _ S0_ok) (eat R64 b.data.toList S0).2 v' b.size rb rcap R64 R64_small w.heap.size w2 hH2 (by omega)
   (fun j hj => (World.cell?_of_block (a := ⟨rb, j, none⟩) (hk2 rb hrb1 (by omega))).trans (HR1.out j hj)) hv2 (eat_left _ _ _) hb
 rw [eat_append, eat_len, zeros_mod] at hS
 have hl : b.data.toList.length = b.size := by simp
 have hD : stBytes (eat R64 (b.data.toList ++ (endz (zeros b.data.toList.length) ++ lenBytes b.size)) S0).1 = digest R64 S0 b.data.toList := by
   rw [digest, pad, hl]; rfl
 rw [hD] at hS
 have HS := Lib.hid hS
 clear hS HA HR1 hH2 hv2 hD
 go_wp2_with (go_at_call 184; refine HS.out.mono ?_)
 rintro e w3 ⟨rfl, hb3⟩
 go_wp2_with fail
 go_ret
 have hs1 := hb1.size
 exact ⟨rfl, (hb1.trans hb2).trans (hb3.mono (by omega))⟩
end Sha
end Go.Proofs.YtfkchheildfkpaaGreatDoor
