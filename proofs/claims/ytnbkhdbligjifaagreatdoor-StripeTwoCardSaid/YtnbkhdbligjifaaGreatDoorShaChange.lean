/-
 The walks of package sha: the change by a block.
-/
import Derived.Test.YtnbkhdbligjifaaGreatDoorShaWords
import Derived.Test.YtnbkhdbligjifaaGreatDoorShaState
import Derived.Deep.WholeRow
set_option linter.unusedVariables false
set_option linter.unusedSimpArgs false
set_option maxRecDepth 100000
set_option maxHeartbeats 40000000
namespace Go.Proofs.YtnbkhdbligjifaaGreatDoor
open Go.RowKit
namespace Sha
def alSem (ty : TypeId) (v : Value) : Sem Value := Instr.alloc ty true v
theorem al_eq (v : Value) : Instr.alloc 247 true v = alSem 247 v := rfl
theorem run_al (w : World) : (alSem 247 (.tuple #[])).run Tryz.prog w = .ok (.pointer (some ⟨w.heap.size, 0, none⟩)) (w.alloc (.cells (cells64 []) 247)) := by
 unfold alSem
 go_simp
 rfl
attribute [local go_sem ↓] ld_eq st_eq al_eq
structure CEnv (H W N rb : Nat) (t : St) (sl : Value) (r x : Int) (k : Nat) (wr : World) : Prop where
 a : wr.cell? ⟨N, 0, none⟩ = some (.int .u32 t.a)
 b : wr.cell? ⟨N, 1, none⟩ = some (.int .u32 t.b)
 c : wr.cell? ⟨N, 2, none⟩ = some (.int .u32 t.c)
 d : wr.cell? ⟨N, 3, none⟩ = some (.int .u32 t.d)
 e : wr.cell? ⟨N, 4, none⟩ = some (.int .u32 t.e)
 f : wr.cell? ⟨N, 5, none⟩ = some (.int .u32 t.f)
 g : wr.cell? ⟨N, 6, none⟩ = some (.int .u32 t.g)
 h : wr.cell? ⟨N, 7, none⟩ = some (.int .u32 t.h)
 l : wr.cell? ⟨H, 10, none⟩ = some sl
 r : wr.cell? ⟨rb, k, none⟩ = some (.int .u32 r)
 x : wr.cell? ⟨W, k, none⟩ = some (.int .u32 x)
theorem CEnv.drewN {H W N rb : Nat} {t : St} {sl : Value} {r x : Int} {k : Nat} {wr : World} (h : CEnv H W N rb t sl r x k wr) (n : Nat) : CEnv H W N rb t sl r x k (wr.drewN n) :=
 ⟨h.a, h.b, h.c, h.d, h.e, h.f, h.g, h.h, h.l, h.r, h.x⟩
theorem change_any (s : St) (hs : s.ok) (rest : Value) (total : Int) (rb rcap : Nat) (roots : List Int) (_hsm : Small roots) (b : List UInt8) (hb : b.length = 64) (g o cap H : Nat) (w : World)
 (hH : Blk w H 174 (hcells s rest total (.slice (some ⟨rb, 0, none⟩) 64 rcap)))
 (hrb : rb < w.heap.size) (_hrH : rb ≠ H) (hroots : ∀ j, j < 64 → w.cell? ⟨rb, j, none⟩ = some (.int .u32 (roots.getD j 0)))
 (hg : g < w.heap.size) (hrow : ∀ j, j < 64 → w.cell? ⟨g, o + j, none⟩ = some (.int .u8 (at8 b j))) :
 Calls Tryz.prog 138 #[.pointer (some ⟨H, 0, none⟩), .slice (some ⟨g, o, none⟩) 64 cap] w fun e w' =>
  e = .returned (.tuple #[]) ∧ Blk w' H 174 (hcells (comp roots b s) rest total (.slice (some ⟨rb, 0, none⟩) 64 rcap)) ∧ Below H w w' ∧ Keep H w w' := by
 go_enter Tryz.func138, Tryz.ntmps138
 go_wp2_with (go_at_call 175; refine (words_any b g o cap hb w hg hrow).mono ?_)
 rintro e w1 ⟨rfl, hb1⟩
 have hHlt := hH.lt
 have hH1 := hH.below hb1 hHlt
 have hs1 := hb1.size
 have hroots1 : ∀ j, j < 64 → w1.cell? ⟨rb, j, none⟩ = some (.int .u32 (roots.getD j 0)) := fun j hj => (hb1.cell (p := ⟨rb, j, none⟩) hrb).trans (hroots j hj)
 have hcl : ∀ i : Nat, w1.cell? ⟨H, i, none⟩ = _ := fun i => hH1.cell i
 obtain ⟨SW, hSW⟩ : ∃ L, L = sched b := ⟨_, rfl⟩
 have hswl : SW.length = 64 := by rw [hSW]; exact sched_length b
 have hsws : Small SW := by rw [hSW]; exact sched_small b
 rw [← hSW]
 have HSW := Lib.hid hSW
 obtain ⟨C, hC⟩ : ∃ C, C = (u32s SW).toArray := ⟨_, rfl⟩
 have hsz : C.size = 64 := by rw [hC]; simp [u32s, hswl]
 have hall : C.all (·.oneCell') = true := by
  rw [hC]
  simp only [u32s, Array.all_eq_true_iff_forall_mem, List.mem_toArray, List.mem_map]
  rintro x ⟨y, _, rfl⟩
  rfl
 have hCget : ∀ j, j < 64 → C[j]? = some (.int .u32 (SW.getD j 0)) := by
  intro j hj
  rw [hC]
  simp [u32s, List.getD, show j < SW.length by omega]
 rw [← hC]
 have ral := run_al w1
 have rst := run_st (w1.alloc (.cells (cells64 []) 247)) w1.heap.size (cells64 []) C rfl hsz hall (Blk.new _ _ _)
 rw [World.setRow_alloc_new] at rst
 have k0 : w1.cell? ⟨H, 0, none⟩ = some (.int .u32 s.a) := hH1.cell 0
 have k1 : w1.cell? ⟨H, 1, none⟩ = some (.int .u32 s.b) := hH1.cell 1
 have k2 : w1.cell? ⟨H, 2, none⟩ = some (.int .u32 s.c) := hH1.cell 2
 have k3 : w1.cell? ⟨H, 3, none⟩ = some (.int .u32 s.d) := hH1.cell 3
 have k4 : w1.cell? ⟨H, 4, none⟩ = some (.int .u32 s.e) := hH1.cell 4
 have k5 : w1.cell? ⟨H, 5, none⟩ = some (.int .u32 s.f) := hH1.cell 5
 have k6 : w1.cell? ⟨H, 6, none⟩ = some (.int .u32 s.g) := hH1.cell 6
 have k7 : w1.cell? ⟨H, 7, none⟩ = some (.int .u32 s.h) := hH1.cell 7
 have hH1lt : H < w1.heap.size := by omega
 clear hcl
 have HCg := Lib.hid hCget
 have HRt := Lib.hid hroots1
 clear hCget hroots1 hroots hrow hC hSW
 go_wp2_with fail
 have hH2 : Blk ((w1.alloc (.cells C 247)).alloc (.cells s.cells 172)) H 174 (hcells s rest total (.slice (some ⟨rb, 0, none⟩) 64 rcap)) := (hH1.alloc _).alloc _
 have hW2 : Blk ((w1.alloc (.cells C 247)).alloc (.cells s.cells 172)) w1.heap.size 247 C := (Blk.new _ _ _).alloc _
 have hN2 : Blk ((w1.alloc (.cells C 247)).alloc (.cells s.cells 172)) (w1.heap.size + 1) 172 s.cells := by
  have h := Blk.new (w1.alloc (.cells C 247)) 172 s.cells
  simpa using h
 have hb2 : Below w1.heap.size w1 ((w1.alloc (.cells C 247)).alloc (.cells s.cells 172)) := ((Below.refl _ _).alloc (Nat.le_refl _) _).alloc (by simp) _
 clear k0 k1 k2 k3 k4 k5 k6 k7 ral rst
 go_loopw [18, 6, 7, 8, 9, 10] (fun i _ _ _ _ _ wr => ∃ k : Nat, k ≤ 64 ∧ i = .int .i64 (k : Int) ∧ Blk wr (w1.heap.size + 1) 172 (rounds roots SW k s).cells ∧ Blk wr w1.heap.size 247 C ∧ Blk wr H 174 (hcells s rest total (.slice (some ⟨rb, 0, none⟩) 64 rcap)) ∧ Below w1.heap.size w1 wr) (fun i _ _ _ _ _ _ => 64 - (intOf i).toNat)
 case atStart => exact ⟨0, by omega, rfl, hN2, hW2, hH2, hb2⟩
 case round =>
  obtain ⟨k, hk, rfl, hN, hW, hHr, hbl⟩ := hrel
  have hok := rounds_ok roots SW k s hs
  by_cases hlt : k < 64
  ·have hrnd : rounds roots SW (k + 1) s = rnd (roots.getD k 0) (SW.getD k 0) (rounds roots SW k s) := rfl
   generalize rounds roots SW k s = t at *
   have E0 : CEnv H w1.heap.size (w1.heap.size + 1) rb t (.slice (some ⟨rb, 0, none⟩) 64 rcap) (roots.getD k 0) (SW.getD k 0) k wr :=
    ⟨hN.cell 0, hN.cell 1, hN.cell 2, hN.cell 3, hN.cell 4, hN.cell 5, hN.cell 6, hN.cell 7, hHr.cell 10,
     (hbl.cell (p := ⟨rb, k, none⟩) (by show rb < w1.heap.size; omega)).trans (HRt.out k hlt), (hW.cell k).trans (HCg.out k hlt)⟩
   have e64 : (k : Int) < 64 := by omega
   generalize roots.getD k 0 = r at *
   generalize SW.getD k 0 = x at *
   have hXd : xw r x t = (t.h + big1 t.e + chw t.e t.f t.g + r + x) % 4294967296 := rfl
   have hYd : yw t = (big0 t.a + majw t.a t.b t.c) % 4294967296 := rfl
   have hRd : rnd r x t = ⟨(xw r x t + yw t) % 4294967296, t.a, t.b, t.c, (t.d + xw r x t) % 4294967296, t.e, t.f, t.g⟩ := rfl
   have l1 : bits .xor .u32 (bits .xor .u32 (rotr t.e 6) (rotr t.e 11)) (rotr t.e 25) = big1 t.e := rfl
   have l2 : bits .xor .u32 (if IntKind.u32.signed = true then -1 else IntKind.u32.max) t.e = notw t.e := rfl
   have l3 : bits .xor .u32 (bits .and .u32 t.e t.f) (bits .and .u32 (notw t.e) t.g) = chw t.e t.f t.g := rfl
   have l4 : bits .xor .u32 (bits .xor .u32 (rotr t.a 2) (rotr t.a 13)) (rotr t.a 22) = big0 t.a := rfl
   have l5 : bits .xor .u32 (bits .xor .u32 (bits .and .u32 t.a t.b) (bits .and .u32 t.a t.c)) (bits .and .u32 t.b t.c) = majw t.a t.b t.c := rfl
   generalize big1 t.e = B1 at *
   generalize notw t.e = NE at *
   generalize chw t.e t.f t.g = CH at *
   generalize big0 t.a = B0 at *
   generalize majw t.a t.b t.c = MJ at *
   generalize xw r x t = X at *
   generalize yw t = Y at *
   have HX := Lib.hid (show ((t.h + B1 + CH + r) % 4294967296 + x) % 4294967296 = X by rw [hXd]; omega)
   have HY := Lib.hid hYd.symm
   rw [hRd] at hrnd
   clear hXd hYd hRd
   have HN := Lib.hid hN
   have HW := Lib.hid hW
   have HHr := Lib.hid hHr
   have HRN := Lib.hid hrnd
   have HBL := Lib.hid hbl
   clear hN hW hHr hrnd hbl hH2 hW2 hN2 hb2 hH1 hH
   obtain ⟨ca, cb, cc, cd, ce, cf, cg, ch, cl, cr, cx⟩ := E0
   obtain ⟨oa, ob, oc, od, oe, of_, og, oh⟩ := hok
   go_wp2_with fail
   go_quiet (fail)
   generalize hq : wr.drewN nq = wq
   have E1 : CEnv H w1.heap.size (w1.heap.size + 1) rb t (.slice (some ⟨rb, 0, none⟩) 64 rcap) r x k wq := hq ▸ (CEnv.mk ca cb cc cd ce cf cg ch cl cr cx).drewN nq
   have HQ := Lib.hid hq
   clear ca cb cc cd ce cf cg ch cl cr cx hq
   obtain ⟨ca, cb, cc, cd, ce, cf, cg, ch, cl, cr, cx⟩ := E1
   go_wp2_with fail
   go_quiet (first
    | (go_at_call 176; exact Calls.quiet_of_same (turn_st t.e 6 6 rfl oe.1 oe.2 (by omega) (by omega) _))
    | (go_at_call 176; exact Calls.quiet_of_same (turn_st t.e 11 11 rfl oe.1 oe.2 (by omega) (by omega) _))
    | (go_at_call 176; exact Calls.quiet_of_same (turn_st t.e 25 25 rfl oe.1 oe.2 (by omega) (by omega) _)))
   generalize hq2 : wq.drewN nq = wq2
   have E2 : CEnv H w1.heap.size (w1.heap.size + 1) rb t (.slice (some ⟨rb, 0, none⟩) 64 rcap) r x k wq2 := hq2 ▸ (CEnv.mk ca cb cc cd ce cf cg ch cl cr cx).drewN nq
   have HQ2 := Lib.hid hq2
   clear ca cb cc cd ce cf cg ch cl cr cx hq2
   obtain ⟨ca, cb, cc, cd, ce, cf, cg, ch, cl, cr, cx⟩ := E2
   go_wp2_with fail
   go_quiet (first
    | (go_at_call 176; exact Calls.quiet_of_same (turn_st t.a 2 2 rfl oa.1 oa.2 (by omega) (by omega) _))
    | (go_at_call 176; exact Calls.quiet_of_same (turn_st t.a 13 13 rfl oa.1 oa.2 (by omega) (by omega) _))
    | (go_at_call 176; exact Calls.quiet_of_same (turn_st t.a 22 22 rfl oa.1 oa.2 (by omega) (by omega) _)))
   generalize hq3 : wq2.drewN nq = wq3
   have E3 : CEnv H w1.heap.size (w1.heap.size + 1) rb t (.slice (some ⟨rb, 0, none⟩) 64 rcap) r x k wq3 := hq3 ▸ (CEnv.mk ca cb cc cd ce cf cg ch cl cr cx).drewN nq
   have HQ3 := Lib.hid hq3
   clear ca cb cc cd ce cf cg ch cl cr cx hq3 l1 l2 l3 l4 l5
   obtain ⟨ca, cb, cc, cd, ce, cf, cg, ch, cl, cr, cx⟩ := E3
   have HN3 : Blk wq3 (w1.heap.size + 1) 172 t.cells := HQ3.out ▸ (HQ2.out ▸ (HQ.out ▸ HN.out.drewN _).drewN _).drewN _
   have HW3 := Lib.hid (show Blk wq3 w1.heap.size 247 C from HQ3.out ▸ (HQ2.out ▸ (HQ.out ▸ HW.out.drewN _).drewN _).drewN _)
   have HH3 := Lib.hid (show Blk wq3 H 174 (hcells s rest total (.slice (some ⟨rb, 0, none⟩) 64 rcap)) from HQ3.out ▸ (HQ2.out ▸ (HQ.out ▸ HHr.out.drewN _).drewN _).drewN _)
   have HB3 := Lib.hid (show Below w1.heap.size w1 wq3 from HQ3.out ▸ below_drewN (HQ2.out ▸ below_drewN (HQ.out ▸ below_drewN HBL.out _) _) _)
   have z0 := HN3.frozen 0; have z1 := HN3.frozen 1; have z2 := HN3.frozen 2; have z3 := HN3.frozen 3
   have z4 := HN3.frozen 4; have z5 := HN3.frozen 5; have z6 := HN3.frozen 6; have z7 := HN3.frozen 7
   replace HN3 := Lib.hid HN3
   rw [HX.out, HY.out]
   clear HQ HQ2 HQ3 HN HW HHr HBL cl cr cx
   go_wp2_with fail
   go_roundw
   case rel =>
    refine ⟨k + 1, by omega, by go_num, ?_, ?_, ?_, ?_⟩
    ·rw [HRN.out, ← cells_set t]
     exact (((((((HN3.out.set_ 0 _).set_ 1 _).set_ 2 _).set_ 3 _).set_ 4 _).set_ 5 _).set_ 6 _).set_ 7 _
    ·exact (((((((HW3.out.far (by simp) _).far (by simp) _).far (by simp) _).far (by simp) _).far (by simp) _).far (by simp) _).far (by simp) _).far (by simp) _
    ·exact (((((((HH3.out.far (by simp; omega) _).far (by simp; omega) _).far (by simp; omega) _).far (by simp; omega) _).far (by simp; omega) _).far (by simp; omega) _).far (by simp; omega) _).far (by simp; omega) _
    ·exact (((((((HB3.out.setCell (by simp) _).setCell (by simp) _).setCell (by simp) _).setCell (by simp) _).setCell (by simp) _).setCell (by simp) _).setCell (by simp) _).setCell (by simp) _
   case measure => simp [intOf]; omega
  ·have e64 : ¬ ((k : Int) < 64) := by omega
   have hk64 : rounds roots SW k s = rounds roots SW 64 s := by rw [show k = 64 by omega]
   rw [hk64] at hN
   have HB4 := Lib.hid hbl
   obtain ⟨t, ht⟩ : ∃ t, t = rounds roots SW 64 s := ⟨_, rfl⟩
   rw [← ht] at hN
   have HT := Lib.hid ht
   clear ht
   clear hk64 hbl hH2 hW2 hN2 hb2
   have hb4 : Below H w wr := (hb1.mono (by omega)).trans (HB4.out.mono (by omega))
   have hk4 : Keep H w wr := fun j hj _ => (HB4.out.block j (by omega)).trans (hb1.block j hj)
   have hlN : w1.heap.size + 1 ≠ H := by omega
   have HNH := Lib.hid hlN
   clear hW HB4 hb1 hlN
   go_wp2_with fail
   go_loopw [104, 11] (fun i _ wr => ∃ k : Nat, k ≤ 8 ∧ i = .int .i64 (k : Int) ∧ Blk wr (w1.heap.size + 1) 172 t.cells ∧ Blk wr H 174 (hcells (part s t k) rest total (.slice (some ⟨rb, 0, none⟩) 64 rcap)) ∧ Below H w wr ∧ Keep H w wr) (fun i _ _ => 8 - (intOf i).toNat)
   case atStart => exact ⟨0, by omega, rfl, hN, hHr, hb4, hk4⟩
   case round =>
    rename_i wr0 _
    obtain ⟨k, hk, rfl, hN, hHr, hbl, hke⟩ := hrel
    by_cases hlt : k < 8
    ·have e8 : (k : Int) < 8 := by omega
     have hP := Lib.hid (part_set s t rest total (.slice (some ⟨rb, 0, none⟩) 64 rcap) k hlt)
     have cu := (hHr.cell k).trans (part_get s t rest total (.slice (some ⟨rb, 0, none⟩) 64 rcap) k hlt)
     have cv := (hN.cell k).trans (cells_get t k hlt)
     generalize s.list.getD k 0 = u at *
     generalize t.list.getD k 0 = v at *
     obtain ⟨z, hz⟩ : ∃ z : Int, z = (u + v) % 4294967296 := ⟨_, rfl⟩
     rw [← hz] at hP
     have hz' : IntKind.u32.wrap (u + v) = z := by rw [IntKind.wrap_u32', hz]
     clear hz
     have HN := Lib.hid hN
     have HHr := Lib.hid hHr
     have HBL := Lib.hid hbl
     have HKE := Lib.hid hke
     clear hN hHr hbl hke hb4 hk4
     go_wp2_with fail
     go_still_tail 13, (by kernel_rfl)
     change wpList _ _ _ _ _ wr.drew
     generalize hw3 : wr.drew = w3
     have HN3 := Lib.hid (show Blk w3 (w1.heap.size + 1) 172 t.cells from hw3 ▸ HN.out.drew)
     have hH3 : Blk w3 H 174 (hcells (part s t k) rest total (.slice (some ⟨rb, 0, none⟩) 64 rcap)) := hw3 ▸ HHr.out.drew
     have HB3 := Lib.hid (show Below H w w3 from hw3 ▸ HBL.out.drew)
     have HK3 := Lib.hid (show Keep H w w3 from hw3 ▸ HKE.out)
     have c3 : w3.cell? ⟨H, k, none⟩ = some (.int .u32 u) := hw3 ▸ cu
     have f3 := hH3.frozen k
     have HH3 := Lib.hid hH3
     clear hH3 hw3 cu cv HN HHr HBL HKE hz'
     go_wp2_with fail
     go_roundw
     case rel =>
      refine ⟨k + 1, by omega, by go_num, HN3.out.far (by simpa using HNH.out) _, ?_, HB3.out.setCell (by simp) _, HK3.out.set_ k _⟩
      rw [← hP.out]
      exact HH3.out.set_ _ _
     case measure => simp [intOf]; omega
    ·have hk8 : k = 8 := by omega
     rw [hk8, part_full] at hHr
     have e8 : ¬ ((k : Int) < 8) := by omega
     have hcm : addSt s t = comp roots b s := by rw [HT.out, HSW.out]; rfl
     rw [hcm] at hHr
     clear hk8 hN
     go_wp2_with fail
     go_end0
     exact ⟨rfl, hHr, hbl, hke⟩
end Sha
end Go.Proofs.YtnbkhdbligjifaaGreatDoor
