/-
 The walks of package sha: the words of a block, the change by a block.
-/
import Derived.Test.YtnbkhdbligjifaaGreatDoorShaSched
import Derived.StillTailTactics
import Derived.Deep.QuietTactic
import Derived.BigQuiet
set_option linter.unusedVariables false
set_option linter.unusedSimpArgs false
set_option maxRecDepth 100000
set_option maxHeartbeats 40000000
namespace Go.Proofs.YtnbkhdbligjifaaGreatDoor
open Go.RowKit
namespace Sha
def ldSem (ty : TypeId) (p : Value) : Sem Value := Instr.loadAt ty p
def stSem (ty : TypeId) (p v : Value) : Sem Unit := Instr.storeAt ty p v
theorem ld_eq (p : Value) : Instr.loadAt 247 p = ldSem 247 p := rfl
theorem st_eq (p v : Value) : Instr.storeAt 247 p v = stSem 247 p v := rfl
attribute [local go_sem ↓] ld_eq st_eq
theorem size64 : (Tryz.prog.info? 247).map (·.size) = some 64 := by kernel_rfl
theorem run_ld (w : World) (g : Nat) (cs : Array Value) (hs : cs.size = 64) (h : Blk w g 247 cs) : (ldSem 247 (.pointer (some ⟨g, 0, none⟩))).run Tryz.prog w = .ok (.agg cs) w := by
 unfold ldSem
 simp only [Instr.loadAt, Instr.sureAddr, Sem.run_bind, Sem.run_pure, Result.andThen]
 exact run_loadVar_row w g _ _ cs (0, 0) _ h Tryz.underlying247 rfl (by rw [hs]; exact size64)
theorem run_st (w : World) (g : Nat) (old cs : Array Value) (ho : old.size = 64) (hs : cs.size = 64) (h1 : cs.all (·.oneCell') = true) (h : Blk w g 247 old) :
 (stSem 247 (.pointer (some ⟨g, 0, none⟩)) (.agg cs)).run Tryz.prog w = .ok () (w.setRow g cs) := by
 unfold stSem
 simp only [Instr.storeAt, Instr.sureAddr, Sem.run_bind, Sem.run_pure, Result.andThen]
 exact run_storeVar_row w g _ _ old cs h (by rw [hs]; exact size64) (by rw [ho, hs]) h1
theorem Blk.setRow {w : World} {g : Nat} {t : TypeId} {old cs : Array Value} (h : Blk w g t old) : Blk (w.setRow g cs) g t cs := by
 unfold Blk at h ⊢
 simp [World.setRow, Array.getElem?_modify, h]
theorem below_setRow {B g : Nat} {a w : World} (h : Below B a w) (hg : B ≤ g) (cs : Array Value) : Below B a (w.setRow g cs) := by
 refine h.trans ⟨rfl, rfl, rfl, by simp [World.setRow], fun k hk => ?_⟩
 simp only [World.setRow, Array.getElem?_modify]
 rw [if_neg (by omega)]
theorem turn_st (x : Int) (k : Nat) (K : Int) (hK : K = (k : Int)) (h0 : 0 ≤ x) (h1 : x < 4294967296) (hn : 1 ≤ k) (hn' : k ≤ 31) (w : World) :
 Calls Tryz.prog 176 #[.int .u32 x, .int .i64 K] w fun e w' => e = .returned (.int .u32 (rotr x k)) ∧ w' = w := by
 subst hK
 exact (turn_any x k h0 h1 hn hn' w).mono fun _ _ ⟨h1, h2⟩ => ⟨h1, h2.symm⟩
theorem words_any (b : List UInt8) (g o cap : Nat) (_hb : b.length = 64) (w : World) (hgw : g < w.heap.size) (hrow : ∀ j, j < 64 → w.cell? ⟨g, o + j, none⟩ = some (.int .u8 (at8 b j))) :
 Calls Tryz.prog 175 #[.slice (some ⟨g, o, none⟩) 64 cap] w fun e w' => e = .returned (.agg (u32s (sched b)).toArray) ∧ Below w.heap.size w w' := by
 go_enter Tryz.func175, Tryz.ntmps175
 go_wp2_with fail
 have hw1 : w.heap.size < (w.alloc (.cells (cells64 []) 247)).heap.size := by simp
 have hblk : Blk ((w.alloc (.cells (cells64 []) 247)).alloc (.cells (cells64 []) 247)) (w.heap.size + 1) 247 (cells64 []) := by
  have h := Blk.new (w.alloc (.cells (cells64 []) 247)) 247 (cells64 [])
  simpa using h
 have hres : Blk ((w.alloc (.cells (cells64 []) 247)).alloc (.cells (cells64 []) 247)) w.heap.size 247 (cells64 []) := (Blk.new w 247 (cells64 [])).alloc _
 obtain ⟨old, hold⟩ : ∃ o, o = cells64 [] := ⟨_, rfl⟩
 have hosz : old.size = 64 := by rw [hold]; rfl
 have hbel : Below w.heap.size w ((w.alloc (.cells (cells64 []) 247)).alloc (.cells (cells64 []) 247)) := ((Below.refl _ _).alloc (Nat.le_refl _) _).alloc (by simp) _
 go_loopw [8, 4] (fun i _ wr => ∃ k : Nat, k ≤ 16 ∧ i = .int .i64 (k : Int) ∧ Blk wr (w.heap.size + 1) 247 (cells64 (headW b k)) ∧ Blk wr w.heap.size 247 old ∧ Below w.heap.size w wr) (fun i _ _ => 16 - (intOf i).toNat)
 case atStart => exact ⟨0, by omega, rfl, hblk, hold ▸ hres, hbel⟩
 case round =>
  obtain ⟨k, hk, rfl, hB, hR, hbl⟩ := hrel
  by_cases hlt : k < 16
  ·go_wp2_with fail
   have hc : ∀ j, j < 64 → wr.cell? ⟨g, o + j, none⟩ = some (.int .u8 (at8 b j)) := fun j hj => (hbl.cell (p := ⟨g, o + j, none⟩) hgw).trans (hrow j hj)
   obtain ⟨j0, hj0⟩ : ∃ j : Int, j = 4 * (k : Int) := ⟨_, rfl⟩
   obtain ⟨j1, hj1⟩ : ∃ j : Int, j = j0 + 1 := ⟨_, rfl⟩
   obtain ⟨j2, hj2⟩ : ∃ j : Int, j = j0 + 2 := ⟨_, rfl⟩
   obtain ⟨j3, hj3⟩ : ∃ j : Int, j = j0 + 3 := ⟨_, rfl⟩
   have q0 : IntKind.i64.wrap (4 * (k : Int)) = j0 := by rw [IntKind.wrap_i64]; omega
   have q1 : IntKind.i64.wrap (j0 + 1) = j1 := by rw [IntKind.wrap_i64]; omega
   have q2 : IntKind.i64.wrap (j0 + 2) = j2 := by rw [IntKind.wrap_i64]; omega
   have q3 : IntKind.i64.wrap (j0 + 3) = j3 := by rw [IntKind.wrap_i64]; omega
   have c0 := hc (4 * k) (by omega)
   have c1 := hc (4 * k + 1) (by omega)
   have c2 := hc (4 * k + 2) (by omega)
   have c3 := hc (4 * k + 3) (by omega)
   have hW := word_or (at8 b (4 * k)) (at8 b (4 * k + 1)) (at8 b (4 * k + 2)) (at8 b (4 * k + 3)) (at8_pos _ _) (at8_lt _ _) (at8_pos _ _) (at8_lt _ _) (at8_pos _ _) (at8_lt _ _) (at8_pos _ _) (at8_lt _ _)
   replace hW := hW.trans (show _ = wd b k from rfl)
   generalize at8 b (4 * k) = y0 at *
   generalize at8 b (4 * k + 1) = y1 at *
   generalize at8 b (4 * k + 2) = y2 at *
   generalize at8 b (4 * k + 3) = y3 at *
   rw [show 4 * k = j0.toNat by omega] at c0
   rw [show 4 * k + 1 = j1.toNat by omega] at c1
   rw [show 4 * k + 2 = j2.toNat by omega] at c2
   rw [show 4 * k + 3 = j3.toNat by omega] at c3
   have e0 : (k : Int) < 64 := by omega
   have HS := Lib.hid (headW_succ b k)
   have HL := Lib.hid (headW_length b k)
   generalize wd b k = x at *
   generalize headW b k = L at *
   have b0 : 0 ≤ j0 := by omega
   have b1 : 0 ≤ j1 := by omega
   have b2 : 0 ≤ j2 := by omega
   have b3 : 0 ≤ j3 := by omega
   have d0 : j0 < 64 := by omega
   have d1 : j1 < 64 := by omega
   have d2 : j2 < 64 := by omega
   have d3 : j3 < 64 := by omega
   clear hrow hc hj1 hj2 hj3 hj0 hblk hbel
   go_still_tail 35, (by kernel_rfl)
   change wpList _ _ _ _ _ wr.drew
   generalize hw3 : wr.drew = w3
   have hB3 : Blk w3 (w.heap.size + 1) 247 (cells64 L) := hw3 ▸ hB.drew
   have hL := HL.out
   have z3 : w3.cell? ⟨w.heap.size + 1, k, none⟩ = some (.int .u32 0) := by rw [← hL]; exact (hB3.cell _).trans (cells64_zero L (by omega))
   have f3 := hB3.frozen k
   have HB3 := Lib.hid hB3
   have HR3 := Lib.hid (show Blk w3 w.heap.size 247 old from hw3 ▸ hR.drew)
   have hbl3 : Below w.heap.size w w3 := hw3 ▸ hbl.drew
   clear hR
   clear hL hB3 hw3 hB hbl c0 c1 c2 c3 hW
   go_wp2_with fail
   go_roundw
   case rel =>
    refine ⟨k + 1, by omega, by go_num, ?_, HR3.out.far (by simp) _, hbl3.setCell (p := ⟨w.heap.size + 1, k, none⟩) (by simp) _⟩
    rw [HS.out, ← cells64_set L x (by rw [HL.out]; omega), HL.out]
    exact HB3.out.set_ _ _
   case measure => simp [intOf]; omega
  ·have hk16 : k = 16 := by omega
   subst hk16
   go_wp2_with fail
   go_loopw [5] (fun i wr => ∃ (k : Nat) (l : List Int), 16 ≤ k ∧ k ≤ 64 ∧ l.length = k ∧ i = .int .i64 (k : Int) ∧ Small l ∧ growW (64 - k) l = sched b ∧ Blk wr (w.heap.size + 1) 247 (cells64 l) ∧ Blk wr w.heap.size 247 old ∧ Below w.heap.size w wr) (fun i _ => 64 - (intOf i).toNat)
   case atStart => exact ⟨16, headW b 16, by omega, by omega, headW_length b 16, rfl, headW_small b 16, rfl, hB, hR, hbl⟩
   case round =>
    obtain ⟨k, l, hk16, hk, hl, rfl, hsm, hgr, hB, hR, hbl⟩ := hrel
    by_cases hlt : k < 64
    ·obtain ⟨j15, h15⟩ : ∃ j : Int, j = (k : Int) - 15 := ⟨_, rfl⟩
     obtain ⟨j2, h2⟩ : ∃ j : Int, j = (k : Int) - 2 := ⟨_, rfl⟩
     obtain ⟨j16, h16⟩ : ∃ j : Int, j = (k : Int) - 16 := ⟨_, rfl⟩
     obtain ⟨j7, h7⟩ : ∃ j : Int, j = (k : Int) - 7 := ⟨_, rfl⟩
     have q15 : IntKind.i64.wrap ((k : Int) - 15) = j15 := by rw [IntKind.wrap_i64]; omega
     have q2 : IntKind.i64.wrap ((k : Int) - 2) = j2 := by rw [IntKind.wrap_i64]; omega
     have q16 : IntKind.i64.wrap ((k : Int) - 16) = j16 := by rw [IntKind.wrap_i64]; omega
     have q7 : IntKind.i64.wrap ((k : Int) - 7) = j7 := by rw [IntKind.wrap_i64]; omega
     have b15 : 0 ≤ j15 := by omega
     have b2 : 0 ≤ j2 := by omega
     have b16 : 0 ≤ j16 := by omega
     have b7 : 0 ≤ j7 := by omega
     have d15 : j15 < 64 := by omega
     have d2 : j2 < 64 := by omega
     have d16 : j16 < 64 := by omega
     have d7 : j7 < 64 := by omega
     have e0 : (k : Int) < 64 := by omega
     have hcell : ∀ j : Int, 0 ≤ j → j < (k : Int) → wr.cell? ⟨w.heap.size + 1, j.toNat, none⟩ = some (.int .u32 (l.getD j.toNat 0)) := fun j h0 h1 => (hB.cell _).trans (cells64_get l j.toNat (by omega))
     have c15 := hcell j15 b15 (by omega)
     have c2 := hcell j2 b2 (by omega)
     have c16 := hcell j16 b16 (by omega)
     have c7 := hcell j7 b7 (by omega)
     have hN : nextW l = (l.getD j16.toNat 0 + l.getD j7.toNat 0 + s0 (l.getD j15.toNat 0) + s1 (l.getD j2.toNat 0)) % 4294967296 := by
      rw [nextW, hl, show k - 16 = j16.toNat by omega, show k - 7 = j7.toNat by omega, show k - 15 = j15.toNat by omega, show k - 2 = j2.toNat by omega]
     have m15 := hsm.get j15.toNat
     have m2 := hsm.get j2.toNat
     have hgr2 : growW (64 - (k + 1)) (l ++ [nextW l]) = sched b := by
      rw [show 64 - k = (64 - (k + 1)) + 1 by omega, growW] at hgr; exact hgr
     have hsm2 := Lib.hid (hsm.snoc (nextW_range l).1 (nextW_range l).2)
     have HG := Lib.hid hgr2
     generalize l.getD j15.toNat 0 = xa at *
     generalize l.getD j2.toNat 0 = xb at *
     generalize l.getD j16.toNat 0 = xc at *
     generalize l.getD j7.toNat 0 = xd at *
     obtain ⟨f1, hf1⟩ : ∃ f : Int, f = IntKind.u32.wrap (xc + xd) := ⟨_, rfl⟩
     obtain ⟨f2, hf2⟩ : ∃ f : Int, f = IntKind.u32.wrap (f1 + s0 xa) := ⟨_, rfl⟩
     have hf3 : IntKind.u32.wrap (f2 + s1 xb) = nextW l := by
      rw [hN, hf2, hf1, IntKind.wrap_u32', IntKind.wrap_u32', IntKind.wrap_u32']; omega
     have hs0 : bits .xor .u32 (bits .xor .u32 (rotr xa 7) (rotr xa 18)) (xa / 8) = s0 xa := rfl
     have hs1 : bits .xor .u32 (bits .xor .u32 (rotr xb 17) (rotr xb 19)) (xb / 1024) = s1 xb := rfl
     generalize s0 xa = sa at *
     generalize s1 xb = sb at *
     generalize nextW l = x at *
     have HL := Lib.hid hl
     have t7 := fun (W : World) => turn_st xa 7 7 rfl m15.1 m15.2 (by omega) (by omega) W
     have t18 := fun (W : World) => turn_st xa 18 18 rfl m15.1 m15.2 (by omega) (by omega) W
     have t17 := fun (W : World) => turn_st xb 17 17 rfl m2.1 m2.2 (by omega) (by omega) W
     have t19 := fun (W : World) => turn_st xb 19 19 rfl m2.1 m2.2 (by omega) (by omega) W
     replace t7 := Lib.hid t7
     replace t18 := Lib.hid t18
     replace t17 := Lib.hid t17
     replace t19 := Lib.hid t19
     clear h15 h2 h16 h7 hN hgr hgr2 hsm hrow hblk hbel hl hcell
     have hf1' := hf1.symm
     have hf2' := hf2.symm
     clear hf1 hf2
     go_wp2_with fail
     go_quiet (fail)
     generalize hq : wr.drewN nq = wq
     have hB2 : Blk wq (w.heap.size + 1) 247 (cells64 l) := hq ▸ hB.drewN nq
     have hR2 : Blk wq w.heap.size 247 old := hq ▸ hR.drewN nq
     have hbl2 : Below w.heap.size w wq := hq ▸ below_drewN hbl nq
     have c16' : wq.cell? ⟨w.heap.size + 1, j16.toNat, none⟩ = some (.int .u32 xc) := hq ▸ c16
     have c7' : wq.cell? ⟨w.heap.size + 1, j7.toNat, none⟩ = some (.int .u32 xd) := hq ▸ c7
     clear hB hR hbl c15 c2 c16 c7 hq
     go_wp2_with fail
     refine wp_region_still_tail 29 (by kernel_rfl) (by kernel_rfl) ?_
     simp only [List.take_succ_cons, List.take_zero, List.drop_succ_cons, List.drop_zero]
     repeat (first
      | still_step
      | (refine wpStill_step (fun K hK => ?_)
         go_simp
         first
          | refine ⟨_, t7.out _, hK _ ?_⟩
          | refine ⟨_, t18.out _, hK _ ?_⟩
          | refine ⟨_, t17.out _, hK _ ?_⟩
          | refine ⟨_, t19.out _, hK _ ?_⟩
         clear hK K))
     try refine wpStill_nil ?_
     change wpList _ _ _ _ _ wq.drew
     generalize hw3 : wq.drew = w3
     have hB3 : Blk w3 (w.heap.size + 1) 247 (cells64 l) := hw3 ▸ hB2.drew
     have HR3 := Lib.hid (show Blk w3 w.heap.size 247 old from hw3 ▸ hR2.drew)
     have hL := HL.out
     have z3 : w3.cell? ⟨w.heap.size + 1, k, none⟩ = some (.int .u32 0) := by rw [← hL]; exact (hB3.cell _).trans (cells64_zero l (by omega))
     have f3 := hB3.frozen k
     have HB3 := Lib.hid hB3
     have hbl3 : Below w.heap.size w w3 := hw3 ▸ hbl2.drew
     clear hL hB3 hw3 hB2 hR2 hbl2 c16' c7' hs0 hs1
     go_wp2_with fail
     refine ⟨?_, ?measure⟩
     (repeat apply Exists.intro)
     refine ⟨?rel, rfl⟩
     case rel =>
      refine ⟨k + 1, l ++ [x], by omega, by omega, by simp [HL.out], by go_num, hsm2.out, HG.out, ?_, HR3.out.far (by simp) _, hbl3.setCell (p := ⟨w.heap.size + 1, k, none⟩) (by simp) _⟩
      rw [← cells64_set l x (by rw [HL.out]; omega), HL.out]
      exact HB3.out.set_ _ _
     case measure => simp [intOf]; omega
    ·have hS : l = sched b := by
      have e : 64 - k = 0 := by omega
      rw [e] at hgr
      exact hgr
     have t1 : ¬ ((k : Int) < 64) := by omega
     have hsz : (cells64 l).size = 64 := by simp [cells64, u32s]; omega
     have hall : (cells64 l).all (·.oneCell') = true := by
      simp only [cells64, u32s, Array.all_eq_true_iff_forall_mem, List.mem_toArray, List.mem_append, List.mem_map]
      rintro x (⟨y, _, rfl⟩ | hx)
      ·rfl
      ·rw [List.eq_of_mem_replicate hx]; rfl
     have hc64 : cells64 l = (u32s (sched b)).toArray := by
      rw [← hS, cells64, hl, show 64 - k = 0 by omega]; simp
     have rl := run_ld wr (w.heap.size + 1) (cells64 l) hsz hB
     have rs := run_st wr w.heap.size old (cells64 l) hosz hsz hall hR
     have hR2 : Blk (wr.setRow w.heap.size (cells64 l)) w.heap.size 247 (cells64 l) := Blk.setRow hR
     have HC := Lib.hid hc64
     have HS := Lib.hid hS
     generalize cells64 l = C at *
     have HR2 := Lib.hid hR2
     clear hgr hc64 hS hsm hB hR2
     go_wp2_with fail
     refine bodyPost_ret (results_cell_row rfl _ _ w.heap.size 247 C (0, 0) _ rfl HR2.out Tryz.underlying247 rfl (by rw [hsz]; exact size64)) rfl ?_
     exact ⟨by rw [HC.out], below_setRow hbl (Nat.le_refl _) _⟩
end Sha
end Go.Proofs.YtnbkhdbligjifaaGreatDoor
