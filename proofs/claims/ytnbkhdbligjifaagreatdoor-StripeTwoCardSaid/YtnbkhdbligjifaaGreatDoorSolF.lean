/-
 Elimination: the walk.
-/
import Derived.Test.YtnbkhdbligjifaaGreatDoorSolE
import Derived.WalkMore
set_option linter.unusedVariables false
set_option linter.unusedSimpArgs false
set_option maxRecDepth 100000
set_option maxHeartbeats 40000000
namespace Go.Proofs.YtnbkhdbligjifaaGreatDoor
open Go Go.RowKit
namespace Sol
structure DI (w : World) (base fb Fb : Nat) (v : Value) (N L : Nat) (F : Nat → Nat → Nat) (R C : Nat → Nat) (W : World) : Prop where
 fp : W.cell? ⟨fb, 0, none⟩ = some (.pointer (some ⟨Fb, 0, none⟩))
 fld : Fld.At W Fb
 mat : Mat W base v N L R C F
 lt : ∀ i, i < N → R i < w.heap.size
 bel : Below base w W
theorem DI.ext {w W W' : World} {base fb Fb : Nat} {v : Value} {N L : Nat} {F : Nat → Nat → Nat} {R C : Nat → Nat} (h : DI w base fb Fb v N L F R C W) (hb : base ≤ w.heap.size) (hE : Stab.Ext W W') : DI w base fb Fb v N L F R C W' :=
 ⟨hE.cell h.fp, h.fld.ext hE, h.mat.ext hE, h.lt, h.bel.trans (Below.mono hE (Nat.le_trans hb h.bel.size))⟩
theorem below_fr {base : Nat} {w W W' : World} {O : List Nat} (h : Below base w W) (hw : base ≤ w.heap.size) (hf : Vm.Fr O W W') (hO : ∀ k, k ∈ O → base ≤ k) : Below base w W' :=
 ⟨hf.os.trans h.os, hf.tape.trans h.tape, hf.output.trans h.output, Nat.le_trans h.size hf.size, fun k hk => (hf.block k (Nat.lt_of_lt_of_le hk (Nat.le_trans hw h.size)) fun hm => by have := hO k hm; omega).trans (h.block k hk)⟩
theorem DI.step {w W W' : World} {base fb Fb : Nat} {v : Value} {N L : Nat} {F F2 : Nat → Nat → Nat} {R C R2 C2 : Nat → Nat} (h : DI w base fb Fb v N L F R C W) (hb : base ≤ w.heap.size) {k : Nat} (hk : k < w.heap.size) (hbk : base ≤ k) (hfb : w.heap.size ≤ fb) (hFb : w.heap.size ≤ Fb) (hfr : Vm.Fr [k] W W')
 (hm : Mat W' base v N L R2 C2 F2) (hlt : ∀ i, i < N → R2 i < w.heap.size) : DI w base fb Fb v N L F2 R2 C2 W' where
 fp := (World.cell?_of_block (a := ⟨fb, 0, none⟩) (hfr.block fb (Spr.lt_cell h.fp) (by simp; omega))).trans h.fp
 fld := at_keep h.fld (hfr.block Fb (at_lt h.fld) (by simp; omega))
 mat := hm
 lt := hlt
 bel := below_fr h.bel hb hfr (by simpa using hbk)
theorem copy_mid {w : World} {base g N cap L : Nat} {R C : Nat → Nat} {F : Nat → Nat → Nat} (h : Mat w base (.slice (some ⟨g, 0, none⟩) N cap) N L R C F) {d p d1 p1 : Nat} (hd : d ≤ p) (hp : p < N) (hN : N ≤ cap) (hd1 : d1 = d + 1) (hp1 : p1 = p + 1) (ty : TypeId) :
 (Builtin.copy_ #[132, 132] ty #[.slice (if cap = d1 then some ⟨g, 0, none⟩ else some ⟨g, d1, none⟩) (p1 - d1) (cap - d1), .slice (some ⟨g, d, none⟩) (p - d) (cap - d)]).run Tryz.prog w =
  .ok (goInt (p - d : Nat)) (w.setCells g (d + 1) (midV R C L d p)) := by
 subst hd1 hp1
 have hsz : (Tryz.prog.info? 136).map (·.size) = some 1 := by kernel_rfl
 rcases Nat.eq_or_lt_of_le hd with he | hlt
 ·subst he
  rw [run_copy_none w 132 132 ty 136 _ _ _ _ _ _ Tryz.underlying132 hsz (by simp)]
  simp [midV, World.setCells]
 ·have hl : (midV R C L d p).length = p - d := midV_len _ _ _ _ _
  rw [if_neg (by omega)]
  rw [run_copy_cells w 132 132 ty 136 g (d + 1) _ _ ⟨g, d, none⟩ _ _ (midV R C L d p) Tryz.underlying132 hsz (by rw [hl]; simp) (fun j v hv => by
   have hj : j < p - d := by rw [← hl]; exact (List.getElem?_eq_some_iff.1 hv).1
   have ha : (⟨g, d, none⟩ : Addr).add j = ⟨g, d + j, none⟩ := by unfold Addr.add; split <;> simp_all
   rw [midV_get _ _ _ hj] at hv
   rw [ha, (h.cell (show d + j < N by omega)).1, hv]) (fun j hj => by
   rw [hl] at hj
   rw [(h.cell (show d + 1 + j < N by omega)).1]; rfl) (fun j hj => by
   rw [hl] at hj
   exact (h.cell (show d + 1 + j < N by omega)).2) (midV_one _ _ _ _ _), hl]
theorem mid_out {w : World} {base g N cap L : Nat} {R C : Nat → Nat} {F : Nat → Nat → Nat} (h : Mat w base (.slice (some ⟨g, 0, none⟩) N cap) N L R C F) {d p : Nat} (hd : d < N) (cs : List Value) :
 ((w.setCells g (d + 1) cs).cell? ⟨g, d, none⟩).isSome = true ∧ (w.setCells g (d + 1) cs).frozen? ⟨g, d, none⟩ = false := by
 refine ⟨?_, ?_⟩
 ·rw [World.cell?_setCells_out g cs (d + 1) w ⟨g, d, none⟩ (fun _ _ => .inl (by simp)), (h.cell hd).1]; rfl
 ·rw [World.frozen?_setCells]; exact (h.cell hd).2
def midF (G : Nat → Nat → Nat) (d c z i : Nat) : Nat → Nat := if i = d then pivF G d c else if i < z then plusF (G i) (pivF G d c) (G i c) else G i
theorem midF_end {G : Nat → Nat → Nat} {d c N i : Nat} (hi : i < N) : midF G d c N i = elimF G d c i := by
 unfold midF elimF
 simp only [hi, if_true]
theorem midF_skip {G : Nat → Nat → Nat} {d c i : Nat} : midF G d c (d + 1) i = midF G d c d i := by
 unfold midF
 split
 ·rfl
 ·by_cases h : i < d
  ·rw [if_pos h, if_pos (by omega)]
  ·rw [if_neg h, if_neg (by omega)]
theorem midF_self {G : Nat → Nat → Nat} {d c z : Nat} (h : z ≠ d) : midF G d c z z = G z := by
 unfold midF
 rw [if_neg h, if_neg (Nat.lt_irrefl _)]
theorem midF_piv {G : Nat → Nat → Nat} {d c z : Nat} : midF G d c z d = pivF G d c := by
 unfold midF
 rw [if_pos rfl]
theorem midF_step {G : Nat → Nat → Nat} {d c z : Nat} (h : z ≠ d) (i : Nat) : (if i = z then plusF (G z) (pivF G d c) (G z c) else midF G d c z i) = midF G d c (z + 1) i := by
 by_cases h1 : i = z
 ·subst h1
  rw [if_pos rfl]
  unfold midF
  rw [if_neg h, if_pos (by omega)]
 ·rw [if_neg h1]
  unfold midF
  split
  ·rfl
  ·by_cases h2 : i < z
   ·rw [if_pos h2, if_pos (by omega)]
   ·rw [if_neg h2, if_neg (by omega)]
structure XRd (g z Rz Cz L q x : Nat) (W : World) : Prop where
 ct : W.cell? ⟨g, z, none⟩ = some (.slice (some ⟨Rz, 0, none⟩) L Cz)
 cx : W.cell? ⟨Rz, q, none⟩ = some (.int .u8 (x : Nat))
theorem XRd.ext {g z Rz Cz L q x : Nat} {W W' : World} (h : XRd g z Rz Cz L q x W) (hE : Stab.Ext W W') : XRd g z Rz Cz L q x W' := ⟨hE.cell h.ct, hE.cell h.cx⟩
def DownPost (w : World) (base : Nat) (v : Value) (N L : Nat) (F : Nat → Nat → Nat) (e : Ending) (w' : World) : Prop :=
 ∃ R C, e = .returned (.int .i64 ((downs N F L).1 : Nat)) ∧ Mat w' base v N L R C (downs N F L).2 ∧ Below base w w'
theorem down_any {w : World} {base : Nat} {v : Value} {N L : Nat} {R C : Nat → Nat} {F : Nat → Nat → Nat} (hM : Mat w base v N L R C F) (hB : Byt F N L) (hbase : base ≤ w.heap.size) (hN : 0 < N) (hN2 : N ≤ 1000) (hL : 0 < L) (hL2 : L ≤ 1000) :
 Calls Tryz.prog 180 #[v] w (DownPost w base v N L F) := by
 obtain ⟨g, cap, rfl, hgb, hgl, hcap⟩ := hM.form hN
 have HM := Lib.hid hM
 have HBY := Lib.hid hB
 have hRl : ∀ i, i < N → R i < w.heap.size := fun i hi => (hM.st i hi).lt
 have HRL := Lib.hid hRl
 have HNEW := Lib.hid fun w => Fld.new_at w
 clear hM hB hRl
 go_enter Tryz.func180, Tryz.ntmps180
 go_wp2_with fail
 go_step3
 go_wp2_with (go_at_call 139; with_reducible refine (HNEW.out _).mono ?_)
 rintro e w1 ⟨rfl, hF, hb⟩
 have hx1 := Stab.Ext.alloc w1 (.cells #[.pointer (some ⟨w.heap.size, 0, none⟩)] 212)
 have fx := Blk.new w1 212 #[.pointer (some ⟨w.heap.size, 0, none⟩)]
 have hbw := hb.size
 have hE1 : Stab.Ext w (w1.alloc (.cells #[.pointer (some ⟨w.heap.size, 0, none⟩)] 212)) := hb.trans (hx1.mono hbw)
 have hfl := at_lt hF
 have HDI := Lib.hid (show DI w base w1.heap.size w.heap.size (.slice (some ⟨g, 0, none⟩) N cap) N L F R C (w1.alloc (.cells #[.pointer (some ⟨w.heap.size, 0, none⟩)] 212)) from ⟨fx.cell 0, hF.ext hx1, HM.out.ext hE1, HRL.out, Below.mono hE1 hbase⟩)
 clear hF hb hx1 fx hE1
 go_wp2_with fail
 have hc0 := (HDI.out.mat.cell hN).1
 go_step3
 go_wp2_with fail
 go_loopw [6, 20] (fun d c wr => ∃ (q : Nat) (R' C' : Nat → Nat), q ≤ L ∧ c = .int .i64 (q : Int) ∧ d = .int .i64 ((downs N F q).1 : Int) ∧ (downs N F q).1 < N ∧ DI w base w1.heap.size w.heap.size (.slice (some ⟨g, 0, none⟩) N cap) N L (downs N F q).2 R' C' wr ∧ Byt (downs N F q).2 N L) (fun _ c _ => L - (intOf c).toNat)
 case atStart => exact ⟨0, R, C, by omega, rfl, rfl, hN, HDI.out, HBY.out⟩
 case round =>
  obtain ⟨q, R', C', hq, rfl, rfl, hd, hI, hby⟩ := hrel
  by_cases hlt : q < L
  ·rcases hs : downs N F q with ⟨d, G⟩
   rw [hs] at hd hI hby
   simp only at hd hI hby
   have hlt2 : (q : Int) < (L : Int) := by omega
   have HI := Lib.hid hI
   have HBX := Lib.hid hby
   have HS := Lib.hid hs
   clear hI hby hs
   go_wp2_with fail
   go_loopw [8] (fun a wx => ∃ p : Nat, d ≤ p ∧ p < N ∧ a = .int .i64 (p : Int) ∧ seek G q (N - d) d = seek G q (N - p) p ∧ Below wr.heap.size wr wx) (fun a _ => N - (intOf a).toNat)
   case atStart => exact ⟨d, Nat.le_refl _, hd, rfl, rfl, Below.refl _ _⟩
   case round =>
    obtain ⟨p, hdp, hpN, rfl, hsk, hbx⟩ := hrel
    have hIx := HI.out.ext hbase hbx
    have c1 := (hIx.mat.cell hpN).1
    have c2 := ((hIx.mat.st p hpN).cell hlt).1
    have hp2 : (p : Int) < (N : Int) := by omega
    have HIX := Lib.hid hIx
    have HBL := Lib.hid hbx
    have hgg : G p q = 0 ∨ G p q ≠ 0 := by omega
    have HSK := Lib.hid hsk
    clear hIx hbx hsk
    rcases hgg with hx | hx
    ·rw [hx] at c2
     by_cases hpn : p + 1 = N
     ·have e1 : ((p : Int) + 1) = (N : Int) := by omega
      have hnone : seek G q (N - d) d = none := by
       rw [HSK.out, show N - p = 0 + 1 by omega, seek, if_pos hx, seek]
      have hnx : downs N F (q + 1) = (d, G) := by
       show stepC N q (downs N F q) = _
       rw [HS.out]
       unfold stepC
       simp only [hnone]
       rw [if_neg (by omega)]
      have HNX := Lib.hid hnx
      clear hnone hnx
      go_wp2_with fail
      go_roundw
      case rel => exact ⟨q + 1, R', C', by omega, by go_num, by rw [HNX.out], by rw [HNX.out]; exact hd, by rw [HNX.out]; exact HIX.out, by rw [HNX.out]; exact HBX.out⟩
      case measure => simp [intOf]; omega
     ·have e1 : ¬ ((p : Int) + 1) = (N : Int) := by omega
      have HSK2 := Lib.hid (show seek G q (N - d) d = seek G q (N - (p + 1)) (p + 1) by
       rw [HSK.out, show N - p = (N - (p + 1)) + 1 by omega, seek, if_pos hx])
      go_wp2_with fail
      go_roundw
      case rel => exact ⟨p + 1, by omega, by omega, by go_num, HSK2.out, HBL.out⟩
      case measure => simp [intOf]; omega
    ·have hx' : ((G p q : Nat) : Int) ≠ 0 := by omega
     have hsome : seek G q (N - d) d = some p := by
      rw [HSK.out, show N - p = (N - (p + 1)) + 1 by omega, seek, if_neg hx]
     have hnx : downs N F (q + 1) = (d + 1, elimF (fun i => G (sig d p i)) d q) := by
      show stepC N q (downs N F q) = _
      rw [HS.out]
      unfold stepC
      simp only [hsome]
      rw [if_neg (by omega)]
     have HNX := Lib.hid hnx
     clear hsome hnx
     go_wp2_with fail
     obtain ⟨p1, hp1⟩ : ∃ p1 : Nat, p1 = p + 1 := ⟨_, rfl⟩
     obtain ⟨d1, hd1⟩ : ∃ d1 : Nat, d1 = d + 1 := ⟨_, rfl⟩
     have f1 : IntKind.i64.wrap ((p : Int) + 1) = (p1 : Int) := by rw [IntKind.wrap_i64]; omega
     have f2 : IntKind.i64.wrap ((d : Int) + 1) = (d1 : Int) := by rw [IntKind.wrap_i64]; omega
     have f3 : (p1 : Int) ≤ (cap : Int) := by omega
     have f4 : (d1 : Int) ≤ (p1 : Int) := by omega
     have f5 : (p : Int) ≤ (cap : Int) := by omega
     have f6 : (d : Int) ≤ (p : Int) := by omega
     have f7 : max (p1 : Int) 0 = (p1 : Int) := by omega
     have f8 : max (p : Int) 0 = (p : Int) := by omega
     have f9 : (0 : Int) ≤ (p1 : Int) := by omega
     have f10 : (0 : Int) ≤ (d1 : Int) := by omega
     have f11 : (0 : Int) ≤ (p : Int) := by omega
     have f12 : (0 : Int) ≤ (d : Int) := by omega
     have f13 : ((p1 : Int) - (d1 : Int)).toNat = p - d := by omega
     have f14 : ((p : Int) - (d : Int)).toNat = p - d := by omega
     have f15 : ¬ cap = d := by omega
     have f16 : ((cap : Int) - (d1 : Int)).toNat = cap - d1 := by omega
     have HP1 := Lib.hid hp1
     have HD1 := Lib.hid hd1
     clear hp1 hd1
     refine Stab.rg 10 [[], [], [1], [], [3], [0, 2, 4], [], [], [], [6, 7, 8]] [5, 9] (fun _ => True) [Stab.eqv ?_, Stab.eqv ?_, Stab.eqv ?_, Stab.eqv ?_, Stab.eqv ?_, Stab.eqv ?_, Stab.eqv ?_, Stab.eqv ?_, Stab.eqv ?_, Stab.eqv ?_] trivial (fun _ _ _ _ => trivial) ?goals13 ?last13
     case goals13 =>
      simp only [List.take_succ_cons, List.take_zero]
      iterate 10
       refine Stab.gp (fun us w _ hE hS hp hK => ?_) ?_
       ·((try have e0 : _ = _ := hp.1); (try have e1 : _ = _ := hp.2.1); (try have e2 : _ = _ := hp.2.2.1); go_simp; exact hK _ _ (by show _ = _; with_reducible rfl) (Stab.Ext.refl _))
      exact Stab.Goals.nil
     case last13 =>
      intro us w' hE hS hp
      obtain ⟨h5, h9, -⟩ := hp
      replace h5 : us 5 = _ := h5
      replace h9 : us 9 = _ := h9
      replace hE := (Stab.Ext.drew _).trans hE
      have hM1 := HIX.out.mat.ext hE
      have hcp := copy_mid hM1 hdp hpN hcap HD1.out HP1.out 3
      generalize (if cap = d1 then some (⟨g, 0, none⟩ : Addr) else some ⟨g, d1, none⟩) = A7 at h5 hcp
      simp only [List.drop_succ_cons, List.drop_zero, h5, h9, Nat.zero_add, Nat.reduceAdd]
      obtain ⟨z1, z2⟩ := mid_out (p := p) hM1 hd (midV R' C' L d p)
      obtain ⟨z3, hz3⟩ := Option.isSome_iff_exists.1 z1
      have hd2 : (d : Int) < (N : Int) := by omega
      have hI1 := HIX.out.ext hbase hE
      have hoff : ∀ i, i < N → R' i ≠ g := fun i hi e => hM1.off i hi (by rw [e]; rfl)
      have hfr2 : Vm.Fr [g] w' ((w'.setCells g (d + 1) (midV R' C' L d p)).setCell ⟨g, d, none⟩ (.slice (some ⟨R' p, 0, none⟩) L (C' p))) := (setCells_fr g _ w' (d + 1)).next (Vm.Fr.cell _ ⟨g, d, none⟩ _)
      have hI2 := hI1.step hbase hgl hgb (Nat.le_trans hbw (Nat.le_refl _)) (Nat.le_refl _) hfr2 (hM1.turn hdp hpN) (fun i hi => hI1.lt _ (sig_lt hpN hi))
      have hsd : sig d p d = p := by unfold sig; rw [if_pos rfl]
      have HB2 := Lib.hid (HBX.out.turn (d := d) hpN)
      generalize hR2 : (fun i => R' (sig d p i)) = R2 at hI2
      generalize hC2 : (fun i => C' (sig d p i)) = C2 at hI2
      generalize hG2 : (fun i => G (sig d p i)) = G2 at hI2 HB2
      have hRd : R2 d = R' p := by rw [← hR2]; show R' (sig d p d) = _; rw [hsd]
      have hCd : C2 d = C' p := by rw [← hC2]; show C' (sig d p d) = _; rw [hsd]
      have hGd : G2 d = G p := by rw [← hG2]; show G (sig d p d) = _; rw [hsd]
      have HNX2 := Lib.hid (show downs N F (q + 1) = (d + 1, elimF G2 d q) by rw [← hG2]; exact HNX.out)
      have HI2 := Lib.hid hI2
      have c3 := ((hI2.mat.st d hd).cell hlt).1
      rw [hRd, hGd] at c3
      have HRD := Lib.hid (show TRd w1.heap.size w.heap.size (R' p) q (G p q) _ from ⟨hI2.fp, hI2.fld, c3⟩)
      have HRdd := Lib.hid hRd
      have HCdd := Lib.hid hCd
      have HGdd := Lib.hid hGd
      have hx256 := HBX.out p hpN q hlt
      clear hM1 hE hS h5 h9 z1 hI1 hoff hfr2 hI2 hsd c3 hRd hCd hGd hR2 hC2 hG2
      go_wp2_with fail
      generalize ((w'.setCells g (d + 1) (midV R' C' L d p)).setCell ⟨g, d, none⟩ (.slice (some ⟨R' p, 0, none⟩) L (C' p))) = w2 at *
      refine Stab.rg 11 [[], [], [], [1, 2], [3], [0, 4], [5], [6], [6], [7], [8]] [9, 10] (TRd w1.heap.size w.heap.size (R' p) q (G p q)) [Stab.eqv ?_, Stab.eqv ?_, Stab.eqv ?_, Stab.eqv ?_, Stab.eqv ?_, Stab.eqv ?_, Stab.eqv ?_, Stab.eqv ?_, Stab.eqv ?_, Stab.eqv ?_, Stab.eqv ?_] (HRD.out.ext (Stab.Ext.drew _)) (fun _ _ h hE => h.ext hE) ?goals15 ?last15
      case goals15 =>
       simp only [List.take_succ_cons, List.take_zero]
       iterate 5
        refine Stab.gp (fun us w _ hE hS hp hK => ?_) ?_
        ·((try have e0 : _ = _ := hp.1); (try have e1 : _ = _ := hp.2.1); (try have e2 : _ = _ := hp.2.2.1); have s0 := hS.fp; have s1 := hS.cx; go_simp; exact hK _ _ (by show _ = _; with_reducible rfl) (Stab.Ext.refl _))
       refine Stab.Goals.plain rfl rfl (fun us w cK hE hS hp hK => ?_) ?_
       ·obtain ⟨h0, h4, -⟩ := hp
        replace h0 : us 0 = _ := h0
        replace h4 : us 4 = _ := h4
        go_simp
        go_wp2_with (go_at_call 143; ((with_reducible refine (Cod.inv_any _ _ (G p q) hx256 hS.fld).mono ?_); rintro e w1 ⟨rfl, hb⟩))
        refine hK _ _ ?_ hb
        show _ = _
        with_reducible rfl
       iterate 5
        refine Stab.gp (fun us w _ hE hS hp hK => ?_) ?_
        ·((try have e0 : _ = _ := hp.1); (try have e1 : _ = _ := hp.2.1); (try have e2 : _ = _ := hp.2.2.1); have s0 := hS.fp; have s1 := hS.cx; go_simp; exact hK _ _ (by show _ = _; with_reducible rfl) (Stab.Ext.refl _))
       exact Stab.Goals.nil
      case last15 =>
       intro us w3 hE hS hp
       obtain ⟨h6, h7, -⟩ := hp
       replace h6 : us 9 = _ := h6
       replace h7 : us 10 = _ := h7
       simp only [List.drop_succ_cons, List.drop_zero, h6, h7, Nat.zero_add, Nat.reduceAdd]
       replace hE := (Stab.Ext.drew _).trans hE
       have hI3 := HI2.out.ext hbase hE
       have HI3 := Lib.hid hI3
       have hrow := hI3.mat.st d hd
       rw [HRdd.out, HCdd.out, HGdd.out] at hrow
       have hpg : R' p < w.heap.size := by
        have := HI3.out.lt d hd
        rwa [HRdd.out] at this
       have HT := Lib.hid (times_any (Cod.gi (G p q)) hrow (fun j hj => HBX.out p hpN j hj) (Cod.gi_lt _) (by omega) hI3.fp hI3.fld (by omega) (by omega))
       clear hE hS h6 h7 hI3 hrow
       go_wp2_with (go_at_call 206; with_reducible refine HT.out.mono ?_)
       rintro e w4 ⟨rfl, hr4, hfr4⟩
       have hI4 : DI w base w1.heap.size w.heap.size (.slice (some ⟨g, 0, none⟩) N cap) N L (midF G2 d q 0) R2 C2 w4 :=
        HI3.out.step hbase hpg (by have := HI3.out.mat.low d hd; rwa [HRdd.out] at this) hbw (Nat.le_refl _) hfr4 (HI3.out.mat.row_ hd (f := pivF G2 d q) (by
         rw [HRdd.out, HCdd.out]
         refine hr4.congr fun j hj => ?_
         unfold pivF
         rw [HGdd.out]) (by rw [HRdd.out]; exact hfr4) (fun k hk j hj => by
          unfold midF
          rw [if_neg (show ¬ k < 0 by omega)])) HI3.out.lt
       have HI4 := Lib.hid hI4
       clear hr4 hfr4 hI4
       go_wp2_with fail
       go_loopw [72] (fun i wx => ∃ z : Nat, z ≤ N ∧ i = .int .i64 (z : Int) ∧ DI w base w1.heap.size w.heap.size (.slice (some ⟨g, 0, none⟩) N cap) N L (midF G2 d q z) R2 C2 wx) (fun i _ => N - (intOf i).toNat)
       case atStart => exact ⟨0, by omega, rfl, HI4.out⟩
       case round =>
        obtain ⟨z, hz, rfl, hIz⟩ := hrel
        by_cases hzN : z < N
        ·have hz2 : (z : Int) < (N : Int) := by omega
         by_cases hzd : z = d
         ·subst hzd
          have HIz := Lib.hid (show DI w base w1.heap.size w.heap.size (.slice (some ⟨g, 0, none⟩) N cap) N L (midF G2 z q (z + 1)) R2 C2 wr from by
           have : midF G2 z q (z + 1) = midF G2 z q z := by funext i; exact midF_skip
           rw [this]; exact hIz)
          clear hIz
          go_wp2_with fail
          go_roundw
          case rel => exact ⟨z + 1, by omega, by rw [HD1.out], HIz.out⟩
          case measure => have := HD1.out; simp [intOf]; omega
         ·have hzd2 : ¬ (z : Int) = (d : Int) := by omega
          have c5 := (hIz.mat.cell hzN).1
          have c6 := ((hIz.mat.st z hzN).cell hlt).1
          rw [midF_self hzd] at c6
          have HRX := Lib.hid (show XRd g z (R2 z) (C2 z) L q (G2 z q) wr from ⟨c5, c6⟩)
          have HIz := Lib.hid hIz
          have HZD := Lib.hid hzd
          clear hIz c5 c6 hzd
          go_wp2_with fail
          refine Stab.rg 13 [[], [], [], [1, 2], [3], [], [], [], [6, 7], [8], [], [9, 10], [11]] [0, 4, 5, 12] (XRd g z (R2 z) (C2 z) L q (G2 z q)) [Stab.eqv ?_, Stab.eqv ?_, Stab.eqv ?_, Stab.eqv ?_, Stab.eqv ?_, Stab.eqv ?_, Stab.eqv ?_, Stab.eqv ?_, Stab.eqv ?_, Stab.eqv ?_, Stab.eqv ?_, Stab.eqv ?_, Stab.eqv ?_] (HRX.out.ext (Stab.Ext.drew _)) (fun _ _ h hE => h.ext hE) ?goals21 ?last21
          case goals21 =>
           simp only [List.take_succ_cons, List.take_zero]
           iterate 13
            refine Stab.gp (fun us w _ hE hS hp hK => ?_) ?_
            ·((try have e0 : _ = _ := hp.1); (try have e1 : _ = _ := hp.2.1); (try have e2 : _ = _ := hp.2.2.1); have s0 := hS.ct; have s1 := hS.cx; go_simp; exact hK _ _ (by show _ = _; with_reducible rfl) (Stab.Ext.refl _))
           exact Stab.Goals.nil
          case last21 =>
           intro us w5 hE hS hp
           obtain ⟨h0, h4, h5, h12, -⟩ := hp
           replace h0 : us 0 = _ := h0
           replace h4 : us 4 = _ := h4
           replace h5 : us 5 = _ := h5
           replace h12 : us 12 = _ := h12
           simp only [List.drop_succ_cons, List.drop_zero, h0, h4, h5, h12, Nat.zero_add, Nat.reduceAdd]
           replace hE := (Stab.Ext.drew _).trans hE
           have hI5 := HIz.out.ext hbase hE
           have hr1 := hI5.mat.st z hzN
           rw [midF_self HZD.out] at hr1
           have hr2 := hI5.mat.st d hd
           rw [HRdd.out, HCdd.out, midF_piv] at hr2
           have hne : R' p ≠ R2 z := fun e => HZD.out (hI5.mat.inj z d hzN hd (by rw [HRdd.out, e]))
           have hzl := hI5.lt z hzN
           have HP := Lib.hid (plus_any (G2 z q) hr1 hr2 (fun j hj => HB2.out z hzN j hj) (fun j hj => pivF_lt _ _ _ _) (HB2.out z hzN q hlt) (by omega) hI5.fp hI5.fld (by omega) (by omega) hne)
           have HI5 := Lib.hid hI5
           clear hE hS h0 h4 h5 h12 hI5 hr1 hr2
           go_wp2_with (go_at_call 207; with_reducible refine HP.out.mono ?_)
           rintro e w6 ⟨rfl, hr6, hfr6⟩
           have HI6 := Lib.hid (HI5.out.step hbase hzl (HI5.out.mat.low z hzN) hbw (Nat.le_refl _) hfr6 (HI5.out.mat.row_ (G := midF G2 d q (z + 1)) hzN hr6 hfr6 (fun k hk j hj => congrFun (midF_step HZD.out k) j)) HI5.out.lt)
           clear hr6 hfr6
           go_wp2_with fail
           go_roundw
           case rel => exact ⟨z + 1, by omega, by go_num, HI6.out⟩
           case measure => simp [intOf]; omega
        ·obtain rfl : z = N := by omega
         have HIz := Lib.hid (show DI w base w1.heap.size w.heap.size (.slice (some ⟨g, 0, none⟩) z cap) z L (elimF G2 d q) R2 C2 wr from ⟨hIz.fp, hIz.fld, hIz.mat.congr fun i hi j hj => by rw [midF_end hi], hIz.lt, hIz.bel⟩)
         have d3 : ¬ ((z : Int) < (z : Int)) := by omega
         clear hIz
         by_cases hdz : d + 1 = z
         ·have e3 : (d1 : Int) = (z : Int) := by rw [HD1.out]; omega
          have hdn : downs z F L = (d + 1, elimF G2 d q) := by
           have h1 := downs_stop (N := z) (F := F) (c := q + 1) (by rw [HNX2.out]; exact hdz) (L - (q + 1))
           rw [show q + 1 + (L - (q + 1)) = L by omega] at h1
           rw [h1, HNX2.out]
          have HDN := Lib.hid hdn
          clear hdn
          go_wp2_with fail
          go_ret
          exact ⟨R2, C2, by rw [HDN.out]; simp [hdz], by rw [HDN.out]; exact HIz.out.mat, HIz.out.bel⟩
         ·have e3 : ¬ (d1 : Int) = (z : Int) := by rw [HD1.out]; omega
          have HBE := Lib.hid (elimF_byt (d := d) (c := q) HB2.out)
          go_wp2_with fail
          go_roundw
          case rel => exact ⟨q + 1, R2, C2, by omega, by go_num, by rw [HNX2.out, HD1.out], by rw [HNX2.out]; show d + 1 < z; omega, by rw [HNX2.out]; exact HIz.out, by rw [HNX2.out]; exact HBE.out⟩
          case measure => simp [intOf]; omega
  ·obtain rfl : q = L := by omega
   have HI := Lib.hid hI
   have HBX := Lib.hid hby
   clear hI hby
   have d1 : ¬ ((q : Int) < (q : Int)) := by omega
   go_wp2_with fail
   go_ret
   exact ⟨R', C', rfl, HI.out.mat, HI.out.bel⟩
end Sol
end Go.Proofs.YtnbkhdbligjifaaGreatDoor
