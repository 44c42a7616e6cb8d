/-
 The walks of package sha: take, Add, Copy.
-/
import Derived.Test.YtfkchheildfkpaaGreatDoorShaChange
import Derived.Test.YtfkchheildfkpaaGreatDoorShaRest
namespace Go.Proofs.YtfkchheildfkpaaGreatDoor
open Go.RowKit
namespace Sha
attribute [local go_sem ↓] appSem_eq
def rlen (H : Nat) (W : World) : Nat := match W.cell? ⟨H, 8, none⟩ with
 | some (.slice _ n _) => n
 | _ => 0
set_option maxRecDepth 100000 in
set_option maxHeartbeats 4000000 in
theorem take_any (s : St) (hs : s.ok) (l m : List UInt8) (v vb : Value) (total : Int) (rb rcap : Nat) (roots : List Int) (hsm : Small roots) (H : Nat) (w : World)
   (hH : Blk w H 362 (hcells s v total (.slice (some ⟨rb, 0, none⟩) 64 rcap)))
   (hrb : rb < w.heap.size) (hrH : rb ≠ H) (hroots : ∀ j, j < 64 → w.cell? ⟨rb, j, none⟩ = some (.int .u32 (roots.getD j 0)))
   (hv : RestIs w H v l) (hvb : RestIs w H vb m) (hlen : l.length + m.length ≤ 70368744177664) :
   Calls Tryz.prog 257 #[.pointer (some ⟨H, 0, none⟩), vb] w fun e w' =>
     e = .returned (.tuple #[]) ∧ (∃ v', Blk w' H 362 (hcells (eat roots (l ++ m) s).1 v' total (.slice (some ⟨rb, 0, none⟩) 64 rcap)) ∧ RestIs w' H v' (eat roots (l ++ m) s).2) ∧ Below H w w' ∧ Keep H w w' := by
 obtain ⟨A, c, rfl, hc, hA⟩ := id hv
 have hHlt := hH.lt
 have c8 : w.cell? ⟨H, 8, none⟩ = some (.slice A l.length c) := hH.cell 8
 have hcI : (l.length : Int) ≤ (c : Int) := by omega
 have hl0 : (0 : Int) ≤ (l.length : Int) := by omega
 have HR := Lib.hid hroots
 clear hroots
 go_enter Tryz.func257, Tryz.ntmps257
 go_wp2_with fail
 obtain ⟨v1, w3, hrun, hv1, hb3⟩ := run_app (P := Tryz.prog) (t := 71) (e := 5) Tryz.underlying71 info5 (W := w.drew) (H := H) (A := A) (c := c) (vb := vb) (l := l) (m := m) hv hvb hlen hHlt
 obtain ⟨A1, c1, rfl, hc1, hA1⟩ := id hv1
 have hH3 : Blk w3 H 362 (hcells s (.slice A l.length c) total (.slice (some ⟨rb, 0, none⟩) 64 rcap)) := (hH.drew).below hb3 hHlt
 have d8 : w3.cell? ⟨H, 8, none⟩ = some (.slice A l.length c) := hH3.cell 8
 have f8 := hH3.frozen 8
 have HH3 := Lib.hid hH3
 have HV1 := Lib.hid hv1
 have HB3 := Lib.hid hb3
 clear hH3 hv1 hb3 hA hA1 hv hvb hH
 go_region
 have hH5 : Blk (w3.setCell ⟨H, 8, none⟩ (.slice A1 (l.length + m.length) c1)) H 362 (hcells s (.slice A1 (l.length + m.length) c1) total (.slice (some ⟨rb, 0, none⟩) 64 rcap)) := HH3.out.set_ 8 _
 have hk35 : Keep H w3 (w3.setCell ⟨H, 8, none⟩ (.slice A1 (l.length + m.length) c1)) := (Keep.refl H w3).set_ 8 _
 have hv5 : RestIs (w3.setCell ⟨H, 8, none⟩ (.slice A1 (l.length + m.length) c1)) H (.slice A1 (l.length + m.length) c1) (l ++ m) := by
   have h := HV1.out.keep hk35 (by simp)
   rwa [List.length_append] at h
 have hb5 : Below H w (w3.setCell ⟨H, 8, none⟩ (.slice A1 (l.length + m.length) c1)) := (((Below.refl H w).drew).trans (HB3.out.mono (Nat.le_of_lt hHlt))).setCell (p := ⟨H, 8, none⟩) (Nat.le_refl _) _
 have hk5 : Keep H w (w3.setCell ⟨H, 8, none⟩ (.slice A1 (l.length + m.length) c1)) := Keep.set_ (fun k hk _ => HB3.out.block k hk) 8 _
 generalize w3.setCell ⟨H, 8, none⟩ (.slice A1 (l.length + m.length) c1) = w5 at *
 generalize hx0 : l ++ m = x0 at *
 have HX0 := Lib.hid hx0
 generalize Value.slice A1 (l.length + m.length) c1 = v5 at *
 clear c8 hcI hl0 hrun hc1 d8 f8 HH3 HV1 HB3 hk35 hx0
 go_wp2_with fail
 go_loopw [24] (fun _ wr => ∃ (x : List UInt8) (q : St) (v : Value), eat roots x q = eat roots x0 s ∧ q.ok ∧ Blk wr H 362 (hcells q v total (.slice (some ⟨rb, 0, none⟩) 64 rcap)) ∧ RestIs wr H v x ∧ Below H w wr ∧ Keep H w wr) (fun _ wr => rlen H wr)
 case atStart => exact ⟨x0, s, v5, rfl, hs, hH5, hv5, hb5, hk5⟩
 case round =>
   obtain ⟨x, q, v, he, hq, hHr, hvr, hbl, hke⟩ := hrel
   obtain ⟨B, d, rfl, hd, hB⟩ := id hvr
   have c8 : wr.cell? ⟨H, 8, none⟩ = some (.slice B x.length d) := hHr.cell 8
   have hsz := hbl.size
   by_cases h64 : 64 ≤ x.length
   · have t1 : (64 : Int) ≤ (x.length : Int) := by omega
     have t2 : (64 : Int) ≤ (d : Int) := by omega
     obtain ⟨g, o, rfl, hgH, hglt, hrow⟩ : ∃ g o, B = some ⟨g, o, none⟩ ∧ g ≠ H ∧ g < wr.heap.size ∧ ∀ j, j < x.length → wr.cell? ⟨g, o + j, none⟩ = some (b8 x j) := by
       rcases hB with ⟨_, h0⟩ | h
       · omega
       · exact h
     have hchg := change_any q hq (.slice (some ⟨g, o, none⟩) x.length d) total rb rcap roots hsm (x.take 64) (by simp; omega) g o d H wr hHr (by omega) hrH
       (fun j hj => by rw [← HR.out j hj]; exact World.cell?_of_block (a := ⟨rb, j, none⟩) (hke rb hrb hrH)) hglt
       (fun j hj => by rw [hrow j (by omega), b8]; congr 2; simp [at8, List.getD, hj])
     have HC := Lib.hid hchg
     have HE := Lib.hid (show eat roots (x.drop 64) (comp roots (x.take 64) q) = eat roots x0 s by rw [← eat_step roots x q h64]; exact he)
     have HV := Lib.hid hvr
     have HRow := Lib.hid hrow
     have HBL := Lib.hid hbl
     have HKE := Lib.hid hke
     clear hchg he hvr hrow hbl hke hB hHr
     go_wp2_with (go_at_call 321; refine HC.out.mono ?_)
     rintro e w6 ⟨rfl, hH6, hb6, hk6⟩
     have c86 : w6.cell? ⟨H, 8, none⟩ = some (.slice (some ⟨g, o, none⟩) x.length d) := hH6.cell 8
     have f86 := hH6.frozen 8
     have HH6 := Lib.hid hH6
     have HB6 := Lib.hid hb6
     have HK6 := Lib.hid hk6
     clear hH6 hb6 hk6
     go_wp2_with fail
     obtain ⟨A2, hA2⟩ : ∃ A2 : Option Addr, A2 = (if d = 64 then some ⟨g, o, none⟩ else some ⟨g, o + 64, none⟩) := ⟨_, rfl⟩
     rw [← hA2]
     have hk7 : Keep H w6 (w6.setCell ⟨H, 8, none⟩ (.slice A2 (x.length - 64) (d - 64))) := (Keep.refl H w6).set_ 8 _
     have hs6 := HB6.out.size
     have hk07 : Keep H w (w6.setCell ⟨H, 8, none⟩ (.slice A2 (x.length - 64) (d - 64))) := (HKE.out.trans hsz HK6.out).trans (by omega) hk7
     have hH7 := HH6.out.set_ 8 (.slice A2 (x.length - 64) (d - 64))
     have hxl : (x.drop 64).length = x.length - 64 := by simp
     have hR7 : RestIs (w6.setCell ⟨H, 8, none⟩ (.slice A2 (x.length - 64) (d - 64))) H (.slice A2 (x.length - 64) (d - 64)) (x.drop 64) := by
       refine ⟨A2, d - 64, by rw [hxl], by rw [hxl]; omega, .inr ?_⟩
       by_cases hd64 : d = 64
       · refine ⟨g, o, by rw [hA2, if_pos hd64], hgH, by simp; omega, fun j hj => ?_⟩
         rw [hxl] at hj; omega
       · refine ⟨g, o + 64, by rw [hA2, if_neg hd64], hgH, by simp; omega, fun j hj => ?_⟩
         rw [hxl] at hj
         have hw : wr.cell? ⟨g, o + 64 + j, none⟩ = some (b8 x (64 + j)) := by
           rw [Nat.add_assoc]; exact HRow.out (64 + j) (by omega)
         rw [b8, getD_drop, ← b8, ← hw]
         exact World.cell?_of_block (a := ⟨g, o + 64 + j, none⟩) ((HK6.out.trans (by omega) hk7) g hglt hgH)
     refine ⟨⟨x.drop 64, _, _, HE.out, comp_ok _ _ _, hH7, hR7, (HBL.out.trans HB6.out).setCell (p := ⟨H, 8, none⟩) (Nat.le_refl _) _, hk07⟩, ?_⟩
     have e1 : rlen H wr = x.length := by unfold rlen; rw [c8]
     have e2 : rlen H (w6.setCell ⟨H, 8, none⟩ (.slice A2 (x.length - 64) (d - 64))) = x.length - 64 := by
       unfold rlen; rw [hH7.cell 8]; rfl
     rw [e1, e2]; omega
   · have t1 : ¬ ((64 : Int) ≤ (x.length : Int)) := by omega
     rw [eat_end roots x q (by omega)] at he
     have HE := Lib.hid he
     have HV := Lib.hid hvr
     have HHr := Lib.hid hHr
     clear he hvr hHr hB
     go_wp2_with fail
     go_end0
     rw [HX0.out, ← HE.out]
     exact ⟨rfl, ⟨_, HHr.out, HV.out⟩, hbl, hke⟩
end Sha
end Go.Proofs.YtfkchheildfkpaaGreatDoor
