/-
 The field of 256 numbers: its tables, and the product as the program has it.
-/
import Derived.Test.YtnbkhdbligjifaaGreatDoorVMaps
import Derived.Test.YtnbkhdbligjifaaGreatDoorMem
import Derived.Test.YtnbkhdbligjifaaGreatDoorInfo
import Derived.Test.YtnbkhdbligjifaaGreatDoorProg
import Derived.Deep.QuietTactic
import Derived.BigQuiet
set_option linter.unusedVariables false
set_option linter.unusedSimpArgs false
namespace Go.Proofs.YtnbkhdbligjifaaGreatDoor
open Go.RowKit
namespace Fld
def pwBig : Nat := 8856990713409824987183140402374358080674248354215423657725458004488207893438392946030888853375904797289504668347160626187132259699900233138648534461763796553722681762569641945119264861220663755468484037720775188535579952245867663006651507277791222666826785483398433307595704877043200076058100196638910845779782293078032926818358696911279575842852319355700605339911765372424152090200116912196812683442216396899668384855648195394238364200816963036045261203126476910443940504312987208021345653905171248397066478845569494078144977197837111232127732754508096250939318709245866461879354629945230799664051954596316140836780717108354261181748492094461244742858401085820322168057750326071736368712266714827098764897370398784052097986092416779378404705019203020335569119892153447474284880772368378344689255354826179669527487614603533424485383665010357433079299522588467683458117463774085267711371273156937819115392343347060478494473386782195599410389734005551742428694560297619569031029357707022930644351916425117765030612268580539533293361144518654644548322964103094579667389630079007276152875920723587307542406162776191331872344722220447978477718188404304137896878643387669563613408028725344812418906929574157450205698549093433583337985
def lgBig : Nat := 22135253156888987530748098150270024343632497605293634117281264061560962248099620766229961468867162294233796152347975563017024165690400661622462404646302566225833645086064538892198543335321514950294300187779610338557442029018619797274438901674641748676613670242915365385819254959901651105240253464034662486586186382979728982817772067067513442677601938078891989292316012868233806586592927239821351197800766822366321181463280924672822998103315976779850880337712374790938628529953751181886374687897611504386983350015558142994211516619836411558782076806704747441947939324473761869443721989389604670425385080942269787340800
def pw (i : Nat) : Nat := Nat.land (Nat.shiftRight pwBig (Nat.mul 8 i)) 255
def lg (x : Nat) : Nat := Nat.land (Nat.shiftRight lgBig (Nat.mul 8 x)) 255
def gm (x y : Nat) : Nat := if x = 0 ∨ y = 0 then 0 else pw (lg x + lg y)
theorem pw_lt (i : Nat) : pw i < 256 := Nat.lt_succ_of_le Nat.and_le_right
theorem gm_lt (x y : Nat) : gm x y < 256 := by unfold gm; split; exact (by decide); exact pw_lt _
theorem lg_le (x : Nat) (h : x < 256) : lg x ≤ 254 := by
 have : ∀ x : Fin 256, lg x.1 ≤ 254 := by decide +kernel
 exact this ⟨x, h⟩
structure At (w : World) (b : Nat) : Prop where
 pw : ∀ i, i < 510 → w.cell? ⟨b, i, none⟩ = some (.int .u8 (pw i : Nat))
 lg : ∀ i, i < 256 → w.cell? ⟨b, 510 + i, none⟩ = some (.int .i64 (lg i : Nat))
theorem At.ext {w w' : World} {b : Nat} (h : At w b) (hE : Stab.Ext w w') : At w' b := ⟨fun i hi => hE.cell (h.pw i hi), fun i hi => hE.cell (h.lg i hi)⟩
theorem At.below {w w' : World} {b B : Nat} (h : At w b) (hB : Below B w w') (hb : b < B) : At w' b :=
 ⟨fun i hi => (hB.cell (p := ⟨b, i, none⟩) hb).trans (h.pw i hi), fun i hi => (hB.cell (p := ⟨b, 510 + i, none⟩) hb).trans (h.lg i hi)⟩
theorem or_any (b : Nat) (w : World) : Calls Tryz.prog 177 #[.pointer (some ⟨b, 0, none⟩)] w fun e w' => e = .returned (.pointer (some ⟨b, 0, none⟩)) ∧ w = w' := by
 go_enter Tryz.func177, Tryz.ntmps177
 go_wp2_with fail
 go_ret
 exact ⟨rfl, rfl⟩
theorem xor8 (m n : Nat) (hm : m < 256) (hn : n < 256) : bits .xor .u8 (m : Int) (n : Int) = (Nat.xor m n : Nat) := by
 have e : ∀ m : Nat, m < 256 → (BitVec.ofInt IntKind.u8.bits (m : Int)).toNat = m := fun m h => by
   rw [BitVec.ofInt_natCast, BitVec.toNat_ofNat]; exact Nat.mod_eq_of_lt h
 simp only [bits, BitVec.toNat_xor]
 rw [e _ hm, e _ hn]
 have : Nat.xor m n < 2 ^ 8 := Nat.xor_lt_two_pow hm hn
 show IntKind.u8.wrap ((Nat.xor m n : Nat) : Int) = _
 rw [IntKind.wrap_u8]
 omega
theorem add_any (v : Value) (x y : Nat) (hx : x < 256) (hy : y < 256) (w : World) : Calls Tryz.prog 144 #[v, .int .u8 (x : Int), .int .u8 (y : Int)] w fun e w' => e = .returned (.int .u8 (Nat.xor x y : Nat)) ∧ w = w' := by
 have e1 := xor8 x y hx hy
 go_enter Tryz.func144, Tryz.ntmps144
 go_wp2_with fail
 go_ret
 exact ⟨rfl, rfl⟩
structure Rd (b : Nat) (x y : Nat) (j : Int) (W : World) : Prop where
 lx : W.cell? ⟨b, 510 + x, none⟩ = some (.int .i64 (lg x : Nat))
 ly : W.cell? ⟨b, 510 + y, none⟩ = some (.int .i64 (lg y : Nat))
 p : W.cell? ⟨b, j.toNat, none⟩ = some (.int .u8 (pw (lg x + lg y) : Nat))
theorem Rd.ext {b x y : Nat} {j : Int} {w w' : World} (h : Rd b x y j w) (hE : Stab.Ext w w') : Rd b x y j w' := ⟨hE.cell h.lx, hE.cell h.ly, hE.cell h.p⟩
theorem gm_zero_l (y : Nat) : gm 0 y = 0 := by simp [gm]
theorem gm_zero_r (x : Nat) : gm x 0 = 0 := by simp [gm]
set_option maxHeartbeats 4000000 in
set_option maxRecDepth 100000 in
theorem mul_any (b : Nat) (w : World) (x y : Nat) (hx : x < 256) (hy : y < 256) (ha : At w b) :
   Calls Tryz.prog 145 #[.pointer (some ⟨b, 0, none⟩), .int .u8 (x : Int), .int .u8 (y : Int)] w fun e w' => e = .returned (.int .u8 (gm x y : Nat)) ∧ Below w.heap.size w w' := by
 have l1 := lg_le x hx
 have l2 := lg_le y hy
 have HR := Lib.hid (show Rd b x y ((lg x + lg y : Nat) : Int) w from ⟨ha.lg x hx, ha.lg y hy, ha.pw _ (by omega)⟩)
 by_cases x0 : x = 0
 · subst x0
   rw [gm_zero_l]
   go_enter Tryz.func145, Tryz.ntmps145
   go_wp2_with fail
   go_ret
   exact ⟨rfl, Below.refl _ _⟩
 by_cases y0 : y = 0
 · subst y0
   rw [gm_zero_r]
   have t1 : ((x : Int) == 0) = false := by simp; omega
   go_enter Tryz.func145, Tryz.ntmps145
   go_wp2_with fail
   go_ret
   exact ⟨rfl, Below.refl _ _⟩
 have t1 : ((x : Int) == 0) = false := by simp; omega
 have t2 : ((y : Int) == 0) = false := by simp; omega
 have hg : gm x y = pw (lg x + lg y) := by simp [gm, x0, y0]
 have HG := Lib.hid hg
 clear hg ha
 have hxi : (x : Int) < 256 := by omega
 have hyi : (y : Int) < 256 := by omega
 have hw : IntKind.i64.wrap ((lg x : Int) + (lg y : Int)) = ((lg x + lg y : Nat) : Int) := by rw [IntKind.wrap_i64]; omega
 have hp : ((lg x + lg y : Nat) : Int) < 510 := by omega
 have h0 : 0 ≤ ((lg x + lg y : Nat) : Int) := by omega
 generalize ((lg x + lg y : Nat) : Int) = j at *
 go_enter Tryz.func145, Tryz.ntmps145
 go_wp2_with (go_at_call 177; ((with_reducible refine (or_any b _).mono ?_); rintro e w1 ⟨rfl, rfl⟩))
 refine Stab.wp_region_stable 19 33 [some 15, some 16, some 17, some 18, some 19, some 20, some 21, some 22, some 23, some 24, some 25, some 26, some 27, some 28, some 29, some 30, some 31, some 32, some 6] [[], [], [], [1], [3], [4, 2], [5], [], [], [7], [9], [10, 8], [11], [6, 12], [0], [14], [15, 13], [16], [17]] [18] (Rd b x y j) [Stab.eqv ?r4e0, Stab.eqv ?r4e1, Stab.eqv ?r4e2, Stab.eqv ?r4e3, Stab.eqv ?r4e4, Stab.eqv ?r4e5, Stab.eqv ?r4e6, Stab.eqv ?r4e7, Stab.eqv ?r4e8, Stab.eqv ?r4e9, Stab.eqv ?r4e10, Stab.eqv ?r4e11, Stab.eqv ?r4e12, Stab.eqv ?r4e13, Stab.eqv ?r4e14, Stab.eqv ?r4e15, Stab.eqv ?r4e16, Stab.eqv ?r4e17, Stab.eqv ?r4e18] (by kernel_rfl) rfl (by kernel_rfl) (by kernel_rfl) (fun us => by simp only [Stab.putAll, Act.put, List.setIfInBounds_toArray, List.set_cons_zero, List.set_cons_succ]; rfl) (HR.out.ext (Stab.Ext.drew _)) (fun _ _ h hE => h.ext hE) ?goals4 ?last4
 case goals4 =>
   simp only [List.take_succ_cons, List.take_zero]
   refine Stab.Goals.plain rfl rfl (fun us w cK hE hS hp hK => ?_) ?_
   · go_simp
     refine hK _ _ ?_ (Stab.Ext.refl _)
     show _ = _
     with_reducible rfl
   refine Stab.Goals.plain rfl rfl (fun us w cK hE hS hp hK => ?_) ?_
   · go_simp
     refine hK _ _ ?_ (Stab.Ext.refl _)
     show _ = _
     with_reducible rfl
   refine Stab.Goals.plain rfl rfl (fun us w cK hE hS hp hK => ?_) ?_
   · go_simp
     refine hK _ _ ?_ (Stab.Ext.refl _)
     show _ = _
     with_reducible rfl
   refine Stab.Goals.plain rfl rfl (fun us w cK hE hS hp hK => ?_) ?_
   · obtain ⟨h1, -⟩ := hp
     replace h1 : us 1 = _ := h1
     go_simp
     refine hK _ _ ?_ (Stab.Ext.refl _)
     show _ = _
     with_reducible rfl
   refine Stab.Goals.plain rfl rfl (fun us w cK hE hS hp hK => ?_) ?_
   · obtain ⟨h3, -⟩ := hp
     replace h3 : us 3 = _ := h3
     go_simp
     refine hK _ _ ?_ (Stab.Ext.refl _)
     show _ = _
     with_reducible rfl
   refine Stab.Goals.plain rfl rfl (fun us w cK hE hS hp hK => ?_) ?_
   · obtain ⟨h4, h2, -⟩ := hp
     replace h4 : us 4 = _ := h4
     replace h2 : us 2 = _ := h2
     go_simp
     refine hK _ _ ?_ (Stab.Ext.refl _)
     show _ = _
     with_reducible rfl
   refine Stab.Goals.plain rfl rfl (fun us w cK hE hS hp hK => ?_) ?_
   · obtain ⟨h5, -⟩ := hp
     replace h5 : us 5 = _ := h5
     obtain ⟨s0, s1, s2⟩ := hS
     go_simp
     refine hK _ _ ?_ (Stab.Ext.refl _)
     show _ = _
     with_reducible rfl
   refine Stab.Goals.plain rfl rfl (fun us w cK hE hS hp hK => ?_) ?_
   · go_simp
     refine hK _ _ ?_ (Stab.Ext.refl _)
     show _ = _
     with_reducible rfl
   refine Stab.Goals.plain rfl rfl (fun us w cK hE hS hp hK => ?_) ?_
   · go_simp
     refine hK _ _ ?_ (Stab.Ext.refl _)
     show _ = _
     with_reducible rfl
   refine Stab.Goals.plain rfl rfl (fun us w cK hE hS hp hK => ?_) ?_
   · obtain ⟨h7, -⟩ := hp
     replace h7 : us 7 = _ := h7
     go_simp
     refine hK _ _ ?_ (Stab.Ext.refl _)
     show _ = _
     with_reducible rfl
   refine Stab.Goals.plain rfl rfl (fun us w cK hE hS hp hK => ?_) ?_
   · obtain ⟨h9, -⟩ := hp
     replace h9 : us 9 = _ := h9
     go_simp
     refine hK _ _ ?_ (Stab.Ext.refl _)
     show _ = _
     with_reducible rfl
   refine Stab.Goals.plain rfl rfl (fun us w cK hE hS hp hK => ?_) ?_
   · obtain ⟨h10, h8, -⟩ := hp
     replace h10 : us 10 = _ := h10
     replace h8 : us 8 = _ := h8
     go_simp
     refine hK _ _ ?_ (Stab.Ext.refl _)
     show _ = _
     with_reducible rfl
   refine Stab.Goals.plain rfl rfl (fun us w cK hE hS hp hK => ?_) ?_
   · obtain ⟨h11, -⟩ := hp
     replace h11 : us 11 = _ := h11
     obtain ⟨s0, s1, s2⟩ := hS
     go_simp
     refine hK _ _ ?_ (Stab.Ext.refl _)
     show _ = _
     with_reducible rfl
   refine Stab.Goals.plain rfl rfl (fun us w cK hE hS hp hK => ?_) ?_
   · obtain ⟨h6, h12, -⟩ := hp
     replace h6 : us 6 = _ := h6
     replace h12 : us 12 = _ := h12
     go_simp
     refine hK _ _ ?_ (Stab.Ext.refl _)
     show _ = _
     with_reducible rfl
   refine Stab.Goals.plain rfl rfl (fun us w cK hE hS hp hK => ?_) ?_
   · obtain ⟨h0, -⟩ := hp
     replace h0 : us 0 = _ := h0
     go_simp
     refine hK _ _ ?_ (Stab.Ext.refl _)
     show _ = _
     with_reducible rfl
   refine Stab.Goals.plain rfl rfl (fun us w cK hE hS hp hK => ?_) ?_
   · obtain ⟨h14, -⟩ := hp
     replace h14 : us 14 = _ := h14
     go_simp
     refine hK _ _ ?_ (Stab.Ext.refl _)
     show _ = _
     with_reducible rfl
   refine Stab.Goals.plain rfl rfl (fun us w cK hE hS hp hK => ?_) ?_
   · obtain ⟨h15, h13, -⟩ := hp
     replace h15 : us 15 = _ := h15
     replace h13 : us 13 = _ := h13
     go_simp
     refine hK _ _ ?_ (Stab.Ext.refl _)
     show _ = _
     with_reducible rfl
   refine Stab.Goals.plain rfl rfl (fun us w cK hE hS hp hK => ?_) ?_
   · obtain ⟨h16, -⟩ := hp
     replace h16 : us 16 = _ := h16
     obtain ⟨s0, s1, s2⟩ := hS
     go_simp
     refine hK _ _ ?_ (Stab.Ext.refl _)
     show _ = _
     with_reducible rfl
   refine Stab.Goals.plain rfl rfl (fun us w cK hE hS hp hK => ?_) ?_
   · obtain ⟨h17, -⟩ := hp
     replace h17 : us 17 = _ := h17
     go_simp
     refine hK _ _ ?_ (Stab.Ext.refl _)
     show _ = _
     with_reducible rfl
   exact Stab.Goals.nil
 case last4 =>
   intro us w' hE hS hp
   obtain ⟨h18, -⟩ := hp
   replace h18 : us 18 = _ := h18
   simp only [List.drop_succ_cons, List.drop_zero, h18]
   clear hS h18
   refine wpList_nil ?_
   go_wp2_with fail
   go_ret
   exact ⟨by rw [HG.out]; rfl, (Stab.Ext.drew _).trans hE⟩
end Fld
end Go.Proofs.YtnbkhdbligjifaaGreatDoor
