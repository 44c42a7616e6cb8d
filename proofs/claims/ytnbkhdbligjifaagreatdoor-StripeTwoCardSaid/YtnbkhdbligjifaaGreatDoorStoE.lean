/-
 A store in memory: a fault strikes.
-/
import Derived.Test.YtnbkhdbligjifaaGreatDoorStoD
set_option linter.unusedVariables false
set_option linter.unusedSimpArgs false
set_option maxRecDepth 100000
set_option maxHeartbeats 40000000
namespace Go.Proofs.YtnbkhdbligjifaaGreatDoor
open Go Go.RowKit
namespace Vm
structure SRd (bx B : Nat) (O : List Nat) (s : PSt) (k st n at_ c : Int) (W : World) : Prop where
 c0 : W.cell? ⟨bx, 0, none⟩ = some (.int .u8 k)
 c1 : W.cell? ⟨bx, 1, none⟩ = some (.int .i64 st)
 c2 : W.cell? ⟨bx, 2, none⟩ = some (.int .i64 n)
 c3 : W.cell? ⟨bx, 3, none⟩ = some (.int .i64 at_)
 c4 : W.cell? ⟨bx, 4, none⟩ = some (.int .i64 c)
 st : SAt W B s O
theorem SRd.ext {bx B : Nat} {O : List Nat} {s : PSt} {k st n at_ c : Int} {w w' : World} (h : SRd bx B O s k st n at_ c w) (hE : Stab.Ext w w') : SRd bx B O s k st n at_ c w' := ⟨hE.cell h.c0, hE.cell h.c1, hE.cell h.c2, hE.cell h.c3, hE.cell h.c4, h.st.keep (Fr.of_below (O := []) hE) (by simp)⟩
def hitN (k : Int) : Nat := if k = 1 then 112 else if k = 2 then 113 else if k = 3 then 114 else if k = 4 then 115 else if k = 5 then 116 else if k = 6 then 117 else 118
theorem hit_any {w : World} {B : Nat} {s : PSt} {O : List Nat} (h : SAt w B s O) (hs : Small s.seen) (k st n at_ c : Int) (q1 : 1 ≤ k) (q2 : k ≤ 7) (q3 : 0 ≤ n) (hn1 : n ≤ 9223372036854775807) (q4 : 0 ≤ at_) (ha1 : at_ ≤ 9223372036854775807) (q5 : 0 ≤ c) (q6 : c ≤ 255) :
 Calls Tryz.prog (hitN k) #[.pointer (some ⟨B, 0, none⟩), .agg #[.int .u8 k, .int .i64 st, .int .i64 n, .int .i64 at_, .int .i64 c]] w (StPost w B O (.tuple #[]) (hitS s ⟨k, st, n, at_, c⟩)) := by
 obtain rfl | rfl | rfl | rfl | rfl | rfl | rfl : k = 1 ∨ k = 2 ∨ k = 3 ∨ k = 4 ∨ k = 5 ∨ k = 6 ∨ k = 7 := by omega
 ·exact wipe_any h ⟨1, st, n, at_, c⟩
 ·exact lose_any h hs ⟨2, st, n, at_, c⟩ q3 hn1
 ·exact bend_any h hs ⟨3, st, n, at_, c⟩ q3 hn1 q4 ha1 q5 q6
 ·exact down_any h ⟨4, st, n, at_, c⟩
 ·exact up_any h ⟨5, st, n, at_, c⟩
 ·exact refuseOne_any h ⟨6, st, n, at_, c⟩
 ·exact limit_any h ⟨7, st, n, at_, c⟩
theorem run_hit (k : Int) (q1 : 1 ≤ k) (q2 : k ≤ 7) (w : World) : (Instr.index 150 (.agg faultsC) (.int .u8 k)).run Tryz.prog w = .ok (.func (.func (hitN k)) #[] #[]) w := by
 have hu : Tryz.prog.underlying 150 = some (.array 8 149) := Tryz.underlying150
 obtain rfl | rfl | rfl | rfl | rfl | rfl | rfl : k = 1 ∨ k = 2 ∨ k = 3 ∨ k = 4 ∨ k = 5 ∨ k = 6 ∨ k = 7 := by omega
 all_goals
  unfold Instr.index
  simp [asIntOf, run_underlying hu, go_sem]
  rfl
theorem faultsV_eq : faultsV = .agg faultsC := rfl
theorem strike_any {w : World} {B : Nat} {s : PSt} {O : List Nat} (h : SAt w B s O) (hs : Small s.seen) (f : Flt) (hf : f.fits) :
 Calls Tryz.prog 42 #[.pointer (some ⟨B, 0, none⟩), .agg #[.int .u8 f.kind, .int .i64 f.store, .int .i64 f.n, .int .i64 f.at_, .int .i64 f.c]] w (StPost w B O (.int .i64 (hitE f)) (struckS s f)) := by
 obtain ⟨k, st, n, at_, c⟩ := f
 obtain ⟨⟨hk0, hk1⟩, ⟨hn0, hn1⟩, ⟨ha0, ha1⟩, ⟨hc0, hc1⟩⟩ := hf
 have bx := Blk.new w 34 #[.int .u8 k, .int .i64 st, .int .i64 n, .int .i64 at_, .int .i64 c]
 have HR := Lib.hid (show SRd w.heap.size B O s k st n at_ c (w.alloc (.cells #[.int .u8 k, .int .i64 st, .int .i64 n, .int .i64 at_, .int .i64 c] 34)) from ⟨bx.cell 0, bx.cell 1, bx.cell 2, bx.cell 3, bx.cell 4, h.keep (Fr.alloc _ _) (by simp)⟩)
 have HF := Lib.hid ((Fr.alloc w (.cells #[.int .u8 k, .int .i64 st, .int .i64 n, .int .i64 at_, .int .i64 c] 34)).nil (O := O))
 have HS := Lib.hid hs
 clear h hs bx
 by_cases hok : (⟨k, st, n, at_, c⟩ : Flt).okB = true
 ·have h1 : 1 ≤ k ∧ k ≤ 7 ∧ 0 ≤ n ∧ 0 ≤ at_ ∧ 0 ≤ c ∧ c ≤ 255 := by simpa [Flt.okB] using hok
  obtain ⟨q1, q2, q3, q4, q5, q6⟩ := h1
  have HE := Lib.hid (show hitE ⟨k, st, n, at_, c⟩ = 0 ∧ struckS s ⟨k, st, n, at_, c⟩ = hitS s ⟨k, st, n, at_, c⟩ from ⟨by rw [hitE, if_pos hok], by rw [struckS, if_pos hok]⟩)
  clear hok
  go_enter Tryz.func42, Tryz.ntmps42
  go_wp2_with fail
  refine Stab.rg 6 [[], [], [1], [0, 2], [], []] [3, 4, 5] (SRd w.heap.size B O s k st n at_ c) [Stab.eqv ?_, Stab.eqv ?_, Stab.eqv ?_, Stab.eqv (.func (.func (hitN k)) #[] #[]), Stab.eqv ?_, Stab.eqv ?_] (HR.out.ext (Stab.Ext.drew _)) (fun _ _ h hE => h.ext hE) ?goals5 ?last5
  case goals5 =>
   simp only [List.take_succ_cons, List.take_zero]
   refine Stab.Goals.plain rfl rfl (fun us w cK hE hS hp hK => ?_) ?_
   ·go_simp
    go_wp2_with (go_at_call 82; ((with_reducible refine (faults_any _).mono ?_); rintro e w1 ⟨rfl, hb⟩))
    refine hK _ _ ?_ hb
    show _ = _
    with_reducible rfl
   iterate 2
    refine Stab.gp (fun us w _ hE hS hp hK => ?_) ?_
    ·((try have e0 : _ = _ := hp.1); (try have e1 : _ = _ := hp.2.1); (try have e2 : _ = _ := hp.2.2.1); obtain ⟨s0, s1, s2, s3, s4, s5⟩ := hS; go_simp; exact hK _ _ (by show _ = _; with_reducible rfl) (Stab.Ext.refl _))
   refine Stab.Goals.plain rfl rfl (fun us w cK hE hS hp hK => ?_) ?_
   ·obtain ⟨h0, h2, -⟩ := hp
    replace h0 : us 0 = _ := h0
    replace h2 : us 2 = _ := h2
    rw [faultsV_eq] at h0
    have hi := run_hit k q1 q2 w
    go_simp
    refine hK _ _ ?_ (Stab.Ext.refl _)
    show _ = _
    with_reducible rfl
   iterate 2
    refine Stab.gp (fun us w _ hE hS hp hK => ?_) ?_
    ·((try have e0 : _ = _ := hp.1); (try have e1 : _ = _ := hp.2.1); (try have e2 : _ = _ := hp.2.2.1); obtain ⟨s0, s1, s2, s3, s4, s5⟩ := hS; go_simp; exact hK _ _ (by show _ = _; with_reducible rfl) (Stab.Ext.refl _))
   exact Stab.Goals.nil
  case last5 =>
   intro us w2 hE hS hp
   obtain ⟨h3, h4, h5, -⟩ := hp
   replace h3 : us 3 = .func (.func (hitN k)) #[] #[] := h3
   replace h4 : us 4 = _ := h4
   replace h5 : us 5 = _ := h5
   simp only [List.drop_succ_cons, List.drop_zero, h3, h4, h5]
   have HF2 := Lib.hid (HF.out.next (Fr.of_below ((Stab.Ext.drew _).trans hE)))
   have HCON := Lib.hid (hit_any hS.st HS.out k st n at_ c q1 q2 q3 hn1 q4 ha1 q5 q6)
   clear hE hS h3 h4 h5
   obtain rfl | rfl | rfl | rfl | rfl | rfl | rfl : k = 1 ∨ k = 2 ∨ k = 3 ∨ k = 4 ∨ k = 5 ∨ k = 6 ∨ k = 7 := by omega
   ·change Hid (Calls _ 112 _ _ _) at HCON
    rw [show hitN 1 = 112 from rfl]
    go_wp2_with (go_at_call 112; with_reducible refine HCON.out.mono ?_)
    intro e w3 hp
    have HP := Lib.hid (hp.front HF2.out)
    obtain ⟨rfl, -⟩ := hp
    go_wp2_with fail
    go_ret
    obtain ⟨-, O', p1, p2, p3⟩ := HP.out
    rw [HE.out.1, HE.out.2]
    exact ⟨rfl, O', p1, p2, p3⟩
   ·change Hid (Calls _ 113 _ _ _) at HCON
    rw [show hitN 2 = 113 from rfl]
    go_wp2_with (go_at_call 113; with_reducible refine HCON.out.mono ?_)
    intro e w3 hp
    have HP := Lib.hid (hp.front HF2.out)
    obtain ⟨rfl, -⟩ := hp
    go_wp2_with fail
    go_ret
    obtain ⟨-, O', p1, p2, p3⟩ := HP.out
    rw [HE.out.1, HE.out.2]
    exact ⟨rfl, O', p1, p2, p3⟩
   ·change Hid (Calls _ 114 _ _ _) at HCON
    rw [show hitN 3 = 114 from rfl]
    go_wp2_with (go_at_call 114; with_reducible refine HCON.out.mono ?_)
    intro e w3 hp
    have HP := Lib.hid (hp.front HF2.out)
    obtain ⟨rfl, -⟩ := hp
    go_wp2_with fail
    go_ret
    obtain ⟨-, O', p1, p2, p3⟩ := HP.out
    rw [HE.out.1, HE.out.2]
    exact ⟨rfl, O', p1, p2, p3⟩
   ·change Hid (Calls _ 115 _ _ _) at HCON
    rw [show hitN 4 = 115 from rfl]
    go_wp2_with (go_at_call 115; with_reducible refine HCON.out.mono ?_)
    intro e w3 hp
    have HP := Lib.hid (hp.front HF2.out)
    obtain ⟨rfl, -⟩ := hp
    go_wp2_with fail
    go_ret
    obtain ⟨-, O', p1, p2, p3⟩ := HP.out
    rw [HE.out.1, HE.out.2]
    exact ⟨rfl, O', p1, p2, p3⟩
   ·change Hid (Calls _ 116 _ _ _) at HCON
    rw [show hitN 5 = 116 from rfl]
    go_wp2_with (go_at_call 116; with_reducible refine HCON.out.mono ?_)
    intro e w3 hp
    have HP := Lib.hid (hp.front HF2.out)
    obtain ⟨rfl, -⟩ := hp
    go_wp2_with fail
    go_ret
    obtain ⟨-, O', p1, p2, p3⟩ := HP.out
    rw [HE.out.1, HE.out.2]
    exact ⟨rfl, O', p1, p2, p3⟩
   ·change Hid (Calls _ 117 _ _ _) at HCON
    rw [show hitN 6 = 117 from rfl]
    go_wp2_with (go_at_call 117; with_reducible refine HCON.out.mono ?_)
    intro e w3 hp
    have HP := Lib.hid (hp.front HF2.out)
    obtain ⟨rfl, -⟩ := hp
    go_wp2_with fail
    go_ret
    obtain ⟨-, O', p1, p2, p3⟩ := HP.out
    rw [HE.out.1, HE.out.2]
    exact ⟨rfl, O', p1, p2, p3⟩
   ·change Hid (Calls _ 118 _ _ _) at HCON
    rw [show hitN 7 = 118 from rfl]
    go_wp2_with (go_at_call 118; with_reducible refine HCON.out.mono ?_)
    intro e w3 hp
    have HP := Lib.hid (hp.front HF2.out)
    obtain ⟨rfl, -⟩ := hp
    go_wp2_with fail
    go_ret
    obtain ⟨-, O', p1, p2, p3⟩ := HP.out
    rw [HE.out.1, HE.out.2]
    exact ⟨rfl, O', p1, p2, p3⟩
 ·have h1 : (decide (k < 1) || decide (7 < k) || decide (n < 0) || decide (at_ < 0) || decide (c < 0) || decide (255 < c)) = true := by
   cases hb : (decide (k < 1) || decide (7 < k) || decide (n < 0) || decide (at_ < 0) || decide (c < 0) || decide (255 < c)) with
   | true => rfl
   | false =>
     exfalso
     apply hok
     simp at hb
     simp [Flt.okB]
     omega
  have HE := Lib.hid (show hitE ⟨k, st, n, at_, c⟩ = 1 ∧ struckS s ⟨k, st, n, at_, c⟩ = s from ⟨by rw [hitE, if_neg hok], by rw [struckS, if_neg hok]⟩)
  clear hok
  go_enter Tryz.func42, Tryz.ntmps42
  go_wp2_with fail
  all_goals
   go_ret
   rw [HE.out.1, HE.out.2]
   exact ⟨rfl, O, HR.out.st, HF.out, fun _ h => .inl h⟩
end Vm
end Go.Proofs.YtnbkhdbligjifaaGreatDoor
