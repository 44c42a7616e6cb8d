/-
 An oracle of the interpreter: walk.caught, where what it does throws nothing.
-/
import Derived.Test.YtonklkbgiidkgaaGreatDoorRfKeys
import Derived.Tactics
import Derived.Tactics2
import Derived.Defers
import Derived.Recover
import Derived.Laws.Pointers
namespace Go.Proofs.YtonklkbgiidkgaaGreatDoor.Refl
open Go Go.RowKit
namespace Abs
set_option linter.unusedVariables false
set_option linter.unusedSimpArgs false
theorem caught_idle (p : Addr) (w : World) :
   CallsD Tryz.prog 152 #[.pointer (some p)] .returning w fun e u' w' => e = .returned (.tuple #[]) ∧ u' = .returning ∧ w' = w := by
 refine callsD_of_wpS Tryz.func152 rfl fun c₀ cs hu => ?_
 apply wpS_seq
 apply wpS_region
 simp [wpOpsS, go_sem, recoverD, hu, Tryz.ntmps152, Exit.thenS]
 refine wpS_of_wp ?_
 simp only [Array.replicate_succ, Array.replicate_zero, List.push_toArray, List.append_toArray, List.nil_append, List.cons_append, List.setIfInBounds_toArray, List.set_cons_succ, List.set_cons_zero]
 have hbn : (binOp .eql 20 .nilIface .nilIface).run Tryz.prog w = .ok (.bool true) w := by
   have hd : ∀ d : Nat, (Op.equalIn (d + 1) 20 .nilIface .nilIface).run Tryz.prog w = .ok true w := fun d => by
     simp [Op.equalIn, run_underlying Tryz.underlying20]
   simp only [binOp]
   simp [Op.equal, Op.maxDepth, hd 9999]
 go_wp2
 cases c₀
 simp_all [bodyPostS, results, Tryz.results152, Exit.inBlock]
theorem caught_walk {g : Nat} {fs cs : Array Value} {w : World} {Q : World → Prop} (he : ∀ args w, (callFunc g args).run Tryz.prog w = .ok (.enter g args) w)
   (h : Calls Tryz.prog g (fs ++ #[] ++ cs) (w.alloc (.cells #[.int .i64 0] 24)) fun e w1 => ∃ v, e = .returned v ∧ w1.heap[w.heap.size]? = some (.cells #[.int .i64 0] 24 (0, 0)) ∧ Q w1) :
   Calls Tryz.prog 91 #[.func (.func g) fs cs] w fun e w' => e = .returned (.int .i64 0) ∧ ∃ w1, Q w1 ∧ w1.heap[w.heap.size]? = some (.cells #[.int .i64 0] 24 (0, 0)) ∧ w' = w1.setCell ⟨w.heap.size, 0, none⟩ (.int .i64 0) := by
 have hmf : ∀ (fn : Fn) (first cap : Array Value) (w : World), (Instr.makeFunc fn first cap).run Tryz.prog w = .ok (.func fn first cap) w := fun _ _ _ _ => rfl
 go_enter_defers Tryz.func91, Tryz.ntmps91
 obtain ⟨bx, hbx⟩ : ∃ bx, w.heap.size = bx := ⟨_, rfl⟩
 rw [hbx] at h ⊢
 go_wp2_with fail
 rw [Array.append_empty] at h
 refine h.mono ?_
 rintro e w1 ⟨v, rfl, hcell, hQ⟩
 have hc : w1.cell? ⟨bx, 0, none⟩ = some (.int .i64 0) := by simp [World.cell?, hcell]
 have hz : w1.frozen? ⟨bx, 0, none⟩ = false := by simp [World.frozen?, hcell]
 go_wp2_with fail
 refine leaves_cons (f := 152) (args := #[.pointer (some ⟨bx, 0, none⟩)]) (by simp) (by simp [go_sem]) ?_
 refine (caught_idle ⟨bx, 0, none⟩ _).mono ?_
 rintro e u' w'' ⟨rfl, rfl, rfl⟩
 have hc2 : (w1.setCell ⟨bx, 0, none⟩ (.int .i64 0)).cell? ⟨bx, 0, none⟩ = some (.int .i64 0) := World.cell?_setCell_same _ _ _ hc
 simp [Leaves, settle, results, Tryz.results91, go_sem, hc2]
 exact ⟨w1, hQ, hcell, rfl⟩
noncomputable def caughtO (gs : List Nat) (call : Nat → List AVal → AState → KV Unit → Option Unit) (args : List AVal) (S : AState) (K : KV Unit) : Option Unit := match args with
 | [.fn (.func g) a c] => match memB g gs with
   | true => call g (a ++ c) S fun _ S => K (.int .i64 (.ofNat 0)) S
   | false => none
 | _ => none
theorem caught_ok {W : World} {G : Nat} {C : Cfg Unit} {n : Nat} {gs : List Nat} (hC : CfgOk ⟨Tryz.prog, compC Tryz.prog G, G, W⟩ Unit C) (hg : ∀ g ∈ gs, C.orc.get g = none) :
   FuncOk ⟨Tryz.prog, compC Tryz.prog G, G, W⟩ Unit 91 (caughtO gs (fcallF C (fexec C n))) := by
 have hcall : fcallF C (fexec C n) = callF C (exec C n) := by
   funext g args S K
   rw [fexec_eq, fcallF_eq]
 rw [hcall]
 intro args S K r h hok
 unfold caughtO at h
 split at h
 case h_2 => cases h
 rename_i g a c
 split at h
 case h_2 => cases h
 rename_i hm
 rw [memB_iff] at hm
 have hno := hg g hm
 obtain ⟨fn, hfn⟩ : ∃ fn, C.fns.get g = some fn := by
   have h2 := h
   unfold callF at h2
   rw [hno] at h2
   dsimp only at h2
   split at h2
   · rename_i fn hfn; exact ⟨fn, hfn⟩
   · cases h2
 obtain ⟨F, code, hF⟩ := hC.fns g fn hfn
 have he : ∀ args w, (callFunc g args).run Tryz.prog w = .ok (.enter g args) w := fun args w => run_callFunc_enter hF.at_ hF.name hF.body args w
 obtain ⟨v1, S1, h, hst1, hgo1⟩ := callF_calls hC n hno h hok
 refine ⟨_, _, h, hst1, fun M f w us hs hM hus => ?_⟩
 obtain ⟨u, us', hus', ⟨g2, fs, cs, rfl, hfn2, hfs, hcs⟩, hnil⟩ := hus
 cases hnil
 have hus2 : us = #[.func g2 fs cs] := by
   have := congrArg List.toArray hus'
   simpa using this
 have hfn2 : g2 = .func g := by
   cases g2 <;> first | (cases hfn2; rfl) | exact absurd hfn2 (by simp [FnRel])
 subst hfn2 hus2
 have hb0 : Below w.heap.size w (w.alloc (.cells #[.int .i64 0] 24)) := (Below.refl _ _).alloc (Nat.le_refl _) _
 have hstep0 := Step.below hs hb0
 have hf0 : ∀ b N, f b ≠ some (w.heap.size, N) := fun b N hb => Nat.lt_irrefl _ (hs.lt b _ N hb)
 have hlt0 : w.heap.size < (w.alloc (.cells #[.int .i64 0] 24)).heap.size := by
   show w.heap.size < (w.heap.push _).size
   rw [Array.size_push]; omega
 have hbox0 : (w.alloc (.cells #[.int .i64 0] 24)).heap[w.heap.size]? = some (.cells #[.int .i64 0] 24 (0, 0)) := Go.heap_alloc_new ..
 refine goes_of_calls Tryz.func91 (by kernel_rfl) rfl ((caught_walk (Q := fun w1 => OpPost ⟨Tryz.prog, compC Tryz.prog G, G, W⟩ M f S.v w (.int .i64 (.ofNat 0)) S1.v (.int .i64 0) w1) he ((hgo1 M f _ (fs ++ #[] ++ cs) hstep0.sim hM ?_).mono ?_)).mono ?_)
 · rw [Array.append_empty, Array.toList_append]
   exact VRels.append hfs hcs
 · rintro e w1 ⟨v1', rfl, f1, hstep1, hr1⟩
   exact ⟨v1', rfl, (hstep1.aside hlt0 hf0).trans hbox0, f1, hstep0.trans hstep1, rfl⟩
 · rintro e w' ⟨rfl, w1, hQ, hcell, rfl⟩
   refine ⟨_, rfl, ?_⟩
   rw [setCell_at hcell, show (#[Value.int .i64 0].setIfInBounds 0 (Value.int .i64 0)) = #[Value.int .i64 0] from rfl, setObjAt_same hcell]
   exact hQ
end Abs
end Go.Proofs.YtonklkbgiidkgaaGreatDoor.Refl
