/-
 Calls, all of the code; the interpreter once more, so that the kernel runs it fast. No program is named.
-/
import Derived.Test.YtfkchheildfkpaaGreatDoorRfC
namespace Go.Proofs.YtfkchheildfkpaaGreatDoor.Refl
open Go Go.RowKit
namespace Abs
set_option linter.unusedVariables false
set_option linter.unusedSimpArgs false
section
variable {E : Env} {R : Type} {r : R} {C : Cfg R} {ih : Exec R}
theorem run_callFunc_enter {P : Program} {f : FuncId} {F : Func} {code : Code} (hf : P.funcs[f]? = some F) (hn : (F.name == "runtime.NumGoroutine") = false) (hb : F.body = some code) (us : Array Value) (w : World) : (callFunc f us).run P w = .ok (.enter f us) w := by
 have hn' : ¬ F.name = "runtime.NumGoroutine" := by simpa using hn
 simp [callFunc, hf, hn', hb, Sem.run]
theorem callB_leaves (hC : CfgOk E R C) (hih : ExecOk E R ih) {g : Nat} {fn : AFunc} {F : Func} {code : Code} (hF : FnOk E g fn F code) {args : List AVal} {S : AState} {K : KV R} {r : R} (h : callB ih fn args S K = some r) (hok : AOk E S) :
   ∃ v S', K v S' = some r ∧ AStep E S S' ∧ ∀ (M : Nat) (f : Inj) (w : World) (us : Array Value), Sim E M f S.v w → S'.next ≤ M → VRels f args us.toList → ∀ cs : List Frame,
     ∃ v' w' fr, OpPost E M f S.v w v S'.v v' w' ∧ Steps E.P (lone (Frame.enter E.P g us .normal) cs w) (lone fr cs w') ∧ fr.fn = g ∧ fr.leaving E.P w' (.returned v') := by
 unfold callB at h
 split at h
 case h_2 => cases h
 rename_i hle hsm
 rw [Nat.ble_eq] at hle
 have hsm := small_lt hsm
 rw [forceT_eq] at h
 rw [← hF.comp] at h
 obtain ⟨x, τ', ds', S1, h1, hst1, hgo⟩ := hih _ _ _ _ _ _ _ _ h hsm hok
 have hx : x = .normal ∨ x = .ret := by
   cases x with
   | normal => exact .inl rfl
   | ret => exact .inr rfl
   | exit id => cases h1
 have h1 : (unwA ds' S1 fun S => resultsA τ' S fn.results fun v => K v S) = some r := by
   rcases hx with rfl | rfl <;> exact h1
 obtain ⟨S2, h2, hst2, hgo2⟩ := unwA_ok (E := E) ds' S1 _ h1
 obtain ⟨v, h3, hgo3⟩ := results_ok (P := E.P) (comp := E.comp) (F := F) hF.res h2
 refine ⟨v, S2, h3, hst1.trans hst2, fun M f w us hs hM hus cs => ?_⟩
 have hlen := hus.length
 have hlen : args.length = us.size := by simpa using hlen
 let b : Frame := { fn := g, tmps := #[], todo := [], defers := [], mode := .run, kind := .normal }
 let a : Act := { tmps := us ++ Array.replicate (F.ntmps - us.size) undef, defers := [] }
 have henter : Frame.enter E.P g us .normal = b.atR a [.code code] := by
   simp [Frame.enter, Frame.atR, hF.at_, hF.body, b, a]
 have hts : a.tmps.size = fn.ntmps := by
   have := hF.ntmps
   simp [a]; omega
 have ht : TRel f (putCells .leaf 0 args) a.tmps fn.ntmps := by
   refine ⟨hts, fun n => ?_⟩
   unfold tget
   rw [getCell_eq, putCells_get _ _ _ _ (by omega), Array.getD_eq_getD_getElem?]
   by_cases hn : n < args.length
   · rw [if_pos (by omega), Nat.sub_zero]
     obtain ⟨u, hu, hr⟩ := hus.get (i := n) (a := args[n]) (by simp [hn])
     have hu : us[n]? = some u := by simpa using hu
     have : a.tmps[n]? = some u := by
       show (us ++ Array.replicate (F.ntmps - us.size) undef)[n]? = some u
       rw [Array.getElem?_append_left (by omega)]; exact hu
     rw [this]
     simpa [hn] using hr
   · rw [if_neg (by omega), T.get_leaf]
     have : (a.tmps[n]?).getD undef = undef := by
       show ((us ++ Array.replicate (F.ntmps - us.size) undef)[n]?).getD undef = undef
       rw [Array.getElem?_append_right (by omega), Array.getElem?_replicate]
       split <;> rfl
     rw [this]
     exact VRel.undef f
 obtain ⟨f1, a1, w1, hstep1, ht1, hd1, harr⟩ := hgo M f w a b hs (Nat.le_trans hst2.next hM) ht rfl rfl [] cs
 obtain ⟨fr, hsteps, hfr⟩ : ∃ fr : Frame, Steps E.P (lone (b.atR a [.code code]) cs w) (lone fr cs w1) ∧ fr.mode = .returning ∧ fr.defers = a1.defers ∧ fr.kind = .normal ∧ fr.fn = g ∧ fr.tmps = a1.tmps := by
   rcases hx with rfl | rfl
   · exact ⟨_, Steps.trans harr (.one (stepR_end rfl)), rfl, rfl, rfl, rfl, rfl⟩
   · obtain ⟨k', hs'⟩ := harr
     exact ⟨_, Steps.trans hs' (.one (stepR_ret rfl)), rfl, rfl, rfl, rfl, rfl⟩
 obtain ⟨q1, q2, q3, q4, q5⟩ := hfr
 obtain ⟨w2, hstep2, hsteps2⟩ := hgo2 M f1 w1 fr cs hstep1.sim hM (by rw [q2]; exact hd1) q1
 obtain ⟨u, hrun, hu⟩ := hgo3 f1 w2 fr.tmps fn.ntmps hstep2.sim.blk (by rw [q5]; exact ht1)
 refine ⟨u, w2, { fr with defers := [] }, ⟨f1, hstep1.trans hstep2, hu⟩, ?_, q4, ⟨q1, rfl, q3, F, by rw [show ({ fr with defers := [] } : Frame).fn = fr.fn from rfl, q4]; exact hF.at_, hrun⟩⟩
 rw [henter]
 exact Steps.trans hsteps hsteps2
theorem callF_ok (hC : CfgOk E R C) (hih : ExecOk E R ih) (g : Nat) : FuncOk E R g (callF C ih g) := by
 intro args S K r h hok
 unfold callF at h
 split at h
 · rename_i o ho
   exact hC.orc g o ho args S K r h hok
 split at h
 case h_2 => cases h
 rename_i fn hfn
 obtain ⟨F, code, hF⟩ := hC.fns g fn hfn
 obtain ⟨v, S', hK, hst, hgo⟩ := callB_leaves hC hih hF h hok
 refine ⟨v, S', hK, hst, fun M f w us hs hM hus => .inr (.inr ⟨.enter g us, _, w, run_callFunc_enter hF.at_ hF.name hF.body us w, rfl, fun c cs => ?_⟩)⟩
 obtain ⟨v', w', fr, hp, hs', _, hl⟩ := hgo M f w us hs hM hus (c :: cs)
 exact ⟨v', w', hp, Steps.trans hs' (.one (step_leave_returned hl))⟩
theorem run_getLoop {P : Program} {w : World} {L : Nat} {lp : Loop} (h : w.heap[L]? = some (.loop lp)) : (Instr.getLoop L).run P w = .ok lp w := by
 simp only [Instr.getLoop, Sem.run_bind, getObj, Sem.run, h, Result.andThen_ok]; rfl
theorem run_setLoop {P : Program} {w : World} {L : Nat} {lp : Loop} (h : w.heap[L]? = some (.loop lp)) (o : Obj) : (setObj L o).run P w = .ok () (World.setObjAt w L o) := by
 simp only [setObj, Sem.run, h]; rfl
theorem bindP_nil {args : List AVal} {τ : T AVal} {K : T AVal → Option R} : bindP [] args τ K = match args with | [] => K τ | _ :: _ => none := rfl
theorem bindP_cons {p : Nat} {ps : List Nat} {args : List AVal} {τ : T AVal} {K : T AVal → Option R} : bindP (p :: ps) args τ K = match args with | [] => none | v :: args => T.setK v 40 τ p fun τ => bindP ps args τ K := rfl
theorem bindP_ok : ∀ {ps : List Nat} {args : List AVal} {τ : T AVal} {K : T AVal → Option R}, bindP ps args τ K = some r → ∃ τ', K τ' = some r ∧ args.length = ps.length ∧
   ∀ (f : Inj) (us : List Value) (tmps : Array Value) (size : Nat), size ≤ 1000000000 → ps.all (fun p => Nat.ble (Nat.succ p) size) = true → VRels f args us → TRel f τ tmps size → TRel f τ' ((ps.zip us).foldl (fun tmps (x : Nat × Value) => tmps.setIfInBounds x.1 x.2) tmps) size
 | [], [], τ, K, h => ⟨τ, h, rfl, fun f us tmps size hsz hp hu ht => by cases hu; exact ht⟩
 | [], _ :: _, τ, K, h => by rw [bindP_nil] at h; cases h
 | p :: ps, [], τ, K, h => by rw [bindP_cons] at h; cases h
 | p :: ps, v :: args, τ, K, h => by
   rw [bindP_cons] at h
   dsimp only at h
   rw [T.setK_eq] at h
   obtain ⟨τ', hK, hl, hgo⟩ := bindP_ok h
   refine ⟨τ', hK, by simp [hl], fun f us tmps size hsz hp hu ht => ?_⟩
   obtain ⟨u, us', rfl, hr, hrs⟩ := hu
   rw [List.all_cons, Bool.and_eq_true, Nat.ble_eq] at hp
   rw [List.zip_cons_cons, List.foldl_cons]
   refine hgo f us' _ size hsz hp.2 hrs ?_
   have := TRel.put (a := { tmps := tmps, defers := [] }) (d := some p) ht hr (fun t he => by cases he; exact hp.1) hsz
   exact this
theorem loop_set {M : Nat} {f : Inj} {S : AState} {w : World} (hs : Sim E M f S.v w) (hsm : S.next ≤ 1000000000) (hM : S.next ≤ M) {l : Nat} {st : LoopState} {pend : Option ACode} {size : Nat} {τ : T AVal} {ps : List Nat} {aa ab : ACode} {ca cb : Code} {dsb : Nat}
   (hg : S.heap.get l = some (.loop st pend size τ ps aa ab ca cb dsb)) {L N : Nat} (hf : f l = some (L, N)) :
   ∃ lp : Loop, w.heap[L]? = some (.loop lp) ∧ lp.state = st ∧ CodeRel E.comp pend lp.pending ∧
     ∀ (st' : LoopState) (pend' : Option ACode) (p' : Option Code), CodeRel E.comp pend' p' → Step E M f S.v w f (⟨T.put (.loop st' pend' size τ ps aa ab ca cb dsb) 40 S.heap l, S.next, S.floor, logA S l⟩ : AState).v (World.setObjAt w L (.loop { lp with state := st', pending := p' })) := by
 obtain ⟨obj, hobj, hb⟩ := hs.blk l _ hg L N hf
 obtain ⟨lp, ds', rfl, h2, h3, h4, h5, h6, h7, h8, h9⟩ := hb
 refine ⟨lp, hobj, h2, h3, fun st' pend' p' hp => ?_⟩
 exact Step.write hs hsm hM hg rfl rfl hf rfl rfl rfl rfl ⟨_, ds', rfl, rfl, hp, h4, h5, h6, h7, h8, h9⟩
theorem run_endRound {P : Program} {w : World} {L : Nat} {lp : Loop} (h : w.heap[L]? = some (.loop lp)) (jump : Option Code) : (Instr.endRound L jump).run P w = .ok (.bool jump.isNone) (World.setObjAt w L (.loop { lp with state := if jump.isNone then .ready else .done, pending := jump })) := by
 simp only [Instr.endRound, Sem.run_bind, run_getLoop h, Result.andThen_ok, run_setLoop h, Sem.run_pure]
theorem run_beginRound {P : Program} {w : World} {L : Nat} {lp : Loop} (h : w.heap[L]? = some (.loop lp)) (hs : lp.state = .ready) : (Instr.beginRound L).run P w = .ok () (World.setObjAt w L (.loop { lp with state := .busy })) := by
 simp only [Instr.beginRound, Sem.run_bind, run_getLoop h, Result.andThen_ok, run_setLoop h, hs, Sem.run_pure]
theorem callY_ok (hC : CfgOk E R C) (hih : ExecOk E R ih) (l : Nat) : ∀ (args : List AVal) (S : AState) (K : KV R) (r : R), callY ih l args S K = some r → AOk E S → ∃ v S', K v S' = some r ∧ AStep E S S' ∧
   ∀ (M : Nat) (f : Inj) (w : World) (us : Array Value) (L N : Nat), Sim E M f S.v w → S'.next ≤ M → VRels f args us.toList → f l = some (L, N) → Goes E.P ((Instr.yield L us).run E.P w) (OpPost E M f S.v w v S'.v) := by
 intro args S K r h hok
 unfold callY at h
 split at h
 case h_2 => cases h
 rename_i pend size tmps ps assign body ca cb dsb hg
 split at h
 case h_2 => cases h
 rename_i hps hsm
 have hsm := small_lt hsm
 obtain ⟨τ1, h, hal, hbind⟩ := bindP_ok h
 obtain ⟨hca, hcb⟩ := hok.comp l _ hg
 have hca' : compC E.P E.G ca = assign := by rw [← hC.comp]; exact hca
 have hcb' : compC E.P E.G cb = body := by rw [← hC.comp]; exact hcb
 rw [← hca'] at h
 obtain ⟨x1, τ2, ds2, S1, h, hst1, hgo1⟩ := hih _ _ _ _ _ _ _ _ h hsm hok
 split at h
 case h_2 => cases h
 rename_i pend1 size1 tmps1 ps1 aa1 ab1 ca1 cb1 dsb1 hg1
 obtain ⟨hsm1, h⟩ := writeC_eq h
 have hok1 := hst1.ok hok
 have hst2 : AStep E S1 _ := AStep.write (blk := .loop .busy pend1 size1 tmps1 ps1 aa1 ab1 ca1 cb1 dsb1) hg1 (by have := hok1.comp l _ hg1; exact this)
 have hok2 := hst2.ok hok1
 rw [← hcb'] at h
 obtain ⟨x3, τ3, ds3, S3, h, hst3, hgo3⟩ := hih _ _ _ _ _ _ _ _ h hsm hok2
 split at h
 case h_2 => cases h
 rename_i st3 pend3 size3 tmps3 ps3 aa3 ab3 ca3 cb3 dsb3 hg3
 have hok3 := hst3.ok hok2
 have fin : ∀ (st' : LoopState) (pend' : Option ACode) (jump : Option Code) (h4 : K (.bool jump.isNone) ⟨T.put (.loop st' pend' size3 tmps3 ps3 aa3 ab3 ca3 cb3 dsb3) 40 S3.heap l, S3.next, S3.floor, logA S3 l⟩ = some r) (hsm3 : S3.next ≤ 1000000000),
     st' = (if jump.isNone then .ready else .done) → CodeRel E.comp pend' jump →
     (∀ (b : Frame) (a : Act) (c : Frame) (cs : List Frame) (w : World) (L : Nat) (m : Machine) (v : Value) (w' : World), b.roundOf = some L → b.kind = .normal → Arr E.P m b [] (c :: cs) x3 a w → (Instr.endRound L jump).run E.P w = .ok v w' → Steps E.P m (lone (c.finish v) cs w')) →
     ∃ v S', K v S' = some r ∧ AStep E S S' ∧
       ∀ (M : Nat) (f : Inj) (w : World) (us : Array Value) (L N : Nat), Sim E M f S.v w → S'.next ≤ M → VRels f args us.toList → f l = some (L, N) → Goes E.P ((Instr.yield L us).run E.P w) (OpPost E M f S.v w v S'.v) := by
   intro st' pend' jump h4 hsm3 hst' hpend' hend
   have hst4 : AStep E S3 _ := AStep.write (blk := .loop st' pend' size3 tmps3 ps3 aa3 ab3 ca3 cb3 dsb3) hg3 (by have := hok3.comp l _ hg3; exact this)
   refine ⟨_, _, h4, hst1.trans (hst2.trans (hst3.trans hst4)), fun M f w us L N hs hM hus hf => ?_⟩
   obtain ⟨obj, hobj, hb⟩ := hs.blk l _ hg L N hf
   obtain ⟨lp, ds', rfl, hlst, _, hltm, hlps, hla, hlb, _, _⟩ := hb
   subst hla
   subst hlb
   have hlen := hus.length
   have hsize : us.size = lp.params.size := by
     have : lp.params.toList.length = ps.length := by rw [hlps]
     simp at this hlen; omega
   have hM3 : S3.next ≤ M := hM
   have hM2 : S1.next ≤ M := Nat.le_trans hst3.next hM
   have hM0 : S.next ≤ M := Nat.le_trans hst1.next hM2
   let b : Frame := { fn := lp.fn, tmps := #[], todo := [], defers := [], mode := .run, kind := .normal, roundOf := some L }
   let a : Act := { tmps := (lp.params.zip us).foldl (fun tmps (x : Nat × Value) => tmps.setIfInBounds x.1 x.2) lp.tmps, defers := [] }
   have hfr : Frame.round L lp.fn a.tmps lp.assign lp.body .normal = b.atR a [.code lp.assign, .beginRound, .code lp.body] := rfl
   have hrun : (Instr.yield L us).run E.P w = .ok (.round L lp.fn a.tmps lp.assign lp.body) w := by
     simp only [Instr.yield, Sem.run_bind, run_getLoop hobj, Result.andThen_ok]
     rw [if_neg (by omega)]
     rfl
   have ht : TRel f τ1 a.tmps size := by
     have := hbind f us.toList lp.tmps size hsm hps hus hltm
     rw [← hlps, ← Array.toList_zip, Array.foldl_toList] at this
     exact this
   refine .inr (.inr ⟨_, _, w, hrun, rfl, fun c cs => ?_⟩)
   rw [hfr]
   obtain ⟨f1, a1, w1, hstep1, ht1, hd1, harr1⟩ := hgo1 M f w a b hs hM2 ht rfl ⟨L, N, hf, rfl⟩ [.beginRound, .code lp.body] (c :: cs)
   have hf1 := hstep1.le _ _ hf
   obtain ⟨lp1, ho1, hl1, hp1, hset1⟩ := loop_set hstep1.sim hsm1 hM2 hg1 hf1
   have hstep2 := hset1 .busy pend1 lp1.pending hp1
   have hbeg : step E.P (lone (b.atR a1 (.beginRound :: [.code lp.body])) (c :: cs) w1) = .next (lone (b.atR a1 [.code lp.body]) (c :: cs) _) := stepR_beginRound (l := L) rfl (run_beginRound ho1 hl1)
   obtain ⟨f3, a3, w3, hstep3, ht3, hd3, harr3⟩ := hgo3 M f1 _ a1 b hstep2.sim hM3 ht1 hd1 ⟨L, N, hf1, rfl⟩ [] (c :: cs)
   have hf3 := hstep3.le _ _ hf1
   obtain ⟨lp3, ho3, hl3, hp3, hset3⟩ := loop_set hstep3.sim hsm3 hM3 hg3 hf3
   have hstep4 := hset3 st' pend' jump hpend'
   subst hst'
   have hlast := hend b a3 c cs w3 L _ _ _ rfl rfl harr3 (run_endRound ho3 jump)
   exact ⟨_, _, ⟨f3, hstep1.trans (hstep2.trans (hstep3.trans hstep4)), rfl⟩, Steps.trans harr1 (.head hbeg hlast)⟩
 split at h
 · obtain ⟨hsm3, h⟩ := writeC_eq h
   exact fin _ _ none h hsm3 rfl rfl fun b a c cs w L m v w' h1 h2 h3 h4 => Steps.trans h3 (.one (stepR_round_end h1 h2 h4))
 · rename_i id
   obtain ⟨hsm3, h⟩ := writeC_eq h
   refine fin _ _ (some (.exit id)) h hsm3 rfl ⟨_, rfl, by rw [hC.comp]; rfl, .inr ⟨id, rfl⟩⟩ fun b a c cs w L m v w' h1 h2 h3 h4 => ?_
   obtain ⟨k', h5, h6⟩ := h3
   exact Steps.trans h5 (.one (stepR_round_exit h1 h2 h6 h4))
 · obtain ⟨hsm3, h⟩ := writeC_eq h
   refine fin _ _ (some .ret) h hsm3 rfl ⟨_, rfl, by rw [hC.comp]; rfl, .inl rfl⟩ fun b a c cs w L m v w' h1 h2 h3 h4 => ?_
   obtain ⟨k', h5⟩ := h3
   exact Steps.trans h5 (.one (stepR_round_ret h1 h2 h4))
end
end Abs
end Go.Proofs.YtfkchheildfkpaaGreatDoor.Refl
namespace Go.Proofs.YtfkchheildfkpaaGreatDoor.Refl
open Go Go.RowKit
namespace Abs
set_option linter.unusedVariables false
set_option linter.unusedSimpArgs false
section
variable {E : Env} {R : Type} {r : R} {C : Cfg R} {ih : Exec R}
theorem callV_ok (hC : CfgOk E R C) (hih : ExecOk E R ih) : CallOk E R (callV C ih) := by
 intro g as S K r h hok
 unfold callV at h
 split at h
 · rename_i f x y
   rw [lateL_eq, lateL_eq] at h
   obtain ⟨v, S', hK, hst, hgo⟩ := callF_ok hC hih f _ S K r h hok
   refine ⟨v, S', hK, hst, fun M f' w gv us hs hM hg hus => ?_⟩
   obtain ⟨g', fi, ca, rfl, hfn, hx, hy⟩ := hg
   have hfn : g' = .func f := hfn
   subst hfn
   have := hgo M f' w ((fi ++ us) ++ ca) hs hM (by simpa using (hx.append (hus.append hy)))
   simpa only [Deferred.ofValue, Sem.run_bind, Sem.run_pure, Result.andThen_ok, invoke] using this
 · rename_i l y
   obtain ⟨v, S', hK, hst, hgo⟩ := callY_ok hC hih l as S K r h hok
   refine ⟨v, S', hK, hst, fun M f' w gv us hs hM hg hus => ?_⟩
   obtain ⟨g', fi, ca, rfl, ⟨L, N, hl, rfl⟩, hx, hy⟩ := hg
   have hx : fi.toList = [] := hx
   have hfi : fi = #[] := by simpa using hx
   subst hfi
   have := hgo M f' w us L N hs hM hus hl
   simpa only [Deferred.ofValue, Sem.run_bind, Sem.run_pure, Result.andThen_ok, invoke, Array.empty_append, List.nil_append] using this
 · cases h
theorem run_endLoop {P : Program} {w : World} {L : Nat} {lp : Loop} (h : w.heap[L]? = some (.loop lp)) (hs : lp.state ≠ .busy) : (Instr.endLoop L).run P w = .ok lp.pending (World.setObjAt w L (.loop { lp with state := .exhausted })) := by
 have hb : (lp.state == LoopState.busy) = false := by
   cases hst : lp.state <;> first | rfl | (exact absurd hst hs)
 simp only [Instr.endLoop, Sem.run_bind, run_getLoop h, Result.andThen_ok, run_setLoop h, hb, Bool.false_eq_true, if_false, Sem.run_pure]
theorem step_endLoop {P : Program} {b : Frame} {a : Act} {k : List Item} {cs : List Frame} {w w' : World} {L : Nat} {jump : Option Code} (h : (Instr.endLoop L).run P w = .ok jump w') :
   step P (lone (b.atR a (.endRangeFunc L :: k)) cs w) = .next (lone (b.atR a ((jump.map Item.code).toList ++ k)) cs w') :=
 step_lone_go (by simp [stepG, stepG.exec, Frame.atR, Sem.runT_eq, h])
theorem rangeK_ok (hC : CfgOk E R C) (hih : ExecOk E R ih) {fv : AVal} {l : Nat} {τ : T AVal} {ds : List Nat} {S : AState} {K : KX R} (h : rangeK C ih fv l τ ds S K = some r) (hok : AOk E S) :
   ∃ x S', K x τ ds S' = some r ∧ AStep E S S' ∧ ∀ (M : Nat) (f : Inj) (w : World) (gv : Value) (L N : Nat), Sim E M f S.v w → S'.next ≤ M → VRel f fv gv → f l = some (L, N) → ∀ (b : Frame) (a : Act) (k : List Item) (cs : List Frame) (fr0 : Frame) (w0 : World),
     (stepG E.P true { frame := fr0, callers := cs, status := .running, dying := none } w0).bare = (stepG.apply E.P true (b.atR a (.inRangeFunc L :: k)) cs none (Deferred.ofValue gv #[.func (.yield L) #[] #[]] >>= fun d => invoke d.target d.args) w).bare →
     ∃ f' w', Step E M f S.v w f' S'.v w' ∧ Arr E.P (lone fr0 cs w0) b k cs x a w' := by
 unfold rangeK at h
 obtain ⟨v, S1, h, hst1, hgo⟩ := callV_ok hC hih _ _ _ _ _ h hok
 split at h
 case h_2 => cases h
 rename_i st pend size tmps ps aa ab ca cb dsb hg
 have hok1 := hst1.ok hok
 have hne : st ≠ .busy := by
   intro he; subst he; cases h
 have h : (writeC S1 l (.loop .exhausted pend size tmps ps aa ab ca cb dsb) fun S => match pend with
       | none => K .normal τ ds S
       | some .ret => K .ret τ ds S
       | some (.exit id) => K (.exit id) τ ds S
       | _ => none) = some r := by
   cases st <;> first | exact h | exact absurd rfl hne
 obtain ⟨hsm, h⟩ := writeC_eq h
 have hst2 : AStep E S1 _ := AStep.write (blk := .loop .exhausted pend size tmps ps aa ab ca cb dsb) hg (by have := hok1.comp l _ hg; exact this)
 have key : ∀ (x : AExit), (∀ (jump : Option Code) (b : Frame) (a : Act) (k : List Item) (cs : List Frame) (w : World) (m : Machine), CodeRel E.comp pend jump → Steps E.P m (lone (b.atR a ((jump.map Item.code).toList ++ k)) cs w) → Arr E.P m b k cs x a w) →
     ∀ (M : Nat) (f : Inj) (w : World) (gv : Value) (L N : Nat), Sim E M f S.v w → S1.next ≤ M → VRel f fv gv → f l = some (L, N) → ∀ (b : Frame) (a : Act) (k : List Item) (cs : List Frame) (fr0 : Frame) (w0 : World),
     (stepG E.P true { frame := fr0, callers := cs, status := .running, dying := none } w0).bare = (stepG.apply E.P true (b.atR a (.inRangeFunc L :: k)) cs none (Deferred.ofValue gv #[.func (.yield L) #[] #[]] >>= fun d => invoke d.target d.args) w).bare →
     ∃ f' w', Step E M f S.v w f' (⟨T.put (.loop .exhausted pend size tmps ps aa ab ca cb dsb) 40 S1.heap l, S1.next, S1.floor, logA S1 l⟩ : AState).v w' ∧ Arr E.P (lone fr0 cs w0) b k cs x a w' := by
   intro x hx M f w gv L N hs hM hgv hf b a k cs fr0 w0 hstep
   have hgoes := hgo M f w gv #[.func (.yield L) #[] #[]] hs hM hgv ⟨_, _, rfl, ⟨_, _, _, rfl, ⟨L, N, hf, rfl⟩, rfl, rfl⟩, rfl⟩
   obtain ⟨v', w1, ⟨f1, hstep1, _⟩, hsteps⟩ := apply_goes (P := E.P) (by simp [Frame.atR]) hgoes hstep
   have hf1 := hstep1.le _ _ hf
   obtain ⟨lp, ho, hl, hp, hset⟩ := loop_set hstep1.sim hsm hM hg hf1
   have hstep2 := hset .exhausted pend lp.pending hp
   refine ⟨f1, _, hstep1.trans hstep2, hx lp.pending b a k cs _ _ hp ?_⟩
   refine Steps.trans hsteps (.one ?_)
   exact step_endLoop (run_endLoop ho (by rw [hl]; exact hne))
 split at h
 · exact ⟨.normal, _, h, hst1.trans hst2, fun M f w gv L N hs hM => key .normal (fun jump b a k cs w m hj hs => by
     have hj : jump = none := hj
     subst hj; exact hs) M f w gv L N hs hM⟩
 · exact ⟨.ret, _, h, hst1.trans hst2, fun M f w gv L N hs hM => key .ret (fun jump b a k cs w m hj hs => by
     obtain ⟨c, rfl, hc, hcc⟩ := hj
     rcases hcc with rfl | ⟨i, rfl⟩
     · exact ⟨k, hs⟩
     · rw [hC.comp] at hc; cases hc) M f w gv L N hs hM⟩
 · rename_i id _ _
   exact ⟨.exit id, _, h, hst1.trans hst2, fun M f w gv L N hs hM => key (.exit id) (fun jump b a k cs w m hj hs => by
     obtain ⟨c, rfl, hc, hcc⟩ := hj
     rcases hcc with rfl | ⟨i, rfl⟩
     · rw [hC.comp] at hc; cases hc
     · rw [hC.comp] at hc; cases hc
       exact ⟨k, hs, rfl⟩) M f w gv L N hs hM⟩
 · cases h
theorem step_range {P : Program} {b : Frame} {a : Act} {k : List Item} {cs : List Frame} {w w' : World} {g : Operand} {ps : Array Tmp} {ca cb : Code} {L : Nat} {mark : List Deferred} (hrun : (Instr.enterLoop b.fn a.tmps ps ca cb b.roundOf).run P w = .ok (L, mark) w') :
   (stepG P true { frame := b.atR a (.code (.rangeFunc g ps ca cb) :: k), callers := cs, status := .running, dying := none } w).bare =
     (stepG.apply P true (b.atR { tmps := a.tmps, defers := mark ++ a.defers } (.inRangeFunc L :: k)) cs none (Deferred.ofValue (a.eval g) #[.func (.yield L) #[] #[]] >>= fun d => invoke d.target d.args) w').bare := by
 simp only [stepG, stepG.exec, Frame.atR, Sem.runT_eq, hrun, GStep.bare_after]
 have hr : ∀ (fr : Frame), fr.eval g = a.eval g → (resolve fr.eval { callee := .value g, args := #[.const (.func (.yield L) #[] #[])], argTypes := #[] } 0) = Deferred.ofValue (a.eval g) #[.func (.yield L) #[] #[]] := by
   intro fr h
   have hm : (#[Operand.const (Value.func (Fn.yield L) #[] #[])].map fr.eval) = #[Value.func (Fn.yield L) #[] #[]] := by simp [Frame.eval]
   simp only [resolve, h, hm]
 rw [hr _ (by cases g <;> rfl)]
theorem loop_shift {P : Program} {b : Frame} {a a' : Act} {k : List Item} {cs : List Frame} {w w' : World} {c : Code} {x : AExit} (h : Arr P (lone (b.atR a (.code (.loop c) :: k)) cs w) b k cs x a' w') :
   Arr P (lone (b.atR a (.inLoop c :: k)) cs w) b k cs x a' w' := by
 have key : ∀ (m : Machine), (∀ (k' : List Item) , m = lone (b.atR a' k') cs w' → k' ≠ .code (.loop c) :: k) → Steps P (lone (b.atR a (.code (.loop c) :: k)) cs w) m → (∃ k', m = lone (b.atR a' k') cs w') → Steps P (lone (b.atR a (.inLoop c :: k)) cs w) m := by
   intro m hm hs ⟨k', hk'⟩
   obtain ⟨n, hn⟩ := hs
   cases n with
   | zero =>
     exfalso
     simp only [runN] at hn
     have he : lone (b.atR a (.code (.loop c) :: k)) cs w = m := by injection hn
     rw [hk'] at he
     have : Item.code (.loop c) :: k = k' := by
       have := congrArg (fun m : Machine => (m.gs[0]?).map fun g => g.frame.todo) he
       simpa [lone, Frame.atR] using this
     exact hm k' hk' this.symm
   | succ n =>
     simp only [runN, stepR_loop] at hn
     exact .head stepR_inLoop ⟨n, hn⟩
 cases x with
 | normal => exact key _ (fun k' he hk => by
     have := congrArg (fun m : Machine => (m.gs[0]?).map fun g => g.frame.todo) he
     have : k = k' := by simpa [lone, Frame.atR] using this
     rw [← this] at hk
     have := congrArg List.length hk
     simp at this) h ⟨k, rfl⟩
 | exit id =>
   obtain ⟨k1, h1, h2⟩ := h
   refine ⟨k1, key _ (fun k' he hk => ?_) h1 ⟨_, rfl⟩, h2⟩
   have := congrArg (fun m : Machine => (m.gs[0]?).map fun g => g.frame.todo) he
   have : Item.code (.exit id) :: k1 = k' := by simpa [lone, Frame.atR] using this
   rw [← this] at hk; simp at hk
 | ret =>
   obtain ⟨k1, h1⟩ := h
   refine ⟨k1, key _ (fun k' he hk => ?_) h1 ⟨_, rfl⟩⟩
   have := congrArg (fun m : Machine => (m.gs[0]?).map fun g => g.frame.todo) he
   have : Item.code .ret :: k1 = k' := by simpa [lone, Frame.atR] using this
   rw [← this] at hk; simp at hk
theorem exec_step (hC : CfgOk E R C) (hih : ExecOk E R ih) : ∀ (c : Code) (ro : Option Nat) (size : Nat) (τ : T AVal) (ds : List Nat) (S : AState) (K : KX R) (r : R), execStep C ih ro size (compC E.P E.G c) τ ds S K = some r → size ≤ 1000000000 → AOk E S →
   ∃ x τ' ds' S', K x τ' ds' S' = some r ∧ AStep E S S' ∧ CodeOk E ro size c τ ds S x τ' ds' S'
 | .skip, ro, size, τ, ds, S, K, r, h, hsz, hok => ⟨.normal, τ, ds, S, h, .refl _, fun M f w a b hs hM ht hd hr k cs => ⟨f, a, w, .refl hs, ht, hd, .one stepR_skip⟩⟩
 | .label l, ro, size, τ, ds, S, K, r, h, hsz, hok => ⟨.normal, τ, ds, S, h, .refl _, fun M f w a b hs hM ht hd hr k cs => ⟨f, a, w, .refl hs, ht, hd, .one stepR_label⟩⟩
 | .exit id, ro, size, τ, ds, S, K, r, h, hsz, hok => ⟨.exit id, τ, ds, S, h, .refl _, fun M f w a b hs hM ht hd hr k cs => ⟨f, a, w, .refl hs, ht, hd, k, Steps.refl _ _, rfl⟩⟩
 | .ret, ro, size, τ, ds, S, K, r, h, hsz, hok => ⟨.ret, τ, ds, S, h, .refl _, fun M f w a b hs hM ht hd hr k cs => ⟨f, a, w, .refl hs, ht, hd, k, Steps.refl _ _⟩⟩
 | .goto l, ro, size, τ, ds, S, K, r, h, hsz, hok => by cases h
 | .refuse l, ro, size, τ, ds, S, K, r, h, hsz, hok => by cases h
 | .scope c, ro, size, τ, ds, S, K, r, h, hsz, hok => by
   obtain ⟨x, τ', ds', S', hK, hst, hgo⟩ := exec_step hC hih c ro size τ ds S K r h hsz hok
   refine ⟨x, τ', ds', S', hK, hst, fun M f w a b hs hM ht hd hr k cs => ?_⟩
   obtain ⟨f', a', w', h1, h2, h3, h4⟩ := hgo M f w a b hs hM ht hd hr (.inScope c :: k) cs
   refine ⟨f', a', w', h1, h2, h3, .of_steps (.one stepR_scope) ?_⟩
   by_cases hx : x = .normal
   · subst hx; exact Steps.trans h4 (.one stepR_inScope)
   · exact Arr.pass (fun id => rfl) hx h4
 | .region id ops draw, ro, size, τ, ds, S, K, r, h, hsz, hok => by
   simp only [compC] at h
   split at h
   case h_2 => cases h
   rename_i l hl
   simp only [execStep] at h
   split at h
   case h_2 => cases h
   rename_i hb
   rw [Nat.ble_eq] at hb
   have key : ∀ (τ' : T AVal) (S' : AState), RegionOk E size id ops draw τ S τ' S' → CodeOk E ro size (.region id ops draw) τ ds S .normal τ' ds S' := by
     intro τ' S' hgo M f w a b hs hM ht hd hr k cs
     obtain ⟨f', a', w', h1, h2, h3, h4⟩ := hgo M f w a hs hM ht b k cs
     exact ⟨f', a', w', h1, h2, by rw [h3]; exact hd.mono h1.le, h4⟩
   cases draw with
   | true =>
     obtain ⟨τ', S', hK, hst, hgo⟩ := draw_ok (id := id) hC.mixed (callV_ok hC hih) hl hb hsz hok h
     exact ⟨.normal, τ', ds, S', hK, hst, key _ _ hgo⟩
   | false =>
     obtain ⟨τ', S', hK, hst, hgo⟩ := text_ok (id := id) (callV_ok hC hih) hl hb hsz hok h
     exact ⟨.normal, τ', ds, S', hK, hst, key _ _ hgo⟩
 | .seq c d, ro, size, τ, ds, S, K, r, h, hsz, hok => by
   simp only [compC, execStep] at h
   obtain ⟨x, τ1, ds1, S1, h, hst1, hgo1⟩ := hih _ _ _ _ _ _ _ _ h hsz hok
   have key : x ≠ .normal → CodeOk E ro size (.seq c d) τ ds S x τ1 ds1 S1 := fun hx M f w a b hs hM ht hd hr k cs => by
     obtain ⟨f', a', w', h1, h2, h3, h4⟩ := hgo1 M f w a b hs hM ht hd hr (.code d :: k) cs
     exact ⟨f', a', w', h1, h2, h3, .of_steps (.one stepR_seq) (Arr.pass (fun id => rfl) hx h4)⟩
   cases x with
   | normal =>
     obtain ⟨x2, τ2, ds2, S2, hK, hst2, hgo2⟩ := hih _ _ _ _ _ _ _ _ h hsz (hst1.ok hok)
     refine ⟨x2, τ2, ds2, S2, hK, hst1.trans hst2, fun M f w a b hs hM ht hd hr k cs => ?_⟩
     obtain ⟨f1, a1, w1, h1, h2, h3, h4⟩ := hgo1 M f w a b hs (Nat.le_trans hst2.next hM) ht hd hr (.code d :: k) cs
     obtain ⟨f2, a2, w2, g1, g2, g3, g4⟩ := hgo2 M f1 w1 a1 b h1.sim hM h2 h3 (hr.mono h1.le) k cs
     exact ⟨f2, a2, w2, h1.trans g1, g2, g3, .of_steps (.head stepR_seq h4) g4⟩
   | exit id => exact ⟨_, τ1, ds1, S1, h, hst1, key (by simp)⟩
   | ret => exact ⟨_, τ1, ds1, S1, h, hst1, key (by simp)⟩
 | .cond g c d, ro, size, τ, ds, S, K, r, h, hsz, hok => by
   simp only [compC] at h
   split at h
   case h_2 => cases h
   rename_i g' hg
   simp only [execStep] at h
   have key : ∀ (t : Bool) (e : Code), AOpd.eval τ g' = .bool t → e = (if t then c else d) → ih ro size (compC E.P E.G e) τ ds S K = some r → ∃ x τ' ds' S', K x τ' ds' S' = some r ∧ AStep E S S' ∧ CodeOk E ro size (.cond g c d) τ ds S x τ' ds' S' := by
     intro t e ht he h
     obtain ⟨x, τ1, ds1, S1, hK, hst1, hgo1⟩ := hih _ _ _ _ _ _ _ _ h hsz hok
     refine ⟨x, τ1, ds1, S1, hK, hst1, fun M f w a b hs hM htr hd hr k cs => ?_⟩
     obtain ⟨f', a', w', h1, h2, h3, h4⟩ := hgo1 M f w a b hs hM htr hd hr k cs
     have hv := opds_rel (G := E.G) htr hs.glob g g' hg
     rw [ht] at hv
     have hv : a.eval g = .bool t := hv
     exact ⟨f', a', w', h1, h2, h3, .of_steps (.one (stepR_cond hv)) (by rw [← he]; exact h4)⟩
   split at h
   · rename_i ht; exact key true c ht rfl h
   · rename_i ht; exact key false d ht rfl h
   · cases h
 | .block id c, ro, size, τ, ds, S, K, r, h, hsz, hok => by
   simp only [compC, execStep] at h
   obtain ⟨x, τ1, ds1, S1, h, hst1, hgo1⟩ := hih _ _ _ _ _ _ _ _ h hsz hok
   cases x with
   | normal =>
     refine ⟨_, τ1, ds1, S1, h, hst1, fun M f w a b hs hM ht hd hr k cs => ?_⟩
     obtain ⟨f', a', w', h1, h2, h3, h4⟩ := hgo1 M f w a b hs hM ht hd hr (.inBlock id :: k) cs
     exact ⟨f', a', w', h1, h2, h3, .head stepR_block (Steps.trans h4 (.one stepR_inBlock))⟩
   | ret =>
     refine ⟨_, τ1, ds1, S1, h, hst1, fun M f w a b hs hM ht hd hr k cs => ?_⟩
     obtain ⟨f', a', w', h1, h2, h3, k', h4⟩ := hgo1 M f w a b hs hM ht hd hr (.inBlock id :: k) cs
     exact ⟨f', a', w', h1, h2, h3, k', .head stepR_block h4⟩
   | exit id' =>
     dsimp only at h
     split at h
     · rename_i he
       rw [Nat.beq_eq] at he
       subst he
       refine ⟨_, τ1, ds1, S1, h, hst1, fun M f w a b hs hM ht hd hr k cs => ?_⟩
       obtain ⟨f', a', w', h1, h2, h3, k', h4, h5⟩ := hgo1 M f w a b hs hM ht hd hr (.inBlock id :: k) cs
       refine ⟨f', a', w', h1, h2, h3, .head stepR_block (Steps.trans h4 (.one (stepR_exit ?_)))⟩
       rw [h5]; simp [exitTo]
     · rename_i he
       have he : id ≠ id' := fun e => by subst e; rw [show Nat.beq id id = true by rw [Nat.beq_eq]] at he; cases he
       refine ⟨_, τ1, ds1, S1, h, hst1, fun M f w a b hs hM ht hd hr k cs => ?_⟩
       obtain ⟨f', a', w', h1, h2, h3, k', h4, h5⟩ := hgo1 M f w a b hs hM ht hd hr (.inBlock id :: k) cs
       refine ⟨f', a', w', h1, h2, h3, k', .head stepR_block h4, ?_⟩
       rw [h5]
       have : (id == id') = false := by simpa using he
       simp [exitTo, this]
 | .loop c, ro, size, τ, ds, S, K, r, h, hsz, hok => by
   simp only [compC, execStep] at h
   obtain ⟨x, τ1, ds1, S1, h, hst1, hgo1⟩ := hih _ _ _ _ _ _ _ _ h hsz hok
   have key : x ≠ .normal → CodeOk E ro size (.loop c) τ ds S x τ1 ds1 S1 := fun hx M f w a b hs hM ht hd hr k cs => by
     obtain ⟨f', a', w', h1, h2, h3, h4⟩ := hgo1 M f w a b hs hM ht hd hr (.inLoop c :: k) cs
     exact ⟨f', a', w', h1, h2, h3, .of_steps (.one stepR_loop) (Arr.pass (fun id => rfl) hx h4)⟩
   cases x with
   | normal =>
     have h : ih ro size (compC E.P E.G (.loop c)) τ1 ds1 S1 K = some r := h
     obtain ⟨x2, τ2, ds2, S2, hK, hst2, hgo2⟩ := hih _ _ _ _ _ _ _ _ h hsz (hst1.ok hok)
     refine ⟨x2, τ2, ds2, S2, hK, hst1.trans hst2, fun M f w a b hs hM ht hd hr k cs => ?_⟩
     obtain ⟨f1, a1, w1, h1, h2, h3, h4⟩ := hgo1 M f w a b hs (Nat.le_trans hst2.next hM) ht hd hr (.inLoop c :: k) cs
     obtain ⟨f2, a2, w2, g1, g2, g3, g4⟩ := hgo2 M f1 w1 a1 b h1.sim hM h2 h3 (hr.mono h1.le) k cs
     exact ⟨f2, a2, w2, h1.trans g1, g2, g3, .of_steps (.head stepR_loop h4) (loop_shift g4)⟩
   | exit id => exact ⟨_, τ1, ds1, S1, h, hst1, key (by simp)⟩
   | ret => exact ⟨_, τ1, ds1, S1, h, hst1, key (by simp)⟩
 | .rangeFunc g ps ca cb, ro, size, τ, ds, S, K, r, h, hsz, hok => by
   simp only [compC] at h
   split at h
   case h_2 => cases h
   rename_i g' hg
   simp only [execStep] at h
   rw [forceV_eq] at h
   have hcomp : ∀ (d : Nat), CompB E (.loop .ready none size τ ps.toList (compC E.P E.G ca) (compC E.P E.G cb) ca cb d) := fun d => by
     show E.comp ca = _ ∧ E.comp cb = _
     rw [hC.comp]; exact ⟨rfl, rfl⟩
   split at h
   · -- in a function
     obtain ⟨hn1, h⟩ := allocS_eq h
     obtain ⟨hn2, h⟩ := allocS_eq h
     have hst1 : AStep E S _ := AStep.alloc (.defd) trivial
     have hst2 := AStep.alloc (E := E) (S := ⟨T.put .defd 40 S.heap S.next, S.next + 1, S.floor, S.wl⟩) _ (hcomp S.next)
     obtain ⟨x, S', hK, hst3, hgo⟩ := rangeK_ok hC hih h (hst2.ok (hst1.ok hok))
     refine ⟨x, τ, S.next :: ds, S', hK, hst1.trans (hst2.trans hst3), fun M f w a b hs hM ht hd hr k cs => ?_⟩
     have hb : b.roundOf = none := hr
     have hM2 : S.next + 1 + 1 ≤ M := Nat.le_trans hst3.next hM
     have step1 := Step.alloc hs hn1 (by omega) (blk := .defd) (obj := .deferred (some [])) (N := 0) (w' := w.alloc (.deferred (some []))) rfl rfl rfl rfl (fun g _ _ => rfl)
     have step2 := Step.alloc (S := ⟨T.put .defd 40 S.heap S.next, S.next + 1, S.floor, S.wl⟩) step1.sim hn2 hM2 (blk := .loop .ready none size τ ps.toList (compC E.P E.G ca) (compC E.P E.G cb) ca cb S.next)
       (obj := .loop { state := .ready, pending := none, fn := b.fn, tmps := a.tmps, params := ps, assign := ca, body := cb, defers := w.heap.size }) (N := 0)
       (w' := (w.alloc (.deferred (some []))).alloc (.loop { state := .ready, pending := none, fn := b.fn, tmps := a.tmps, params := ps, assign := ca, body := cb, defers := w.heap.size })) rfl rfl rfl rfl (fun g hg _ => by
         have h1 := hg _ _ (upd_same f S.next (w.heap.size, 0))
         exact ⟨_, _, rfl, rfl, rfl, ht.mono (Inj.le_trans step1.le hg), rfl, rfl, rfl, h1, rfl⟩)
     have hle := Inj.le_trans step1.le step2.le
     have hrun : (Instr.enterLoop b.fn a.tmps ps ca cb b.roundOf).run E.P w = .ok ((w.alloc (.deferred (some []))).heap.size, [{ target := .collected w.heap.size, args := #[] }])
         ((w.alloc (.deferred (some []))).alloc (.loop { state := .ready, pending := none, fn := b.fn, tmps := a.tmps, params := ps, assign := ca, body := cb, defers := w.heap.size })) := by
       rw [hb]
       simp only [Instr.enterLoop, Sem.run_bind, run_newObj, Result.andThen_ok, Sem.run_pure]
       rfl
     have hgv := (opds_rel (G := E.G) ht hs.glob g g' hg).mono hle
     obtain ⟨f', w', hstep3, harr⟩ := hgo M _ _ (a.eval g) _ 0 step2.sim hM hgv (upd_same ..) b { tmps := a.tmps, defers := { target := .collected w.heap.size, args := #[] } :: a.defers } k cs (b.atR a (.code (.rangeFunc g ps ca cb) :: k)) w (by
       exact step_range hrun)
     have hle3 := Inj.le_trans hle hstep3.le
     refine ⟨f', { tmps := a.tmps, defers := { target := .collected w.heap.size, args := #[] } :: a.defers }, w', step1.trans (step2.trans hstep3), ht.mono hle3, ⟨w.heap.size, 0, a.defers, rfl, ?_, hd.mono hle3⟩, harr⟩
     exact hstep3.le _ _ (step2.le _ _ (upd_same ..))
   · -- in a round of another loop
     rename_i l0
     split at h
     case h_2 => cases h
     rename_i st0 pend0 size0 tmps0 ps0 aa0 ab0 ca0 cb0 d0 hg0
     obtain ⟨hn1, h⟩ := allocS_eq h
     have hst1 := AStep.alloc (E := E) (S := S) _ (hcomp d0)
     obtain ⟨x, S', hK, hst3, hgo⟩ := rangeK_ok hC hih h (hst1.ok hok)
     refine ⟨x, τ, ds, S', hK, hst1.trans hst3, fun M f w a b hs hM ht hd hr k cs => ?_⟩
     obtain ⟨L0, N0, hf0, hb⟩ := hr
     obtain ⟨obj, hobj, hbr⟩ := hs.blk l0 _ hg0 L0 N0 hf0
     obtain ⟨lp, ds', rfl, _, _, _, _, _, _, hfd, hlpd⟩ := hbr
     have hM2 : S.next + 1 ≤ M := Nat.le_trans hst3.next hM
     have step2 := Step.alloc hs hn1 hM2 (blk := .loop .ready none size τ ps.toList (compC E.P E.G ca) (compC E.P E.G cb) ca cb d0)
       (obj := .loop { state := .ready, pending := none, fn := b.fn, tmps := a.tmps, params := ps, assign := ca, body := cb, defers := lp.defers }) (N := 0)
       (w' := w.alloc (.loop { state := .ready, pending := none, fn := b.fn, tmps := a.tmps, params := ps, assign := ca, body := cb, defers := lp.defers })) rfl rfl rfl rfl (fun g hg _ =>
         ⟨_, ds', rfl, rfl, rfl, ht.mono hg, rfl, rfl, rfl, hg _ _ hfd, hlpd⟩)
     have hrun : (Instr.enterLoop b.fn a.tmps ps ca cb b.roundOf).run E.P w = .ok (w.heap.size, [])
         (w.alloc (.loop { state := .ready, pending := none, fn := b.fn, tmps := a.tmps, params := ps, assign := ca, body := cb, defers := lp.defers })) := by
       rw [hb]
       simp only [Instr.enterLoop, Sem.run_bind, run_getLoop hobj, run_newObj, Result.andThen_ok, Sem.run_pure]
       rfl
     have hgv := (opds_rel (G := E.G) ht hs.glob g g' hg).mono step2.le
     obtain ⟨f', w', hstep3, harr⟩ := hgo M _ _ (a.eval g) _ 0 step2.sim hM hgv (upd_same ..) b { tmps := a.tmps, defers := a.defers } k cs (b.atR a (.code (.rangeFunc g ps ca cb) :: k)) w (by
       exact step_range hrun)
     have hle3 := Inj.le_trans step2.le hstep3.le
     exact ⟨f', a, w', step2.trans hstep3, ht.mono hle3, hd.mono hle3, harr⟩
theorem exec_ok (hC : CfgOk E R C) : ∀ n, ExecOk E R (exec C n)
 | 0 => fun ro size c τ ds S K r h => by cases h
 | n + 1 => fun ro size c τ ds S K r h hsz hok => exec_step hC (exec_ok hC n) c ro size τ ds S K r h hsz hok
end
end Abs
end Go.Proofs.YtfkchheildfkpaaGreatDoor.Refl
namespace Go.Proofs.YtfkchheildfkpaaGreatDoor.Refl
open Go Go.RowKit
namespace Abs
set_option linter.unusedVariables false
set_option linter.unusedSimpArgs false
def startA (heap : T ABlock) (G : Nat) : AState := ⟨heap, G, 0, []⟩
def startF (G : Nat) (N : Nat → Nat) : Inj := fun b => if b < G then some (b, N b) else none
theorem start_sim {E : Env} {heap : T ABlock} {N : Nat → Nat} (hG : E.G ≤ E.W.heap.size) (hb : ∀ b blk, heap.get b = some blk → b < E.G ∧ roB blk = true ∧ ∃ obj, E.W.heap[b]? = some obj ∧ BRel E.P E.comp (startF E.G N) (N b) blk obj) (M : Nat) :
   Sim E M (startF E.G N) (startA heap E.G).v E.W := by
 have hf : ∀ b B K, startF E.G N b = some (B, K) → b < E.G ∧ B = b ∧ K = N b := by
   intro b B K h
   unfold startF at h
   split at h <;> cases h
   exact ⟨by assumption, rfl, rfl⟩
 refine ⟨fun b b' B K K' h1 h2 _ _ => ?_, fun b h1 _ => ?_, fun b B K h => ?_, fun b blk h B K hk => ?_, fun g hg => ⟨N g, by simp [startF, hg]⟩, fun b h1 => ?_, fun b blk B K h1 h2 h3 => ?_, fun _ _ => rfl, Nat.le_refl _, rfl, rfl, rfl, Nat.zero_le _⟩
 · have := (hf _ _ _ h1).2.1; have := (hf _ _ _ h2).2.1; omega
 · have h1 : E.G ≤ b := h1
   simp [startF, Nat.not_lt.2 h1]
 · obtain ⟨h1, rfl, _⟩ := hf _ _ _ h; omega
 · obtain ⟨h1, rfl, rfl⟩ := hf _ _ _ hk
   exact (hb _ blk h).2.2
 · have h1 : E.G ≤ b := h1
   cases hg : heap.get b with
   | none => exact hg
   | some blk => have := (hb b blk hg).1; omega
 · have := (hb b blk h2).2.1
   rw [this] at h3; cases h3
theorem start_ok {E : Env} {heap : T ABlock} (hb : ∀ b blk, heap.get b = some blk → b < E.G ∧ roB blk = true) : AOk E (startA heap E.G) := by
 refine ⟨Nat.zero_le _, fun b h1 => ?_, fun b blk h => ?_⟩
 · have h1 : E.G ≤ b := h1
   cases hg : heap.get b with
   | none => exact hg
   | some blk => have := (hb b blk hg).1; omega
 · have := (hb b blk h).2
   cases blk <;> first | trivial | (simp [roB] at this)
noncomputable def isTrueK : KV Unit := fun v _ => match v with
 | .bool true => some ()
 | _ => none
theorem calls_true {E : Env} {C : Cfg Unit} (hC : CfgOk E Unit C) {g : Nat} {fn : AFunc} {F : Func} {code : Code} (hF : FnOk E g fn F code) {n : Nat} {heap : T ABlock} {N : Nat → Nat} (hG : E.G ≤ E.W.heap.size)
   (hb : ∀ b blk, heap.get b = some blk → b < E.G ∧ roB blk = true ∧ ∃ obj, E.W.heap[b]? = some obj ∧ BRel E.P E.comp (startF E.G N) (N b) blk obj) (h : callB (exec C n) fn [] (startA heap E.G) isTrueK = some ()) :
   Calls E.P g #[] E.W fun e W' => e = .returned (.bool true) ∧ Below E.W.heap.size E.W W' := by
 obtain ⟨v, S', hK, hst, hgo⟩ := callB_leaves hC (exec_ok hC n) hF h (start_ok fun b blk hbk => ⟨(hb b blk hbk).1, (hb b blk hbk).2.1⟩)
 have hv : v = .bool true := by
   unfold isTrueK at hK
   split at hK
   · rfl
   · cases hK
 subst hv
 intro cs
 obtain ⟨v', w', fr, ⟨f', hstep, hr⟩, hs, hfn, hl⟩ := hgo S'.next _ E.W #[] (start_sim hG hb _) (Nat.le_refl _) rfl cs
 have hr : v' = .bool true := hr
 subst hr
 exact ⟨.returned (.bool true), w', fr, ⟨rfl, hstep.sim.below⟩, hs, hfn, hl⟩
end Abs
end Go.Proofs.YtfkchheildfkpaaGreatDoor.Refl
namespace Go.Proofs.YtfkchheildfkpaaGreatDoor.Refl
open Go Go.RowKit
namespace Abs
set_option linter.unusedVariables false
def tabOf {α : Type} : List (Nat × α) → T α
 | [] => .leaf
 | p :: l => T.put p.2 40 (tabOf l) p.1
theorem tabOf_get {α : Type} {n : Nat} {x : α} : ∀ {l : List (Nat × α)}, (tabOf l).get n = some x → (n, x) ∈ l
 | [], h => by rw [tabOf, T.get_leaf] at h; cases h
 | p :: l, h => by
   rw [tabOf] at h
   by_cases hp : p.1 = n
   · rcases T.get_put_any _ _ _ _ _ _ h with h1 | h1
     · rw [← hp, h1]; exact List.mem_cons_self ..
     · exact List.mem_cons_of_mem _ (tabOf_get h1)
   · rw [T.get_put_other _ _ _ _ _ hp] at h
     exact List.mem_cons_of_mem _ (tabOf_get h)
def EntryOk (E : Env) (p : Nat × AFunc) : Prop := ∃ F code, FnOk E p.1 p.2 F code
theorem cfg_ok {E : Env} {R : Type} {C : Cfg R} {l : List (Nat × AFunc)} {os : List (Nat × (List AVal → AState → KV R → Option R))} (hl : ∀ p ∈ l, EntryOk E p) (hf : C.fns = tabOf l) (ho : ∀ p ∈ os, FuncOk E R p.1 p.2) (hoc : C.orc = tabOf os) (hc : E.comp = compC E.P E.G) (hm : E.P.follows .mixedOrders = true) : CfgOk E R C where
 fns := fun f fn h => hl (f, fn) (tabOf_get (by rw [← hf]; exact h))
 orc := fun f o h => ho (f, o) (tabOf_get (by rw [← hoc]; exact h))
 comp := hc
 mixed := hm
end Abs
end Go.Proofs.YtfkchheildfkpaaGreatDoor.Refl
namespace Go.Proofs.YtfkchheildfkpaaGreatDoor.Refl
open Go Go.RowKit
namespace Abs
set_option linter.unusedVariables false
theorem goes_of_calls {P : Program} {g : Nat} {F : Func} {code : Code} (hf : P.funcs[g]? = some F) (hn : (F.name == "runtime.NumGoroutine") = false) (hb : F.body = some code) {us : Array Value} {w : World} {Q : Value → World → Prop}
   (h : Calls P g us w fun e w' => ∃ v, e = .returned v ∧ Q v w') : Goes P ((callFunc g us).run P w) Q := by
 refine .inr (.inr ⟨.enter g us, _, w, run_callFunc_enter hf hn hb us w, rfl, fun c cs => ?_⟩)
 obtain ⟨e, w', fr, ⟨v, rfl, hq⟩, hs, hfn, hl⟩ := h (c :: cs)
 exact ⟨v, w', hq, Steps.trans hs (.one (step_leave_returned hl))⟩
theorem func_same {E : Env} {R : Type} {g : Nat} {o : List AVal → AState → KV R → Option R} {val : List AVal → AState → Option AVal} (ho : ∀ args S K r, o args S K = some r → ∃ v, val args S = some v ∧ K v S = some r)
   (h : ∀ (args : List AVal) (S : AState) (v : AVal), val args S = some v → ∀ (M : Nat) (f : Inj) (w : World) (us : Array Value), Sim E M f S.v w → VRels f args us.toList → Goes E.P ((callFunc g us).run E.P w) fun v' w' => w' = w ∧ VRel f v v') : FuncOk E R g o := by
 intro args S K r hr hok
 obtain ⟨v, hv, hK⟩ := ho args S K r hr
 exact ⟨v, S, hK, .refl _, fun M f w us hs hM hus => (h args S v hv M f w us hs hus).mono fun v' w' ⟨hw, hr⟩ => ⟨f, by rw [hw]; exact .refl hs, hr⟩⟩
theorem Step.below {E : Env} {M : Nat} {f : Inj} {S : VSt} {w w' : World} (h : Sim E M f S w) (hb : Below w.heap.size w w') : Step E M f S w f S w' := by
 obtain ⟨h1, h2, h3, h4, h5⟩ := hb
 refine ⟨f.le_refl, ⟨h.inj, h.fresh, fun b B N hf => Nat.lt_of_lt_of_le (h.lt b B N hf) h4, fun b blk hg B N hf => ?_, h.glob, h.none, h.base, fun k hk => ?_, Nat.le_trans h.big h4, h1.trans h.os, h2.trans h.tape, h3.trans h.output, h.flo⟩, h4, fun B hB _ => h5 B hB, Nat.le_refl _, rfl, fun _ h => h, fun _ _ _ => rfl, fun b B N h1 h2 => by rw [h1] at h2; cases h2⟩
 · obtain ⟨obj, ho, hr⟩ := h.blk b blk hg B N hf
   exact ⟨obj, by rw [h5 B (h.lt b B N hf)]; exact ho, hr⟩
 · rw [h5 k (Nat.lt_of_lt_of_le hk h.big)]; exact h.keep k hk
end Abs
end Go.Proofs.YtfkchheildfkpaaGreatDoor.Refl
namespace Go.Proofs.YtfkchheildfkpaaGreatDoor.Refl
open Go
namespace Abs
set_option linter.unusedVariables false
abbrev OU := Option Unit
abbrev KU := AVal → AState → OU
abbrev LA := List AVal
abbrev CU := AVal → LA → AState → KU → OU
abbrev TA := T AVal
noncomputable def fgetK (t : TA)  (n : Nat) (k : AVal → OU) : OU :=
 T.rec (motive := fun _ => Nat → (AVal → OU) → OU) (fun _ k => k undefA) (fun _ v _ gl gr n k => Nat.rec (motive := fun _ => Option AVal → (Nat → (AVal → OU) → OU) → (Nat → (AVal → OU) → OU) → (AVal → OU) → OU) (fun v _ _ k => Option.rec (motive := fun _ => (AVal → OU) → OU) (fun k => k undefA) (fun x k => k x) v k) (fun n _ _ gl gr k => Bool.rec (motive := fun _ => (Nat → (AVal → OU) → OU) → (Nat → (AVal → OU) → OU) → Nat → (AVal → OU) → OU) (fun _ gr n k => gr n k) (fun gl _ n k => gl n k) (Nat.beq (Nat.land n 1) 0) gl gr (Nat.shiftRight n 1) k) n v gl gr k) t n k
noncomputable def fcellK (t : TA) (d : AVal) (n : Nat) (k : AVal → OU) : OU :=
 T.rec (motive := fun _ => AVal → Nat → (AVal → OU) → OU) (fun d _ k => k d) (fun _ v _ gl gr d n k => Nat.rec (motive := fun _ => AVal → Option AVal → (AVal → Nat → (AVal → OU) → OU) → (AVal → Nat → (AVal → OU) → OU) → (AVal → OU) → OU) (fun d v _ _ k => Option.rec (motive := fun _ => AVal → (AVal → OU) → OU) (fun d k => k d) (fun x _ k => k x) v d k) (fun n _ d _ gl gr k => Bool.rec (motive := fun _ => (AVal → Nat → (AVal → OU) → OU) → (AVal → Nat → (AVal → OU) → OU) → AVal → Nat → (AVal → OU) → OU) (fun _ gr d n k => gr d n k) (fun gl _ d n k => gl d n k) (Nat.beq (Nat.land n 1) 0) gl gr d (Nat.shiftRight n 1) k) n d v gl gr k) t d n k
noncomputable def hgetK (t : T (ABlock))  (n : Nat) (k : ABlock → OU) : OU :=
 T.rec (motive := fun _ => Nat → (ABlock → OU) → OU) (fun _ k => none) (fun _ v _ gl gr n k => Nat.rec (motive := fun _ => Option (ABlock) → (Nat → (ABlock → OU) → OU) → (Nat → (ABlock → OU) → OU) → (ABlock → OU) → OU) (fun v _ _ k => Option.rec (motive := fun _ => (ABlock → OU) → OU) (fun k => none) (fun x k => k x) v k) (fun n _ _ gl gr k => Bool.rec (motive := fun _ => (Nat → (ABlock → OU) → OU) → (Nat → (ABlock → OU) → OU) → Nat → (ABlock → OU) → OU) (fun _ gr n k => gr n k) (fun gl _ n k => gl n k) (Nat.beq (Nat.land n 1) 0) gl gr (Nat.shiftRight n 1) k) n v gl gr k) t n k
noncomputable def fsetA_l (v : Option AVal) (r : TA) (K : TA → OU) (l : TA) : OU := K (.node l v r)
noncomputable def fsetA_r (l : TA) (v : Option AVal) (K : TA → OU) (r : TA) : OU := K (.node l v r)
noncomputable def fsetA (f : Nat) (x : AVal) (t : TA) (n : Nat) (K : TA → OU) : OU :=
 Nat.rec (motive := fun _ => AVal → TA → Nat → (TA → OU) → OU) (fun _ t _ K => K t) (fun _ ih x t n K => T.rec (motive := fun _ => (AVal → TA → Nat → (TA → OU) → OU) → AVal → Nat → (TA → OU) → OU) (fun ih x n K => Nat.rec (motive := fun _ => (AVal → TA → Nat → (TA → OU) → OU) → AVal → (TA → OU) → OU) (fun _ x K => K (.node .leaf (some x) .leaf)) (fun n _ ih x K => Bool.rec (motive := fun _ => (AVal → TA → Nat → (TA → OU) → OU) → AVal → Nat → (TA → OU) → OU) (fun ih x n K => ih x .leaf n (fsetA_r .leaf none K)) (fun ih x n K => ih x .leaf n (fsetA_l none .leaf K)) (Nat.beq (Nat.land n 1) 0) ih x (Nat.shiftRight n 1) K) n ih x K) (fun l v r _ _ ih x n K => Nat.rec (motive := fun _ => TA → Option AVal → TA → (AVal → TA → Nat → (TA → OU) → OU) → AVal → (TA → OU) → OU) (fun l _ r _ x K => K (.node l (some x) r)) (fun n _ l v r ih x K => Bool.rec (motive := fun _ => TA → Option AVal → TA → (AVal → TA → Nat → (TA → OU) → OU) → AVal → Nat → (TA → OU) → OU) (fun l v r ih x n K => ih x r n (fsetA_r l v K)) (fun l v r ih x n K => ih x l n (fsetA_l v r K)) (Nat.beq (Nat.land n 1) 0) l v r ih x (Nat.shiftRight n 1) K) n l v r ih x K) t ih x n K) f x t n K
noncomputable def fsetH_l (v : Option (ABlock)) (r : T (ABlock)) (K : T (ABlock) → OU) (l : T (ABlock)) : OU := K (.node l v r)
noncomputable def fsetH_r (l : T (ABlock)) (v : Option (ABlock)) (K : T (ABlock) → OU) (r : T (ABlock)) : OU := K (.node l v r)
noncomputable def fsetH (f : Nat) (x : ABlock) (t : T (ABlock)) (n : Nat) (K : T (ABlock) → OU) : OU :=
 Nat.rec (motive := fun _ => (ABlock) → T (ABlock) → Nat → (T (ABlock) → OU) → OU) (fun _ t _ K => K t) (fun _ ih x t n K => T.rec (motive := fun _ => ((ABlock) → T (ABlock) → Nat → (T (ABlock) → OU) → OU) → (ABlock) → Nat → (T (ABlock) → OU) → OU) (fun ih x n K => Nat.rec (motive := fun _ => ((ABlock) → T (ABlock) → Nat → (T (ABlock) → OU) → OU) → (ABlock) → (T (ABlock) → OU) → OU) (fun _ x K => K (.node .leaf (some x) .leaf)) (fun n _ ih x K => Bool.rec (motive := fun _ => ((ABlock) → T (ABlock) → Nat → (T (ABlock) → OU) → OU) → (ABlock) → Nat → (T (ABlock) → OU) → OU) (fun ih x n K => ih x .leaf n (fsetH_r .leaf none K)) (fun ih x n K => ih x .leaf n (fsetH_l none .leaf K)) (Nat.beq (Nat.land n 1) 0) ih x (Nat.shiftRight n 1) K) n ih x K) (fun l v r _ _ ih x n K => Nat.rec (motive := fun _ => T (ABlock) → Option (ABlock) → T (ABlock) → ((ABlock) → T (ABlock) → Nat → (T (ABlock) → OU) → OU) → (ABlock) → (T (ABlock) → OU) → OU) (fun l _ r _ x K => K (.node l (some x) r)) (fun n _ l v r ih x K => Bool.rec (motive := fun _ => T (ABlock) → Option (ABlock) → T (ABlock) → ((ABlock) → T (ABlock) → Nat → (T (ABlock) → OU) → OU) → (ABlock) → Nat → (T (ABlock) → OU) → OU) (fun l v r ih x n K => ih x r n (fsetH_r l v K)) (fun l v r ih x n K => ih x l n (fsetH_l v r K)) (Nat.beq (Nat.land n 1) 0) l v r ih x (Nat.shiftRight n 1) K) n l v r ih x K) t ih x n K) f x t n K
noncomputable def fN (n : Nat) (K : Nat → OU) : OU :=
 Nat.rec (motive := fun _ => (Nat → OU) → OU) (fun K => K 0) (fun m _ K => K (Nat.succ m)) n K
noncomputable def cS (S : AState) (k : AVal → AState → OU) (v : AVal) : OU :=
 k v S
noncomputable def cInt (kk : IntKind) (S : AState) (k : AVal → AState → OU) (c : Nat) : OU :=
 k (.int kk (.ofNat c)) S
noncomputable def fI (kk : IntKind) (n : Int) (S : AState) (k : AVal → AState → OU) : OU :=
 Int.rec (motive := fun _ => IntKind → AState → KU → OU) (fun m kk S k => fN m (cInt kk S k)) (fun m kk S k => k (.int kk (.negSucc m)) S) n kk S k
noncomputable def cOfNat (kk : IntKind) (S : AState) (k : AVal → AState → OU) (c : Nat) : OU :=
 Bool.rec (motive := fun _ => (IntKind) → (Nat) → AState → KU → OU) (fun kk c S k => fI kk (kk.wrap (.ofNat c)) S k) (fun kk c S k => k (.int kk (.ofNat c)) S) (Nat.ble (Nat.succ c) (lim kk)) kk c S k
noncomputable def fB (b : Bool) (S : AState) (k : AVal → AState → OU) : OU :=
 Bool.rec (motive := fun _ => AState → KU → OU) (fun S k => k (.bool false) S) (fun S k => k (.bool true) S) (b) S k
noncomputable def fres (r : Option SRes) (S : AState) (k : AVal → AState → OU) : OU :=
 match r with
 | some (.val v) => forceV v fun v => k v S
 | some (.new b v) => match plainB b with
   | true => allocS S b fun id S => forceV (v id) fun v => k v S
   | false => none
 | none => none
noncomputable def evK (x : AOpd) (τ : T AVal) (k : AVal → OU) : OU :=
 AOpd.rec (motive := fun _ => T AVal → (AVal → OU) → OU) (fun n τ k => fgetK τ n k) (fun v _ k => k v) x τ k
noncomputable def cCons (v : AVal) (K : LA → OU) (l : LA) : OU :=
 K (v :: l)
noncomputable def cEvs (ih : T AVal → (LA → OU) → OU) (τ : T AVal) (K : LA → OU) (v : AVal) : OU := ih τ (cCons v K)
noncomputable def evsK (l : List AOpd) (τ : T AVal) (K : LA → OU) : OU :=
 List.rec (motive := fun _ => T AVal → (LA → OU) → OU) (fun _ K => K []) (fun x _ ih τ K => evK x τ (cEvs ih τ K)) l τ K
noncomputable def iAdd (kk : IntKind) (m n : Int) (S : AState) (k : AVal → AState → OU) : OU :=
 Int.rec (motive := fun _ => IntKind → Int → AState → KU → OU) (fun a kk n S k => Int.rec (motive := fun _ => IntKind → Nat → AState → KU → OU) (fun b kk a S k => fN (Nat.add a b) (cOfNat kk S k)) (fun b kk a S k => fres (intBin .add kk (.ofNat a) (.negSucc b)) S k) n kk a S k) (fun a kk n S k => fres (intBin .add kk (.negSucc a) n) S k) m kk n S k
noncomputable def iSub (kk : IntKind) (m n : Int) (S : AState) (k : AVal → AState → OU) : OU :=
 Int.rec (motive := fun _ => IntKind → Int → AState → KU → OU) (fun a kk n S k => Int.rec (motive := fun _ => IntKind → Nat → AState → KU → OU) (fun b kk a S k => Bool.rec (motive := fun _ => (IntKind) → (Nat) → (Nat) → AState → KU → OU) (fun kk a b S k => fres (intBin .sub kk (.ofNat a) (.ofNat b)) S k) (fun kk a b S k => fN (Nat.sub a b) (cOfNat kk S k)) (Nat.ble b a) kk a b S k) (fun b kk a S k => fres (intBin .sub kk (.ofNat a) (.negSucc b)) S k) n kk a S k) (fun a kk n S k => fres (intBin .sub kk (.negSucc a) n) S k) m kk n S k
noncomputable def iMul (kk : IntKind) (m n : Int) (S : AState) (k : AVal → AState → OU) : OU :=
 Int.rec (motive := fun _ => IntKind → Int → AState → KU → OU) (fun a kk n S k => Int.rec (motive := fun _ => IntKind → Nat → AState → KU → OU) (fun b kk a S k => fN (Nat.mul a b) (cOfNat kk S k)) (fun b kk a S k => fres (intBin .mul kk (.ofNat a) (.negSucc b)) S k) n kk a S k) (fun a kk n S k => fres (intBin .mul kk (.negSucc a) n) S k) m kk n S k
noncomputable def iQuo (kk : IntKind) (m n : Int) (S : AState) (k : AVal → AState → OU) : OU :=
 Int.rec (motive := fun _ => IntKind → Int → AState → KU → OU) (fun a kk n S k => Int.rec (motive := fun _ => IntKind → Nat → AState → KU → OU) (fun b kk a S k => Nat.rec (motive := fun _ => IntKind → Nat → AState → KU → OU) (fun _ _ _ _ => none) (fun b _ kk a S k => fN (Nat.div a (Nat.succ b)) (cOfNat kk S k)) b kk a S k) (fun b kk a S k => fres (intBin .quo kk (.ofNat a) (.negSucc b)) S k) n kk a S k) (fun a kk n S k => fres (intBin .quo kk (.negSucc a) n) S k) m kk n S k
noncomputable def iRem (kk : IntKind) (m n : Int) (S : AState) (k : AVal → AState → OU) : OU :=
 Int.rec (motive := fun _ => IntKind → Int → AState → KU → OU) (fun a kk n S k => Int.rec (motive := fun _ => IntKind → Nat → AState → KU → OU) (fun b kk a S k => Nat.rec (motive := fun _ => IntKind → Nat → AState → KU → OU) (fun _ _ _ _ => none) (fun b _ kk a S k => fN (Nat.mod a (Nat.succ b)) (cInt kk S k)) b kk a S k) (fun b kk a S k => fres (intBin .rem kk (.ofNat a) (.negSucc b)) S k) n kk a S k) (fun a kk n S k => fres (intBin .rem kk (.negSucc a) n) S k) m kk n S k
noncomputable def iBand (kk : IntKind) (m n : Int) (S : AState) (k : AVal → AState → OU) : OU :=
 Int.rec (motive := fun _ => IntKind → Int → AState → KU → OU) (fun a kk n S k => Int.rec (motive := fun _ => IntKind → Nat → AState → KU → OU) (fun b kk a S k => Bool.rec (motive := fun _ => (IntKind) → (Nat) → (Nat) → AState → KU → OU) (fun kk a b S k => fres (intBin .and kk (.ofNat a) (.ofNat b)) S k) (fun kk a b S k => Bool.rec (motive := fun _ => (IntKind) → (Nat) → (Nat) → AState → KU → OU) (fun kk a b S k => fres (intBin .and kk (.ofNat a) (.ofNat b)) S k) (fun kk a b S k => fN (Nat.land a b) (cInt kk S k)) (Nat.ble (Nat.succ b) (lim kk)) kk a b S k) (Nat.ble (Nat.succ a) (lim kk)) kk a b S k) (fun b kk a S k => fres (intBin .and kk (.ofNat a) (.negSucc b)) S k) n kk a S k) (fun a kk n S k => fres (intBin .and kk (.negSucc a) n) S k) m kk n S k
noncomputable def iBor (kk : IntKind) (m n : Int) (S : AState) (k : AVal → AState → OU) : OU :=
 Int.rec (motive := fun _ => IntKind → Int → AState → KU → OU) (fun a kk n S k => Int.rec (motive := fun _ => IntKind → Nat → AState → KU → OU) (fun b kk a S k => Bool.rec (motive := fun _ => (IntKind) → (Nat) → (Nat) → AState → KU → OU) (fun kk a b S k => fres (intBin .or kk (.ofNat a) (.ofNat b)) S k) (fun kk a b S k => Bool.rec (motive := fun _ => (IntKind) → (Nat) → (Nat) → AState → KU → OU) (fun kk a b S k => fres (intBin .or kk (.ofNat a) (.ofNat b)) S k) (fun kk a b S k => fN (Nat.lor a b) (cInt kk S k)) (Nat.ble (Nat.succ b) (lim kk)) kk a b S k) (Nat.ble (Nat.succ a) (lim kk)) kk a b S k) (fun b kk a S k => fres (intBin .or kk (.ofNat a) (.negSucc b)) S k) n kk a S k) (fun a kk n S k => fres (intBin .or kk (.negSucc a) n) S k) m kk n S k
noncomputable def iBxor (kk : IntKind) (m n : Int) (S : AState) (k : AVal → AState → OU) : OU :=
 Int.rec (motive := fun _ => IntKind → Int → AState → KU → OU) (fun a kk n S k => Int.rec (motive := fun _ => IntKind → Nat → AState → KU → OU) (fun b kk a S k => Bool.rec (motive := fun _ => (IntKind) → (Nat) → (Nat) → AState → KU → OU) (fun kk a b S k => fres (intBin .xor kk (.ofNat a) (.ofNat b)) S k) (fun kk a b S k => Bool.rec (motive := fun _ => (IntKind) → (Nat) → (Nat) → AState → KU → OU) (fun kk a b S k => fres (intBin .xor kk (.ofNat a) (.ofNat b)) S k) (fun kk a b S k => fN (Nat.xor a b) (cInt kk S k)) (Nat.ble (Nat.succ b) (lim kk)) kk a b S k) (Nat.ble (Nat.succ a) (lim kk)) kk a b S k) (fun b kk a S k => fres (intBin .xor kk (.ofNat a) (.negSucc b)) S k) n kk a S k) (fun a kk n S k => fres (intBin .xor kk (.negSucc a) n) S k) m kk n S k
noncomputable def iEql (kk : IntKind) (m n : Int) (S : AState) (k : AVal → AState → OU) : OU :=
 Int.rec (motive := fun _ => IntKind → Int → AState → KU → OU) (fun a kk n S k => Int.rec (motive := fun _ => IntKind → Nat → AState → KU → OU) (fun b kk a S k => Bool.rec (motive := fun _ => AState → KU → OU) (fun S k => k (.bool false) S) (fun S k => k (.bool true) S) (Nat.beq a b) S k) (fun b kk a S k => fres (intBin .eql kk (.ofNat a) (.negSucc b)) S k) n kk a S k) (fun a kk n S k => fres (intBin .eql kk (.negSucc a) n) S k) m kk n S k
noncomputable def iNeq (kk : IntKind) (m n : Int) (S : AState) (k : AVal → AState → OU) : OU :=
 Int.rec (motive := fun _ => IntKind → Int → AState → KU → OU) (fun a kk n S k => Int.rec (motive := fun _ => IntKind → Nat → AState → KU → OU) (fun b kk a S k => Bool.rec (motive := fun _ => AState → KU → OU) (fun S k => k (.bool true) S) (fun S k => k (.bool false) S) (Nat.beq a b) S k) (fun b kk a S k => fres (intBin .neq kk (.ofNat a) (.negSucc b)) S k) n kk a S k) (fun a kk n S k => fres (intBin .neq kk (.negSucc a) n) S k) m kk n S k
noncomputable def iLss (kk : IntKind) (m n : Int) (S : AState) (k : AVal → AState → OU) : OU :=
 Int.rec (motive := fun _ => IntKind → Int → AState → KU → OU) (fun a kk n S k => Int.rec (motive := fun _ => IntKind → Nat → AState → KU → OU) (fun b kk a S k => Bool.rec (motive := fun _ => AState → KU → OU) (fun S k => k (.bool false) S) (fun S k => k (.bool true) S) (Nat.ble (Nat.succ a) b) S k) (fun b kk a S k => fres (intBin .lss kk (.ofNat a) (.negSucc b)) S k) n kk a S k) (fun a kk n S k => fres (intBin .lss kk (.negSucc a) n) S k) m kk n S k
noncomputable def iLeq (kk : IntKind) (m n : Int) (S : AState) (k : AVal → AState → OU) : OU :=
 Int.rec (motive := fun _ => IntKind → Int → AState → KU → OU) (fun a kk n S k => Int.rec (motive := fun _ => IntKind → Nat → AState → KU → OU) (fun b kk a S k => Bool.rec (motive := fun _ => AState → KU → OU) (fun S k => k (.bool true) S) (fun S k => k (.bool false) S) (Nat.ble (Nat.succ b) a) S k) (fun b kk a S k => fres (intBin .leq kk (.ofNat a) (.negSucc b)) S k) n kk a S k) (fun a kk n S k => fres (intBin .leq kk (.negSucc a) n) S k) m kk n S k
noncomputable def iGtr (kk : IntKind) (m n : Int) (S : AState) (k : AVal → AState → OU) : OU :=
 Int.rec (motive := fun _ => IntKind → Int → AState → KU → OU) (fun a kk n S k => Int.rec (motive := fun _ => IntKind → Nat → AState → KU → OU) (fun b kk a S k => Bool.rec (motive := fun _ => AState → KU → OU) (fun S k => k (.bool false) S) (fun S k => k (.bool true) S) (Nat.ble (Nat.succ b) a) S k) (fun b kk a S k => fres (intBin .gtr kk (.ofNat a) (.negSucc b)) S k) n kk a S k) (fun a kk n S k => fres (intBin .gtr kk (.negSucc a) n) S k) m kk n S k
noncomputable def iGeq (kk : IntKind) (m n : Int) (S : AState) (k : AVal → AState → OU) : OU :=
 Int.rec (motive := fun _ => IntKind → Int → AState → KU → OU) (fun a kk n S k => Int.rec (motive := fun _ => IntKind → Nat → AState → KU → OU) (fun b kk a S k => Bool.rec (motive := fun _ => AState → KU → OU) (fun S k => k (.bool true) S) (fun S k => k (.bool false) S) (Nat.ble (Nat.succ a) b) S k) (fun b kk a S k => fres (intBin .geq kk (.ofNat a) (.negSucc b)) S k) n kk a S k) (fun a kk n S k => fres (intBin .geq kk (.negSucc a) n) S k) m kk n S k
noncomputable def iShl (kk : IntKind) (m n : Int) (S : AState) (k : AVal → AState → OU) : OU :=
 Int.rec (motive := fun _ => IntKind → Int → AState → KU → OU) (fun a kk n S k => Int.rec (motive := fun _ => IntKind → Nat → AState → KU → OU) (fun b kk a S k => Bool.rec (motive := fun _ => (IntKind) → (Nat) → (Nat) → AState → KU → OU) (fun kk a b S k => fres (shiftA .shl kk (.ofNat a) (.ofNat b)) S k) (fun kk a b S k => fN (Nat.mul a (Nat.pow 2 b)) (cOfNat kk S k)) (Nat.ble b kk.bits) kk a b S k) (fun b kk a S k => fres (shiftA .shl kk (.ofNat a) (.negSucc b)) S k) n kk a S k) (fun a kk n S k => fres (shiftA .shl kk (.negSucc a) n) S k) m kk n S k
noncomputable def iShr (kk : IntKind) (m n : Int) (S : AState) (k : AVal → AState → OU) : OU :=
 Int.rec (motive := fun _ => IntKind → Int → AState → KU → OU) (fun a kk n S k => Int.rec (motive := fun _ => IntKind → Nat → AState → KU → OU) (fun b kk a S k => Bool.rec (motive := fun _ => (IntKind) → (Nat) → (Nat) → AState → KU → OU) (fun kk a b S k => fres (shiftA .shr kk (.ofNat a) (.ofNat b)) S k) (fun kk a b S k => fN (Nat.shiftRight a b) (cInt kk S k)) (Nat.ble b kk.bits) kk a b S k) (fun b kk a S k => fres (shiftA .shr kk (.ofNat a) (.negSucc b)) S k) n kk a S k) (fun a kk n S k => fres (shiftA .shr kk (.negSucc a) n) S k) m kk n S k
noncomputable def fint (op : BinOp) (kk : IntKind) (m : Int) (kk1 : IntKind) (n : Int) (S : AState) (k : AVal → AState → OU) : OU :=
 BinOp.rec (motive := fun _ => (IntKind) → (Int) → (IntKind) → (Int) → AState → KU → OU) (fun kk m kk1 n S k => Bool.rec (motive := fun _ => (IntKind) → (Int) → (Int) → AState → KU → OU) (fun _ _ _ _ _ => none) (fun kk m n S k => iAdd kk m n S k) (kindEq kk kk1) kk m n S k) (fun kk m kk1 n S k => Bool.rec (motive := fun _ => (IntKind) → (Int) → (Int) → AState → KU → OU) (fun _ _ _ _ _ => none) (fun kk m n S k => iSub kk m n S k) (kindEq kk kk1) kk m n S k) (fun kk m kk1 n S k => Bool.rec (motive := fun _ => (IntKind) → (Int) → (Int) → AState → KU → OU) (fun _ _ _ _ _ => none) (fun kk m n S k => iMul kk m n S k) (kindEq kk kk1) kk m n S k) (fun kk m kk1 n S k => Bool.rec (motive := fun _ => (IntKind) → (Int) → (Int) → AState → KU → OU) (fun _ _ _ _ _ => none) (fun kk m n S k => iQuo kk m n S k) (kindEq kk kk1) kk m n S k) (fun kk m kk1 n S k => Bool.rec (motive := fun _ => (IntKind) → (Int) → (Int) → AState → KU → OU) (fun _ _ _ _ _ => none) (fun kk m n S k => iRem kk m n S k) (kindEq kk kk1) kk m n S k) (fun kk m kk1 n S k => Bool.rec (motive := fun _ => (IntKind) → (Int) → (Int) → AState → KU → OU) (fun _ _ _ _ _ => none) (fun kk m n S k => iBand kk m n S k) (kindEq kk kk1) kk m n S k) (fun kk m kk1 n S k => Bool.rec (motive := fun _ => (IntKind) → (Int) → (Int) → AState → KU → OU) (fun _ _ _ _ _ => none) (fun kk m n S k => iBor kk m n S k) (kindEq kk kk1) kk m n S k) (fun kk m kk1 n S k => Bool.rec (motive := fun _ => (IntKind) → (Int) → (Int) → AState → KU → OU) (fun _ _ _ _ _ => none) (fun kk m n S k => iBxor kk m n S k) (kindEq kk kk1) kk m n S k) (fun kk m kk1 n S k => iShl kk m n S k) (fun kk m kk1 n S k => iShr kk m n S k) (fun kk m kk1 n S k => fres (intBin2 .andNot kk m kk1 n) S k) (fun kk m kk1 n S k => Bool.rec (motive := fun _ => (IntKind) → (Int) → (Int) → AState → KU → OU) (fun _ _ _ _ _ => none) (fun kk m n S k => iEql kk m n S k) (kindEq kk kk1) kk m n S k) (fun kk m kk1 n S k => Bool.rec (motive := fun _ => (IntKind) → (Int) → (Int) → AState → KU → OU) (fun _ _ _ _ _ => none) (fun kk m n S k => iNeq kk m n S k) (kindEq kk kk1) kk m n S k) (fun kk m kk1 n S k => Bool.rec (motive := fun _ => (IntKind) → (Int) → (Int) → AState → KU → OU) (fun _ _ _ _ _ => none) (fun kk m n S k => iLss kk m n S k) (kindEq kk kk1) kk m n S k) (fun kk m kk1 n S k => Bool.rec (motive := fun _ => (IntKind) → (Int) → (Int) → AState → KU → OU) (fun _ _ _ _ _ => none) (fun kk m n S k => iLeq kk m n S k) (kindEq kk kk1) kk m n S k) (fun kk m kk1 n S k => Bool.rec (motive := fun _ => (IntKind) → (Int) → (Int) → AState → KU → OU) (fun _ _ _ _ _ => none) (fun kk m n S k => iGtr kk m n S k) (kindEq kk kk1) kk m n S k) (fun kk m kk1 n S k => Bool.rec (motive := fun _ => (IntKind) → (Int) → (Int) → AState → KU → OU) (fun _ _ _ _ _ => none) (fun kk m n S k => iGeq kk m n S k) (kindEq kk kk1) kk m n S k) op kk m kk1 n S k
noncomputable def fstr (op : BinOp) (n x m y : Nat) (S : AState) (k : AVal → AState → OU) : OU :=
 BinOp.rec (motive := fun _ => (Nat) → (Nat) → (Nat) → (Nat) → AState → KU → OU) (fun n x m y S k => fres (strBin .add n x m y) S k) (fun n x m y S k => fres (strBin .sub n x m y) S k) (fun n x m y S k => fres (strBin .mul n x m y) S k) (fun n x m y S k => fres (strBin .quo n x m y) S k) (fun n x m y S k => fres (strBin .rem n x m y) S k) (fun n x m y S k => fres (strBin .and n x m y) S k) (fun n x m y S k => fres (strBin .or n x m y) S k) (fun n x m y S k => fres (strBin .xor n x m y) S k) (fun n x m y S k => fres (strBin .shl n x m y) S k) (fun n x m y S k => fres (strBin .shr n x m y) S k) (fun n x m y S k => fres (strBin .andNot n x m y) S k) (fun n x m y S k => Bool.rec (motive := fun _ => (Nat) → (Nat) → AState → KU → OU) (fun x y S k => k (.bool false) S) (fun x y S k => Bool.rec (motive := fun _ => AState → KU → OU) (fun S k => k (.bool false) S) (fun S k => k (.bool true) S) (Nat.beq x y) S k) (Nat.beq n m) x y S k) (fun n x m y S k => Bool.rec (motive := fun _ => (Nat) → (Nat) → AState → KU → OU) (fun x y S k => k (.bool true) S) (fun x y S k => Bool.rec (motive := fun _ => AState → KU → OU) (fun S k => k (.bool true) S) (fun S k => k (.bool false) S) (Nat.beq x y) S k) (Nat.beq n m) x y S k) (fun n x m y S k => fres (strBin .lss n x m y) S k) (fun n x m y S k => fres (strBin .leq n x m y) S k) (fun n x m y S k => fres (strBin .gtr n x m y) S k) (fun n x m y S k => fres (strBin .geq n x m y) S k) op n x m y S k
noncomputable def fbin (d : TypeDesc) (op : BinOp) (a b : AVal) (S : AState) (k : AVal → AState → OU) : OU :=
 AVal.rec (motive_1 := fun _ => (TypeDesc) → (BinOp) → AVal → AVal → AState → KU → OU) (motive_2 := fun _ => Unit) (fun d op a b S k => fres (eqBin d op a b) S k) (fun _ d op a b S k => fres (eqBin d op a b) S k) (fun kk m d op a b S k => AVal.rec (motive_1 := fun _ => (BinOp) → (IntKind) → (Int) → AState → KU → OU) (motive_2 := fun _ => Unit) (fun _ _ _ _ _ => none) (fun _ _ _ _ _ _ => none) (fun kk1 n op kk m S k => fint op kk m kk1 n S k) (fun _ _ _ _ _ _ _ => none) (fun _ _ _ _ _ => none) (fun _ _ _ _ _ _ _ => none) (fun _ _ _ _ _ => none) (fun _ _ _ _ _ _ _ _ _ => none) (fun _ _ _ _ _ => none) (fun _ _ _ _ _ _ => none) (fun _ _ _ _ _ _ _ _ _ _ => none) (fun _ _ _ _ _ => none) (fun _ _ _ _ _ _ _ _ => none) (fun _ _ _ _ _ => none) (fun _ _ _ _ _ _ _ => none) (fun _ _ _ _ _ _ _ => none) () (fun _ _ _ _ => ()) b op kk m S k) (fun n x d op a b S k => AVal.rec (motive_1 := fun _ => (BinOp) → (Nat) → (Nat) → AState → KU → OU) (motive_2 := fun _ => Unit) (fun _ _ _ _ _ => none) (fun _ _ _ _ _ _ => none) (fun _ _ _ _ _ _ _ => none) (fun m y op n x S k => Bool.rec (motive := fun _ => (BinOp) → (Nat) → (Nat) → (Nat) → (Nat) → AState → KU → OU) (fun _ _ _ _ _ _ _ => none) (fun op n x m y S k => fstr op n x m y S k) (small (Nat.add n m)) op n x m y S k) (fun _ _ _ _ _ => none) (fun _ _ _ _ _ _ _ => none) (fun _ _ _ _ _ => none) (fun _ _ _ _ _ _ _ _ _ => none) (fun _ _ _ _ _ => none) (fun _ _ _ _ _ _ => none) (fun _ _ _ _ _ _ _ _ _ _ => none) (fun _ _ _ _ _ => none) (fun _ _ _ _ _ _ _ _ => none) (fun _ _ _ _ _ => none) (fun _ _ _ _ _ _ _ => none) (fun _ _ _ _ _ _ _ => none) () (fun _ _ _ _ => ()) b op n x S k) (fun d op a b S k => fres (eqBin d op a b) S k) (fun _ _ d op a b S k => fres (eqBin d op a b) S k) (fun d op a b S k => fres (eqBin d op a b) S k) (fun _ _ _ _ d op a b S k => fres (eqBin d op a b) S k) (fun d op a b S k => fres (eqBin d op a b) S k) (fun _ d op a b S k => fres (eqBin d op a b) S k) (fun _ _ _ _ _ d op a b S k => fres (eqBin d op a b) S k) (fun d op a b S k => fres (eqBin d op a b) S k) (fun _ _ _ d op a b S k => fres (eqBin d op a b) S k) (fun d op a b S k => fres (eqBin d op a b) S k) (fun _ _ d op a b S k => fres (eqBin d op a b) S k) (fun _ _ d op a b S k => fres (eqBin d op a b) S k) () (fun _ _ _ _ => ()) a d op a b S k
noncomputable def cBin2 (d : TypeDesc) (op : BinOp) (S : AState) (k : AVal → AState → OU) (a b : AVal) : OU :=
 fbin d op a b S k
noncomputable def cBin1 (d : TypeDesc) (op : BinOp) (y : AOpd) (τ : T AVal) (S : AState) (k : AVal → AState → OU) (a : AVal) : OU :=
 evK y τ (cBin2 d op S k a)
noncomputable def cRd (ih : T AVal → AVal → Nat → (LA → OU) → OU) (c : T AVal) (d : AVal) (i : Nat) (K : LA → OU) (v : AVal) : OU := ih c d (Nat.succ i) (cCons v K)
noncomputable def freadK (c : T AVal) (d : AVal) (i n : Nat) (K : LA → OU) : OU :=
 Nat.rec (motive := fun _ => T AVal → AVal → Nat → (LA → OU) → OU) (fun _ _ _ K => K []) (fun _ ih c d i K => fcellK c d i (cRd ih c d i K)) n c d i K
noncomputable def cAgg (S : AState) (k : AVal → AState → OU) (l : LA) : OU :=
 k (.agg l) S
noncomputable def cLoad2 (n : Nat) (agg : Bool) (o : Nat) (S : AState) (k : AVal → AState → OU) (blk : ABlock) : OU :=
 ABlock.rec (motive := fun _ => (Nat) → (Nat) → (Bool) → AState → KU → OU) (fun c d kk _ _ o n agg S k => Bool.rec (motive := fun _ => TA → AVal → (Nat) → (Nat) → (Bool) → AState → KU → OU) (fun _ _ _ _ _ _ _ => none) (fun c d o n agg S k => Bool.rec (motive := fun _ => TA → AVal → (Nat) → (Nat) → AState → KU → OU) (fun c d o n S k => fcellK c d o (cS S k)) (fun c d o n S k => freadK c d o n (cAgg S k)) (agg) c d o n S k) (Nat.ble (Nat.add o n) kk) c d o n agg S k) (fun _ _ _ _ _ => none) (fun _ _ _ _ _ _ _ => none) (fun _ _ _ _ _ _ _ _ => none) (fun _ _ _ _ _ => none) (fun _ _ _ _ _ _ _ _ _ _ _ _ _ _ _ => none) blk o n agg S k
noncomputable def cLoad1 (n : Nat) (agg : Bool) (S : AState) (k : AVal → AState → OU) (a : AVal) : OU :=
 AVal.rec (motive_1 := fun _ => (Nat) → (Bool) → AState → KU → OU) (motive_2 := fun _ => Unit) (fun _ _ _ _ => none) (fun _ _ _ _ _ => none) (fun _ _ _ _ _ _ => none) (fun _ _ _ _ _ _ => none) (fun _ _ _ _ => none) (fun b o n agg S k => hgetK S.heap b (cLoad2 n agg o S k)) (fun _ _ _ _ => none) (fun _ _ _ _ _ _ _ _ => none) (fun _ _ _ _ => none) (fun _ _ _ _ _ => none) (fun _ _ _ _ _ _ _ _ _ => none) (fun _ _ _ _ => none) (fun _ _ _ _ _ _ _ => none) (fun _ _ _ _ => none) (fun _ _ _ _ _ _ => none) (fun _ _ _ _ _ _ => none) () (fun _ _ _ _ => ()) a n agg S k
noncomputable def cW3 (b next floor : Nat) (wl : List Nat) (k : AVal → AState → OU) (heap : T ABlock) : OU :=
 Bool.rec (motive := fun _ => (Nat) → (Nat) → (Nat) → (List Nat) → KU → (T ABlock) → OU) (fun b next floor wl k heap => k undefA ⟨heap, next, floor, wl⟩) (fun b next floor wl k heap => Bool.rec (motive := fun _ => (Nat) → (Nat) → (Nat) → (List Nat) → KU → (T ABlock) → OU) (fun b next floor wl k heap => k undefA ⟨heap, next, floor, b :: wl⟩) (fun b next floor wl k heap => k undefA ⟨heap, next, floor, wl⟩) (memB b wl) b next floor wl k heap) (Nat.ble (Nat.succ b) floor) b next floor wl k heap
noncomputable def cW2 (b : Nat) (d : AVal) (n e next floor : Nat) (wl : List Nat) (heap : T ABlock) (k : AVal → AState → OU) (c : T AVal) : OU :=
 fsetH 40 (.cells c d n true e) heap b (cW3 b next floor wl k)
noncomputable def scalarF (x : AVal) : Bool := AVal.rec (motive_1 := fun _ => Bool) (motive_2 := fun _ => Unit) true (fun _ => true) (fun _ _ => true) (fun _ _ => true) true (fun _ _ => true) true (fun _ _ _ _ => true) true (fun _ => true) (fun _ _ _ _ _ => true) true (fun _ _ _ => true) true (fun _ _ => false) (fun _ _ => false) () (fun _ _ _ _ => ()) x
noncomputable def cW1 (b o : Nat) (x : AVal) (heap : T ABlock) (next floor : Nat) (wl : List Nat) (k : AVal → AState → OU) (blk : ABlock) : OU :=
 ABlock.rec (motive := fun _ => (Nat) → (Nat) → AVal → (T ABlock) → (Nat) → (Nat) → (List Nat) → KU → OU) (fun c d n wr e b o x heap next floor wl k => Bool.rec (motive := fun _ => TA → AVal → (Nat) → (Nat) → (Nat) → (Nat) → AVal → (T ABlock) → (Nat) → (Nat) → (List Nat) → KU → OU) (fun _ _ _ _ _ _ _ _ _ _ _ _ => none) (fun c d n e b o x heap next floor wl k => Bool.rec (motive := fun _ => TA → AVal → (Nat) → (Nat) → (Nat) → (Nat) → AVal → (T ABlock) → (Nat) → (Nat) → (List Nat) → KU → OU) (fun _ _ _ _ _ _ _ _ _ _ _ _ => none) (fun c d n e b o x heap next floor wl k => Bool.rec (motive := fun _ => TA → AVal → (Nat) → (Nat) → (Nat) → (Nat) → AVal → (T ABlock) → (Nat) → (Nat) → (List Nat) → KU → OU) (fun _ _ _ _ _ _ _ _ _ _ _ _ => none) (fun c d n e b o x heap next floor wl k => Bool.rec (motive := fun _ => TA → AVal → (Nat) → (Nat) → (Nat) → (Nat) → AVal → (T ABlock) → (Nat) → (Nat) → (List Nat) → KU → OU) (fun _ _ _ _ _ _ _ _ _ _ _ _ => none) (fun c d n e b o x heap next floor wl k => Bool.rec (motive := fun _ => TA → AVal → (Nat) → (Nat) → (Nat) → (Nat) → AVal → (T ABlock) → (Nat) → (Nat) → (List Nat) → KU → OU) (fun _ _ _ _ _ _ _ _ _ _ _ _ => none) (fun c d n e b o x heap next floor wl k => fsetA 40 x c o (cW2 b d n e next floor wl heap k)) (small n) c d n e b o x heap next floor wl k) (small next) c d n e b o x heap next floor wl k) (Nat.ble (Nat.succ o) n) c d n e b o x heap next floor wl k) (scalarF x) c d n e b o x heap next floor wl k) (wr) c d n e b o x heap next floor wl k) (fun _ _ _ _ _ _ _ _ => none) (fun _ _ _ _ _ _ _ _ _ _ => none) (fun _ _ _ _ _ _ _ _ _ _ _ => none) (fun _ _ _ _ _ _ _ _ => none) (fun _ _ _ _ _ _ _ _ _ _ _ _ _ _ _ _ _ _ => none) blk b o x heap next floor wl k
noncomputable def fwr1 (b o : Nat) (x : AVal) (S : AState) (k : AVal → AState → OU) : OU :=
 AState.rec (motive := fun _ => Nat → Nat → AVal → KU → OU) (fun heap next floor wl b o x k => hgetK heap b (cW1 b o x heap next floor wl k)) S b o x k
noncomputable def cFv (k : AVal → AState → OU) (v : AVal) (S : AState) : OU :=
 forceV v fun v => k v S
noncomputable def cSt2 (n : Nat) (agg : Bool) (a : AVal) (S : AState) (k : AVal → AState → OU) (x : AVal) : OU :=
 AVal.rec (motive_1 := fun _ => AVal → (Nat) → (Bool) → AVal → AState → KU → OU) (motive_2 := fun _ => Unit) (fun _ _ _ _ _ _ => none) (fun _ _ _ _ _ _ _ => none) (fun _ _ _ _ _ _ _ _ => none) (fun _ _ _ _ _ _ _ _ => none) (fun _ _ _ _ _ _ => none) (fun b o a n agg x S k => Bool.rec (motive := fun _ => AVal → (Nat) → (Nat) → (Nat) → AVal → AState → KU → OU) (fun a b o n x S k => Bool.rec (motive := fun _ => (Nat) → (Nat) → AVal → AState → KU → OU) (fun _ _ _ _ _ => none) (fun b o x S k => fwr1 b o x S k) (Nat.beq n 1) b o x S k) (fun a b o n x S k => storeA S n true a x k) (agg) a b o n x S k) (fun _ _ _ _ _ _ => none) (fun _ _ _ _ _ _ _ _ _ _ => none) (fun _ _ _ _ _ _ => none) (fun _ _ _ _ _ _ _ => none) (fun _ _ _ _ _ _ _ _ _ _ _ => none) (fun _ _ _ _ _ _ => none) (fun _ _ _ _ _ _ _ _ _ => none) (fun _ _ _ _ _ _ => none) (fun _ _ _ _ _ _ _ _ => none) (fun _ _ _ _ _ _ _ _ => none) () (fun _ _ _ _ => ()) a a n agg x S k
noncomputable def cSt1 (n : Nat) (agg : Bool) (x : AOpd) (τ : T AVal) (S : AState) (k : AVal → AState → OU) (a : AVal) : OU :=
 evK x τ (cSt2 n agg a S k)
noncomputable def cCall2 (call : AVal → LA → AState → KU → OU) (S : AState) (k : AVal → AState → OU) (g : AVal) (l : LA) : OU :=
 call g l S k
noncomputable def cCall1 (as : List AOpd) (call : AVal → LA → AState → KU → OU) (τ : T AVal) (S : AState) (k : AVal → AState → OU) (g : AVal) : OU :=
 evsK as τ (cCall2 call S k g)
noncomputable def cPtr (b : Nat) (S : AState) (k : AVal → AState → OU) (o : Nat) : OU :=
 k (.ptr b o) S
noncomputable def cFld (off : Nat) (S : AState) (k : AVal → AState → OU) (a : AVal) : OU :=
 AVal.rec (motive_1 := fun _ => (Nat) → AState → KU → OU) (motive_2 := fun _ => Unit) (fun _ _ _ => none) (fun _ _ _ _ => none) (fun _ _ _ _ _ => none) (fun _ _ _ _ _ => none) (fun _ _ _ => none) (fun b o off S k => fN (Nat.add o off) (cPtr b S k)) (fun _ _ _ => none) (fun _ _ _ _ _ _ _ => none) (fun _ _ _ => none) (fun _ _ _ _ => none) (fun _ _ _ _ _ _ _ _ => none) (fun _ _ _ => none) (fun _ _ _ _ _ _ => none) (fun _ _ _ => none) (fun _ _ _ _ _ => none) (fun _ _ _ _ _ => none) () (fun _ _ _ _ => ()) a off S k
noncomputable def cIx2 (s : Nat) (arr : Option Nat) (x : AVal) (S : AState) (k : AVal → AState → OU) (i : AVal) : OU :=
 AVal.rec (motive_1 := fun _ => (Nat) → (Option Nat) → AVal → AState → KU → OU) (motive_2 := fun _ => Unit) (fun _ _ _ _ _ => none) (fun _ _ _ _ _ _ => none) (fun _ i s arr x S k => Int.rec (motive := fun _ => (Nat) → (Option Nat) → AVal → AState → KU → OU) (fun i s arr x S k => AVal.rec (motive_1 := fun _ => (Nat) → (Option Nat) → (Nat) → AState → KU → OU) (motive_2 := fun _ => Unit) (fun _ _ _ _ _ => none) (fun _ _ _ _ _ _ => none) (fun _ _ _ _ _ _ _ => none) (fun _ _ _ _ _ _ _ => none) (fun _ _ _ _ _ => none) (fun b o s arr i S k => Option.rec (motive := fun _ => Nat → Nat → Nat → Nat → AState → KU → OU) (fun _ _ _ _ _ _ => none) (fun n s b o i S k => Bool.rec (motive := fun _ => (Nat) → (Nat) → (Nat) → (Nat) → AState → KU → OU) (fun _ _ _ _ _ _ => none) (fun s b o i S k => fN (Nat.add o (Nat.mul i s)) (cPtr b S k)) (Nat.ble (Nat.succ i) n) s b o i S k) arr s b o i S k) (fun _ _ _ _ _ => none) (fun b o n _ s arr i S k => Option.rec (motive := fun _ => Nat → Nat → Nat → Nat → Nat → AState → KU → OU) (fun n s b o i S k => Bool.rec (motive := fun _ => (Nat) → (Nat) → (Nat) → (Nat) → AState → KU → OU) (fun _ _ _ _ _ _ => none) (fun s b o i S k => fN (Nat.add o (Nat.mul i s)) (cPtr b S k)) (Nat.ble (Nat.succ i) n) s b o i S k) (fun _ _ _ _ _ _ _ _ => none) arr n s b o i S k) (fun _ _ _ _ _ => none) (fun _ _ _ _ _ _ => none) (fun _ _ _ _ _ _ _ _ _ _ => none) (fun _ _ _ _ _ => none) (fun _ _ _ _ _ _ _ _ => none) (fun _ _ _ _ _ => none) (fun _ _ _ _ _ _ _ => none) (fun _ _ _ _ _ _ _ => none) () (fun _ _ _ _ => ()) x s arr i S k) (fun _ _ _ _ _ _ => none) i s arr x S k) (fun _ _ _ _ _ _ _ => none) (fun _ _ _ _ _ => none) (fun _ _ _ _ _ _ _ => none) (fun _ _ _ _ _ => none) (fun _ _ _ _ _ _ _ _ _ => none) (fun _ _ _ _ _ => none) (fun _ _ _ _ _ _ => none) (fun _ _ _ _ _ _ _ _ _ _ => none) (fun _ _ _ _ _ => none) (fun _ _ _ _ _ _ _ _ => none) (fun _ _ _ _ _ => none) (fun _ _ _ _ _ _ _ => none) (fun _ _ _ _ _ _ _ => none) () (fun _ _ _ _ => ()) i s arr x S k
noncomputable def cIx1 (s : Nat) (arr : Option Nat) (i : AOpd) (τ : T AVal) (S : AState) (k : AVal → AState → OU) (x : AVal) : OU :=
 evK i τ (cIx2 s arr x S k)
noncomputable def cU8 (S : AState) (k : AVal → AState → OU) (c : Nat) : OU :=
 k (.int .u8 (.ofNat c)) S
noncomputable def cIs2 (x : AVal) (S : AState) (k : AVal → AState → OU) (i : AVal) : OU :=
 AVal.rec (motive_1 := fun _ => AVal → AState → KU → OU) (motive_2 := fun _ => Unit) (fun _ _ _ => none) (fun _ _ _ _ => none) (fun _ i x S k => Int.rec (motive := fun _ => AVal → AState → KU → OU) (fun i x S k => AVal.rec (motive_1 := fun _ => (Nat) → AState → KU → OU) (motive_2 := fun _ => Unit) (fun _ _ _ => none) (fun _ _ _ _ => none) (fun _ _ _ _ _ => none) (fun n x i S k => Bool.rec (motive := fun _ => (Nat) → (Nat) → (Nat) → AState → KU → OU) (fun _ _ _ _ _ => none) (fun n x i S k => fN (byteAt n x i) (cU8 S k)) (Nat.ble (Nat.succ i) n) n x i S k) (fun _ _ _ => none) (fun _ _ _ _ _ => none) (fun _ _ _ => none) (fun _ _ _ _ _ _ _ => none) (fun _ _ _ => none) (fun _ _ _ _ => none) (fun _ _ _ _ _ _ _ _ => none) (fun _ _ _ => none) (fun _ _ _ _ _ _ => none) (fun _ _ _ => none) (fun _ _ _ _ _ => none) (fun _ _ _ _ _ => none) () (fun _ _ _ _ => ()) x i S k) (fun _ _ _ _ => none) i x S k) (fun _ _ _ _ _ => none) (fun _ _ _ => none) (fun _ _ _ _ _ => none) (fun _ _ _ => none) (fun _ _ _ _ _ _ _ => none) (fun _ _ _ => none) (fun _ _ _ _ => none) (fun _ _ _ _ _ _ _ _ => none) (fun _ _ _ => none) (fun _ _ _ _ _ _ => none) (fun _ _ _ => none) (fun _ _ _ _ _ => none) (fun _ _ _ _ _ => none) () (fun _ _ _ _ => ()) i x S k
noncomputable def cIs1 (i : AOpd) (τ : T AVal) (S : AState) (k : AVal → AState → OU) (x : AVal) : OU :=
 evK i τ (cIs2 x S k)
noncomputable def fnth (l : LA) (i : Nat) (k : AVal → OU) : OU :=
 List.rec (motive := fun _ => Nat → (AVal → OU) → OU) (fun _ _ => none) (fun v _ ih i k => Nat.rec (motive := fun _ => AVal → (Nat → (AVal → OU) → OU) → (AVal → OU) → OU) (fun v _ k => k v) (fun m _ _ ih k => ih m k) i v ih k) l i k
noncomputable def cExt (i : Nat) (S : AState) (k : AVal → AState → OU) (x : AVal) : OU :=
 AVal.rec (motive_1 := fun _ => (Nat) → AState → KU → OU) (motive_2 := fun _ => Unit) (fun _ _ _ => none) (fun _ _ _ _ => none) (fun _ _ _ _ _ => none) (fun _ _ _ _ _ => none) (fun _ _ _ => none) (fun _ _ _ _ _ => none) (fun _ _ _ => none) (fun _ _ _ _ _ _ _ => none) (fun _ _ _ => none) (fun _ _ _ _ => none) (fun _ _ _ _ _ _ _ _ => none) (fun _ _ _ => none) (fun _ _ _ _ _ _ => none) (fun _ _ _ => none) (fun _ _ _ _ _ => none) (fun l _ i S k => fnth l i (cS S k)) () (fun _ _ _ _ => ()) x i S k
noncomputable def cField (off n : Nat) (agg : Bool) (S : AState) (k : AVal → AState → OU) (x : AVal) : OU :=
 AVal.rec (motive_1 := fun _ => (Nat) → (Nat) → (Bool) → AState → KU → OU) (motive_2 := fun _ => Unit) (fun _ _ _ _ _ => none) (fun _ _ _ _ _ _ => none) (fun _ _ _ _ _ _ _ => none) (fun _ _ _ _ _ _ _ => none) (fun _ _ _ _ _ => none) (fun _ _ _ _ _ _ _ => none) (fun _ _ _ _ _ => none) (fun _ _ _ _ _ _ _ _ _ => none) (fun _ _ _ _ _ => none) (fun _ _ _ _ _ _ => none) (fun _ _ _ _ _ _ _ _ _ _ => none) (fun _ _ _ _ _ => none) (fun _ _ _ _ _ _ _ _ => none) (fun _ _ _ _ _ => none) (fun l _ off n agg S k => Bool.rec (motive := fun _ => LA → (Nat) → (Nat) → AState → KU → OU) (fun l off n S k => fnth l off (cS S k)) (fun l off n S k => fres (partA l off n true) S k) (agg) l off n S k) (fun _ _ _ _ _ _ _ => none) () (fun _ _ _ _ => ()) x off n agg S k
noncomputable def cConv (kk : IntKind) (S : AState) (k : AVal → AState → OU) (x : AVal) : OU :=
 AVal.rec (motive_1 := fun _ => (IntKind) → AState → KU → OU) (motive_2 := fun _ => Unit) (fun _ _ _ => none) (fun _ _ _ _ => none) (fun _ n kk S k => Int.rec (motive := fun _ => IntKind → AState → KU → OU) (fun m kk S k => cOfNat kk S k m) (fun m kk S k => fres (mkInt kk (kk.wrap (.negSucc m))) S k) n kk S k) (fun _ _ _ _ _ => none) (fun _ _ _ => none) (fun _ _ _ _ _ => none) (fun _ _ _ => none) (fun _ _ _ _ _ _ _ => none) (fun _ _ _ => none) (fun _ _ _ _ => none) (fun _ _ _ _ _ _ _ _ => none) (fun _ _ _ => none) (fun _ _ _ _ _ _ => none) (fun _ _ _ => none) (fun _ _ _ _ _ => none) (fun _ _ _ _ _ => none) () (fun _ _ _ _ => ()) x kk S k
noncomputable def cNil (S : AState) (k : AVal → AState → OU) (x : AVal) : OU :=
 AVal.rec (motive_1 := fun _ => AVal → AState → KU → OU) (motive_2 := fun _ => Unit) (fun x S k => fres (nilCheckA x) S k) (fun _ x S k => fres (nilCheckA x) S k) (fun _ _ x S k => fres (nilCheckA x) S k) (fun _ _ x S k => fres (nilCheckA x) S k) (fun x S k => fres (nilCheckA x) S k) (fun _ _ x S k => k x S) (fun x S k => fres (nilCheckA x) S k) (fun _ _ _ _ x S k => fres (nilCheckA x) S k) (fun x S k => fres (nilCheckA x) S k) (fun _ x S k => fres (nilCheckA x) S k) (fun _ _ _ _ _ x S k => fres (nilCheckA x) S k) (fun x S k => fres (nilCheckA x) S k) (fun _ _ _ x S k => fres (nilCheckA x) S k) (fun x S k => fres (nilCheckA x) S k) (fun _ _ x S k => fres (nilCheckA x) S k) (fun _ _ x S k => fres (nilCheckA x) S k) () (fun _ _ _ _ => ()) x x S k
noncomputable def cPick (x y : AOpd) (τ : T AVal) (S : AState) (k : AVal → AState → OU) (c : AVal) : OU :=
 AVal.rec (motive_1 := fun _ => (AOpd) → (AOpd) → TA → AState → KU → OU) (motive_2 := fun _ => Unit) (fun _ _ _ _ _ => none) (fun b x y τ S k => Bool.rec (motive := fun _ => (AOpd) → (AOpd) → TA → AState → KU → OU) (fun x y τ S k => evK y τ (cS S k)) (fun x y τ S k => evK x τ (cS S k)) (b) x y τ S k) (fun _ _ _ _ _ _ _ => none) (fun _ _ _ _ _ _ _ => none) (fun _ _ _ _ _ => none) (fun _ _ _ _ _ _ _ => none) (fun _ _ _ _ _ => none) (fun _ _ _ _ _ _ _ _ _ => none) (fun _ _ _ _ _ => none) (fun _ _ _ _ _ _ => none) (fun _ _ _ _ _ _ _ _ _ _ => none) (fun _ _ _ _ _ => none) (fun _ _ _ _ _ _ _ _ => none) (fun _ _ _ _ _ => none) (fun _ _ _ _ _ _ _ => none) (fun _ _ _ _ _ _ _ => none) () (fun _ _ _ _ => ()) c x y τ S k
def lenC : TypeDesc → Nat
 | .string => 0
 | .slice _ => 1
 | .map _ _ => 2
 | _ => 3
noncomputable def cLen (d : TypeDesc) (S : AState) (k : AVal → AState → OU) (x : AVal) : OU :=
 AVal.rec (motive_1 := fun _ => (TypeDesc) → AVal → AState → KU → OU) (motive_2 := fun _ => Unit) (fun d x S k => fres (match lenOk d x with | true => lenA S.heap.get x | false => none) S k) (fun _ d x S k => fres (match lenOk d x with | true => lenA S.heap.get x | false => none) S k) (fun _ _ d x S k => fres (match lenOk d x with | true => lenA S.heap.get x | false => none) S k) (fun n _ d x S k => Nat.rec (motive := fun _ => Nat → AState → KU → OU) (fun n S k => k (.int .i64 (.ofNat n)) S) (fun _ _ _ _ _ => none) (lenC d) n S k) (fun d x S k => fres (match lenOk d x with | true => lenA S.heap.get x | false => none) S k) (fun _ _ d x S k => fres (match lenOk d x with | true => lenA S.heap.get x | false => none) S k) (fun d x S k => fres (match lenOk d x with | true => lenA S.heap.get x | false => none) S k) (fun _ _ n _ d x S k => Nat.rec (motive := fun _ => Nat → AState → KU → OU) (fun _ _ _ => none) (fun c _ n S k => Nat.rec (motive := fun _ => Nat → AState → KU → OU) (fun n S k => k (.int .i64 (.ofNat n)) S) (fun _ _ _ _ _ => none) c n S k) (lenC d) n S k) (fun d x S k => fres (match lenOk d x with | true => lenA S.heap.get x | false => none) S k) (fun _ d x S k => fres (match lenOk d x with | true => lenA S.heap.get x | false => none) S k) (fun _ _ _ _ _ d x S k => fres (match lenOk d x with | true => lenA S.heap.get x | false => none) S k) (fun d x S k => fres (match lenOk d x with | true => lenA S.heap.get x | false => none) S k) (fun _ _ _ d x S k => fres (match lenOk d x with | true => lenA S.heap.get x | false => none) S k) (fun d x S k => fres (match lenOk d x with | true => lenA S.heap.get x | false => none) S k) (fun _ _ d x S k => fres (match lenOk d x with | true => lenA S.heap.get x | false => none) S k) (fun _ _ d x S k => fres (match lenOk d x with | true => lenA S.heap.get x | false => none) S k) () (fun _ _ _ _ => ()) x d x S k
noncomputable def fop (op : AOp) (call : AVal → LA → AState → KU → OU) (τ : T AVal) (S : AState) (k : AVal → AState → OU) : OU :=
 AOp.rec (motive := fun _ => CU → TA → AState → KU → OU) (fun x call τ S k => evK x τ (cS S k)) (fun c x y call τ S k => evK c τ (cPick x y τ S k)) (fun x0 x1 call τ S k => doOp call τ (.alloc x0 x1) S k) (fun x0 x1 call τ S k => doOp call τ (.box x0 x1) S k) (fun x0 x1 call τ S k => doOp call τ (.build x0 x1) S k) (fun x0 x1 x2 x3 x4 call τ S k => doOp call τ (.buildSlice x0 x1 x2 x3 x4) S k) (fun n agg a call τ S k => evK a τ (cLoad1 n agg S k)) (fun n agg a x call τ S k => evK a τ (cSt1 n agg x τ S k)) (fun x call τ S k => evK x τ (cNil S k)) (fun d op x y call τ S k => evK x τ (cBin1 d op y τ S k)) (fun x0 x1 call τ S k => doOp call τ (.un x0 x1) S k) (fun kk x call τ S k => evK x τ (cConv kk S k)) (fun x0 call τ S k => doOp call τ (.convSame x0) S k) (fun x0 x1 call τ S k => doOp call τ (.strBytes x0 x1) S k) (fun x0 call τ S k => doOp call τ (.bytesStr x0) S k) (fun x0 call τ S k => doOp call τ (.stringish x0) S k) (fun x0 x1 call τ S k => doOp call τ (.mkIfc x0 x1) S k) (fun x0 x1 x2 call τ S k => doOp call τ (.mkFn x0 x1 x2) S k) (fun x0 call τ S k => doOp call τ (.mkMap x0) S k) (fun x0 x1 x2 x3 x4 call τ S k => doOp call τ (.mkSlice x0 x1 x2 x3 x4) S k) (fun x0 x1 x2 x3 x4 x5 call τ S k => doOp call τ (.sliceArr x0 x1 x2 x3 x4 x5) S k) (fun x0 x1 x2 call τ S k => doOp call τ (.sliceStr x0 x1 x2) S k) (fun x0 x1 x2 x3 x4 call τ S k => doOp call τ (.sliceSlc x0 x1 x2 x3 x4) S k) (fun off x call τ S k => evK x τ (cFld off S k)) (fun off n agg x call τ S k => evK x τ (cField off n agg S k)) (fun s arr x i call τ S k => evK x τ (cIx1 s arr i τ S k)) (fun x i call τ S k => evK x τ (cIs1 i τ S k)) (fun x0 x1 x2 x3 x4 call τ S k => doOp call τ (.indexArr x0 x1 x2 x3 x4) S k) (fun x0 x1 x2 x3 x4 call τ S k => doOp call τ (.lookup x0 x1 x2 x3 x4) S k) (fun x0 x1 x2 x3 call τ S k => doOp call τ (.mapUpdate x0 x1 x2 x3) S k) (fun x i call τ S k => evK x τ (cExt i S k)) (fun d x call τ S k => evK x τ (cLen d S k)) (fun x0 call τ S k => doOp call τ (.cap x0) S k) (fun x0 x1 x2 x3 x4 x5 call τ S k => doOp call τ (.append x0 x1 x2 x3 x4 x5) S k) (fun x0 x1 x2 call τ S k => doOp call τ (.copy x0 x1 x2) S k) (fun x0 x1 x2 call τ S k => doOp call τ (.delete x0 x1 x2) S k) (fun x0 call τ S k => doOp call τ (.clearMap x0) S k) (fun x0 x1 call τ S k => doOp call τ (.clearSlc x0 x1) S k) (fun x0 x1 x2 call τ S k => doOp call τ (.minmax x0 x1 x2) S k) (fun x0 call τ S k => doOp call τ (.sliceData x0) S k) (fun x0 x1 x2 call τ S k => doOp call τ (.unsafeStr x0 x1 x2) S k) (fun g as call τ S k => evK g τ (cCall1 as call τ S k)) (fun x0 x1 x2 x3 call τ S k => doOp call τ (.eqS x0 x1 x2 x3) S k) op call τ S k
noncomputable def effF (op : AOp) : Bool := AOp.rec (motive := fun _ => Bool) (fun _ => false) (fun _ _ _ => false) (fun _ _ => false) (fun _ _ => false) (fun _ _ => false) (fun _ _ _ _ _ => false) (fun _ _ _ => false) (fun _ _ _ _ => true) (fun _ => false) (fun _ _ _ _ => false) (fun _ _ => false) (fun _ _ => false) (fun _ => false) (fun _ _ => false) (fun _ => false) (fun _ => true) (fun _ _ => false) (fun _ _ _ => false) (fun _ => false) (fun _ _ _ _ _ => false) (fun _ _ _ _ _ _ => false) (fun _ _ _ => false) (fun _ _ _ _ _ => false) (fun _ _ => false) (fun _ _ _ _ => false) (fun _ _ _ _ => false) (fun _ _ => false) (fun _ _ _ _ _ => false) (fun _ _ _ _ _ => false) (fun _ _ _ _ => true) (fun _ _ => false) (fun _ _ => false) (fun _ => false) (fun _ _ _ _ _ _ => true) (fun _ _ _ => true) (fun _ _ _ => true) (fun _ => true) (fun _ _ => true) (fun _ _ _ => false) (fun _ => false) (fun _ _ _ => true) (fun _ _ => true) (fun _ _ _ _ => false) op
noncomputable def cSet (ih : CU → T AVal → AState → (T AVal → AState → OU) → OU) (call : AVal → LA → AState → KU → OU) (S : AState) (K : T AVal → AState → OU) (τ : T AVal) : OU := ih call τ S K
noncomputable def cOp (dst : Option Nat) (ih : CU → T AVal → AState → (T AVal → AState → OU) → OU) (call : AVal → LA → AState → KU → OU) (K : T AVal → AState → OU) (τ : T AVal) (v : AVal) (S : AState) : OU :=
 Option.rec (motive := fun _ => (CU → T AVal → AState → (T AVal → AState → OU) → OU) → CU → (T AVal → AState → OU) → TA → AVal → AState → OU) (fun ih call K τ v S => ih call τ S K) (fun x ih call K τ v S => fsetA 40 v τ x (cSet ih call S K)) dst ih call K τ v S
noncomputable def fops (l : List AOper) (call : AVal → LA → AState → KU → OU) (τ : T AVal) (S : AState) (K : T AVal → AState → OU) : OU :=
 List.rec (motive := fun _ => CU → T AVal → AState → (T AVal → AState → OU) → OU) (fun _ τ S K => K τ S) (fun o _ ih call τ S K => AOper.rec (motive := fun _ => (CU → T AVal → AState → (T AVal → AState → OU) → OU) → CU → TA → AState → (T AVal → AState → OU) → OU) (fun dst op guard _ _ ih call τ S K => Option.rec (motive := fun _ => (Option Nat) → (AOp) → (CU → T AVal → AState → (T AVal → AState → OU) → OU) → CU → TA → AState → (T AVal → AState → OU) → OU) (fun dst op ih call τ S K => fop op call τ S (cOp dst ih call K τ)) (fun x dst op ih call τ S K => Bool.rec (motive := fun _ => (Option Nat) → (AOp) → (CU → T AVal → AState → (T AVal → AState → OU) → OU) → CU → TA → AState → (T AVal → AState → OU) → OU) (fun dst op ih call τ S K => cOp dst ih call K τ undefA S) (fun dst op ih call τ S K => fop op call τ S (cOp dst ih call K τ)) (guardA τ (some x)) dst op ih call τ S K) guard dst op ih call τ S K) o ih call τ S K) l call τ S K
noncomputable def cDSet (ih : Nat → T (List Nat) → CU → T AVal → AState → (T AVal → AState → OU) → OU) (i : Nat) (recs : T (List Nat)) (call : AVal → LA → AState → KU → OU) (S : AState) (K : T AVal → AState → OU) (τ : T AVal) : OU := ih (Nat.succ i) recs call τ S K
noncomputable def cD (dst : Option Nat) (ih : Nat → T (List Nat) → CU → T AVal → AState → (T AVal → AState → OU) → OU) (i : Nat) (recs : T (List Nat)) (call : AVal → LA → AState → KU → OU) (K : T AVal → AState → OU) (τ : T AVal) (v : AVal) (S : AState) : OU :=
 Option.rec (motive := fun _ => (Nat → T (List Nat) → CU → T AVal → AState → (T AVal → AState → OU) → OU) → (Nat) → (T (List Nat)) → CU → (T AVal → AState → OU) → TA → AVal → AState → OU) (fun ih i recs call K τ v S => ih (Nat.succ i) recs call τ S K) (fun x ih i recs call K τ v S => fsetA 40 v τ x (cDSet ih i recs call S K)) dst ih i recs call K τ v S
noncomputable def cDKeep (dst : Option Nat) (ih : Nat → T (List Nat) → CU → T AVal → AState → (T AVal → AState → OU) → OU) (i : Nat) (call : AVal → LA → AState → KU → OU) (K : T AVal → AState → OU) (τ : T AVal) (v : AVal) (S : AState) (recs : T (List Nat)) : OU := cD dst ih i recs call K τ v S
noncomputable def cDX (dst : Option Nat) (un : List Nat) (rc : Bool) (ih : Nat → T (List Nat) → CU → T AVal → AState → (T AVal → AState → OU) → OU) (i : Nat) (recs : T (List Nat)) (call : AVal → LA → AState → KU → OU) (K : T AVal → AState → OU) (τ : T AVal) (v : AVal) (S : AState) (X : List Nat) : OU :=
 Bool.rec (motive := fun _ => (Option Nat) → (Bool) → (Nat → T (List Nat) → CU → T AVal → AState → (T AVal → AState → OU) → OU) → (Nat) → (T (List Nat)) → CU → (T AVal → AState → OU) → TA → AVal → AState → (List Nat) → OU) (fun _ _ _ _ _ _ _ _ _ _ _ => none) (fun dst rc ih i recs call K τ v S X => keepX rc X recs i (cDKeep dst ih i call K τ v S)) (checkUn recs X un) dst rc ih i recs call K τ v S X
noncomputable def fMerge (W : List Nat) (fl : Nat) (wl : List Nat) (K : List Nat → OU) : OU := List.rec (motive := fun _ => Nat → List Nat → (List Nat → OU) → OU) (fun _ wl K => K wl) (fun b _ ih fl wl K => Bool.rec (motive := fun _ => Nat → Nat → List Nat → (Nat → List Nat → (List Nat → OU) → OU) → (List Nat → OU) → OU) (fun b fl wl ih K => ih fl wl K) (fun b fl wl ih K => Bool.rec (motive := fun _ => Nat → Nat → List Nat → (Nat → List Nat → (List Nat → OU) → OU) → (List Nat → OU) → OU) (fun b fl wl ih K => ih fl (b :: wl) K) (fun _ fl wl ih K => ih fl wl K) (memB b wl) b fl wl ih K) (Nat.ble (Nat.succ b) fl) b fl wl ih K) W fl wl K
noncomputable def cDE2 (dst : Option Nat) (un : List Nat) (rc : Bool) (ih : Nat → T (List Nat) → CU → T AVal → AState → (T AVal → AState → OU) → OU) (i : Nat) (recs : T (List Nat)) (call : AVal → LA → AState → KU → OU) (K : T AVal → AState → OU) (τ : T AVal) (v : AVal) (h : T ABlock) (n fl : Nat) (W wl : List Nat) : OU :=
 cDX dst un rc ih i recs call K τ v ⟨h, n, fl, wl⟩ W
noncomputable def cDE (fl : Nat) (wl : List Nat) (dst : Option Nat) (un : List Nat) (rc : Bool) (ih : Nat → T (List Nat) → CU → T AVal → AState → (T AVal → AState → OU) → OU) (i : Nat) (recs : T (List Nat)) (call : AVal → LA → AState → KU → OU) (K : T AVal → AState → OU) (τ : T AVal) (v : AVal) (S : AState) : OU :=
 AState.rec (motive := fun _ => (Nat) → (List Nat) → (Option Nat) → (List Nat) → (Bool) → (Nat → T (List Nat) → CU → T AVal → AState → (T AVal → AState → OU) → OU) → (Nat) → (T (List Nat)) → CU → (T AVal → AState → OU) → TA → AVal → OU) (fun h n _ W fl wl dst un rc ih i recs call K τ v => fMerge W fl wl (cDE2 dst un rc ih i recs call K τ v h n fl W)) S fl wl dst un rc ih i recs call K τ v
noncomputable def newF (op : AOp) : Bool := AOp.rec (motive := fun _ => Bool) (fun _ => false) (fun _ _ _ => false) (fun _ _ => true) (fun _ _ => true) (fun _ _ => false) (fun _ _ _ _ _ => true) (fun _ _ _ => false) (fun _ _ _ _ => false) (fun _ => false) (fun _ _ _ _ => false) (fun _ _ => false) (fun _ _ => false) (fun _ => false) (fun _ _ => true) (fun _ => false) (fun _ => false) (fun _ _ => false) (fun _ _ _ => false) (fun _ => true) (fun _ _ _ _ _ => true) (fun _ _ _ _ _ _ => false) (fun _ _ _ => false) (fun _ _ _ _ _ => false) (fun _ _ => false) (fun _ _ _ _ => false) (fun _ _ _ _ => false) (fun _ _ => false) (fun _ _ _ _ _ => false) (fun _ _ _ _ _ => false) (fun _ _ _ _ => false) (fun _ _ => false) (fun _ _ => false) (fun _ => false) (fun _ _ _ _ _ _ => false) (fun _ _ _ => false) (fun _ _ _ => false) (fun _ => false) (fun _ _ => false) (fun _ _ _ => false) (fun _ => false) (fun _ _ _ => false) (fun _ _ => false) (fun _ _ _ _ => false) op
noncomputable def cDN (op : AOp) (n0 : Nat) (dst : Option Nat) (ih : Nat → T (List Nat) → CU → T AVal → AState → (T AVal → AState → OU) → OU) (i : Nat) (recs : T (List Nat)) (call : AVal → LA → AState → KU → OU) (K : T AVal → AState → OU) (τ : T AVal) (v : AVal) (S : AState) : OU :=
 Bool.rec (motive := fun _ => (AOp) → (Option Nat) → (Nat → T (List Nat) → CU → T AVal → AState → (T AVal → AState → OU) → OU) → (Nat) → (T (List Nat)) → CU → (T AVal → AState → OU) → TA → AVal → AState → OU) (fun op dst ih i recs call K τ v S => Bool.rec (motive := fun _ => (Option Nat) → (Nat → T (List Nat) → CU → T AVal → AState → (T AVal → AState → OU) → OU) → (Nat) → (T (List Nat)) → CU → (T AVal → AState → OU) → TA → AVal → AState → OU) (fun _ _ _ _ _ _ _ _ _ => none) (fun dst ih i recs call K τ v S => cD dst ih i recs call K τ v S) (newF op) dst ih i recs call K τ v S) (fun op dst ih i recs call K τ v S => cD dst ih i recs call K τ v S) (Nat.beq n0 S.next) op dst ih i recs call K τ v S
noncomputable def fdop (dst : Option Nat) (op : AOp) (un : List Nat) (rc : Bool) (ih : Nat → T (List Nat) → CU → T AVal → AState → (T AVal → AState → OU) → OU) (i : Nat) (recs : T (List Nat)) (call : AVal → LA → AState → KU → OU) (τ : T AVal) (S : AState) (K : T AVal → AState → OU) : OU :=
 Bool.rec (motive := fun _ => (Option Nat) → (AOp) → (List Nat) → (Bool) → (Nat → T (List Nat) → CU → T AVal → AState → (T AVal → AState → OU) → OU) → (Nat) → (T (List Nat)) → CU → TA → AState → (T AVal → AState → OU) → OU) (fun dst op un rc ih i recs call τ S K => List.rec (motive := fun _ => (Option Nat) → (AOp) → (List Nat) → (Bool) → (Nat → T (List Nat) → CU → T AVal → AState → (T AVal → AState → OU) → OU) → (Nat) → (T (List Nat)) → CU → TA → AState → (T AVal → AState → OU) → OU) (fun dst op un rc ih i recs call τ S K => Bool.rec (motive := fun _ => (Option Nat) → (AOp) → (List Nat) → (Bool) → (Nat → T (List Nat) → CU → T AVal → AState → (T AVal → AState → OU) → OU) → (Nat) → (T (List Nat)) → CU → TA → AState → (T AVal → AState → OU) → OU) (fun dst op un rc ih i recs call τ S K => fop op call τ S (cDN op S.next dst ih i recs call K τ)) (fun dst op un rc ih i recs call τ S K => doDraw call τ op S (cDX dst un rc ih i recs call K τ)) (rc) dst op un rc ih i recs call τ S K) (fun _ _ _ dst op un rc ih i recs call τ S K => doDraw call τ op S (cDX dst un rc ih i recs call K τ)) un dst op un rc ih i recs call τ S K) (fun dst op un rc ih i recs call τ S K => AState.rec (motive := fun _ => (Option Nat) → (AOp) → (List Nat) → (Bool) → (Nat → T (List Nat) → CU → T AVal → AState → (T AVal → AState → OU) → OU) → (Nat) → (T (List Nat)) → CU → TA → (T AVal → AState → OU) → OU) (fun h n fl wl dst op un rc ih i recs call τ K => fop op call τ ⟨h, n, n, []⟩ (cDE fl wl dst un rc ih i recs call K τ)) S dst op un rc ih i recs call τ K) (effF op) dst op un rc ih i recs call τ S K
noncomputable def fdraw (l : List AOper) (i : Nat) (recs : T (List Nat)) (call : AVal → LA → AState → KU → OU) (τ : T AVal) (S : AState) (K : T AVal → AState → OU) : OU :=
 List.rec (motive := fun _ => Nat → T (List Nat) → CU → T AVal → AState → (T AVal → AState → OU) → OU) (fun _ _ _ τ S K => K τ S) (fun o _ ih i recs call τ S K => AOper.rec (motive := fun _ => (Nat → T (List Nat) → CU → T AVal → AState → (T AVal → AState → OU) → OU) → Nat → T (List Nat) → CU → T AVal → AState → (T AVal → AState → OU) → OU) (fun dst op guard un rc ih i recs call τ S K => Option.rec (motive := fun _ => (Option Nat) → (AOp) → (List Nat) → (Bool) → (Nat → T (List Nat) → CU → T AVal → AState → (T AVal → AState → OU) → OU) → (Nat) → (T (List Nat)) → CU → TA → AState → (T AVal → AState → OU) → OU) (fun dst op un rc ih i recs call τ S K => fdop dst op un rc ih i recs call τ S K) (fun x dst op un rc ih i recs call τ S K => Bool.rec (motive := fun _ => (Option Nat) → (AOp) → (List Nat) → (Bool) → (Nat → T (List Nat) → CU → T AVal → AState → (T AVal → AState → OU) → OU) → (Nat) → (T (List Nat)) → CU → TA → AState → (T AVal → AState → OU) → OU) (fun dst op un rc ih i recs call τ S K => keepX rc [] recs i (cDKeep dst ih i call K τ undefA S)) (fun dst op un rc ih i recs call τ S K => fdop dst op un rc ih i recs call τ S K) (guardA τ (some x)) dst op un rc ih i recs call τ S K) guard dst op un rc ih i recs call τ S K) o ih i recs call τ S K) l i recs call τ S K
noncomputable def cPut (ih : T AVal → Nat → (T AVal → OU) → OU) (i : Nat) (K : T AVal → OU) (t : T AVal) : OU := ih t (Nat.succ i) K
noncomputable def fputK (l : LA) (t : T AVal) (i : Nat) (K : T AVal → OU) : OU :=
 List.rec (motive := fun _ => T AVal → Nat → (T AVal → OU) → OU) (fun t _ K => K t) (fun v _ ih t i K => fsetA 40 v t i (cPut ih i K)) l t i K
noncomputable def cRes (ih : T AVal → AState → (LA → OU) → OU) (τ : T AVal) (S : AState) (K : LA → OU) (v : AVal) : OU := ih τ S (cCons v K)
noncomputable def fresL (l : List ARes) (τ : T AVal) (S : AState) (K : LA → OU) : OU :=
 List.rec (motive := fun _ => T AVal → AState → (LA → OU) → OU) (fun _ _ K => K []) (fun x _ ih τ S K => ARes.rec (motive := fun _ => (T AVal → AState → (LA → OU) → OU) → T AVal → AState → (LA → OU) → OU) (fun t ih τ S K => fgetK τ t (cRes ih τ S K)) (fun t n agg ih τ S K => fgetK τ t (cLoad1 n agg S (fun v S => cRes ih τ S K v))) x ih τ S K) l τ S K
noncomputable def cOne (S : AState) (k : AVal → AState → OU) (l : LA) : OU :=
 List.rec (motive := fun _ => AState → KU → OU) (fun S k => k (.tup []) S) (fun v r _ S k => List.rec (motive := fun _ => AVal → AState → KU → OU) (fun v S k => k v S) (fun u r _ v S k => k (.tup (v :: u :: r)) S) r v S k) l S k
noncomputable def cRets (τ : T AVal) (results : List ARes) (k : AVal → AState → OU) (S : AState) : OU := fresL results τ S (cOne S k)
noncomputable def cEnd (results : List ARes) (k : AVal → AState → OU) (x : AExit) (τ : T AVal) (ds : List Nat) (S : AState) : OU := AExit.rec (motive := fun _ => (List ARes) → KU → TA → (List Nat) → AState → OU) (fun results k τ ds S => List.rec (motive := fun _ => (List ARes) → KU → TA → (List Nat) → AState → OU) (fun results k τ ds S => cRets τ results k S) (fun _ _ _ results k τ ds S => unwA ds S (cRets τ results k)) ds results k τ ds S) (fun _ _ _ _ _ _ => none) (fun results k τ ds S => List.rec (motive := fun _ => (List ARes) → KU → TA → (List Nat) → AState → OU) (fun results k τ ds S => cRets τ results k S) (fun _ _ _ results k τ ds S => unwA ds S (cRets τ results k)) ds results k τ ds S) x results k τ ds S
noncomputable def cGo (ih : Option Nat → Nat → ACode → T AVal → List Nat → AState → (AExit → T AVal → List Nat → AState → OU) → OU) (ntmps : Nat) (body : ACode) (S : AState) (K : AExit → T AVal → List Nat → AState → OU) (τ : T AVal) : OU := ih none ntmps body τ [] S K
noncomputable def fcallB (ih : Option Nat → Nat → ACode → T AVal → List Nat → AState → (AExit → T AVal → List Nat → AState → OU) → OU) (fn : AFunc) (args : LA) (S : AState) (k : AVal → AState → OU) : OU :=
 AFunc.rec (motive := fun _ => (Option Nat → Nat → ACode → T AVal → List Nat → AState → (AExit → T AVal → List Nat → AState → OU) → OU) → LA → AState → KU → OU) (fun ntmps results body ih args S k => Bool.rec (motive := fun _ => (List ARes) → (ACode) → (Nat) → (Option Nat → Nat → ACode → T AVal → List Nat → AState → (AExit → T AVal → List Nat → AState → OU) → OU) → LA → AState → KU → OU) (fun _ _ _ _ _ _ _ => none) (fun results body ntmps ih args S k => Bool.rec (motive := fun _ => (List ARes) → (ACode) → (Nat) → (Option Nat → Nat → ACode → T AVal → List Nat → AState → (AExit → T AVal → List Nat → AState → OU) → OU) → LA → AState → KU → OU) (fun _ _ _ _ _ _ _ => none) (fun results body ntmps ih args S k => fputK args .leaf 0 (cGo ih ntmps body S (cEnd results k))) (small ntmps) results body ntmps ih args S k) (Nat.ble args.length ntmps) results body ntmps ih args S k) fn ih args S k
noncomputable def fcallF (C : Cfg Unit) (ih : Option Nat → Nat → ACode → T AVal → List Nat → AState → (AExit → T AVal → List Nat → AState → OU) → OU) (f : Nat) (args : LA) (S : AState) (k : AVal → AState → OU) : OU :=
 Option.rec (motive := fun _ => (Nat) → (Cfg Unit) → (Option Nat → Nat → ACode → T AVal → List Nat → AState → (AExit → T AVal → List Nat → AState → OU) → OU) → LA → AState → KU → OU) (fun f C ih args S k => Option.rec (motive := fun _ => (Option Nat → Nat → ACode → T AVal → List Nat → AState → (AExit → T AVal → List Nat → AState → OU) → OU) → LA → AState → KU → OU) (fun _ _ _ _ => none) (fun fn ih args S k => fcallB ih fn args S k) (C.fns.get f) ih args S k) (fun (o : LA → AState → KU → OU) f C ih args S k => o args S k) (C.orc.get f) f C ih args S k
noncomputable def fcallV (C : Cfg Unit) (ih : Option Nat → Nat → ACode → T AVal → List Nat → AState → (AExit → T AVal → List Nat → AState → OU) → OU) (g : AVal) (args : LA) (S : AState) (k : AVal → AState → OU) : OU :=
 AVal.rec (motive_1 := fun _ => (Cfg Unit) → (Option Nat → Nat → ACode → T AVal → List Nat → AState → (AExit → T AVal → List Nat → AState → OU) → OU) → LA → AState → KU → OU) (motive_2 := fun _ => Unit) (fun _ _ _ _ _ => none) (fun _ _ _ _ _ _ => none) (fun _ _ _ _ _ _ _ => none) (fun _ _ _ _ _ _ _ => none) (fun _ _ _ _ _ => none) (fun _ _ _ _ _ _ _ => none) (fun _ _ _ _ _ => none) (fun _ _ _ _ _ _ _ _ _ => none) (fun _ _ _ _ _ => none) (fun _ _ _ _ _ _ => none) (fun f a b _ _ C ih args S k => Fn.rec (motive := fun _ => LA → LA → (Cfg Unit) → (Option Nat → Nat → ACode → T AVal → List Nat → AState → (AExit → T AVal → List Nat → AState → OU) → OU) → LA → AState → KU → OU) (fun f a b C ih args S k => fcallF C ih f (lateL a (lateL args b)) S k) (fun _ _ _ _ _ _ _ _ => none) (fun _ _ _ _ _ _ _ _ _ => none) (fun _ _ _ _ _ _ _ _ _ _ _ => none) (fun l a b C ih args S k => List.rec (motive := fun _ => (Option Nat → Nat → ACode → T AVal → List Nat → AState → (AExit → T AVal → List Nat → AState → OU) → OU) → Nat → LA → AState → KU → OU) (fun ih l args S k => callY ih l args S k) (fun _ _ _ _ _ _ _ _ => none) a ih l args S k) f a b C ih args S k) (fun _ _ _ _ _ => none) (fun _ _ _ _ _ _ _ _ => none) (fun _ _ _ _ _ => none) (fun _ _ _ _ _ _ _ => none) (fun _ _ _ _ _ _ _ => none) () (fun _ _ _ _ => ()) g C ih args S k
noncomputable def cReg (ds : List Nat) (K : AExit → T AVal → List Nat → AState → OU) (τ : T AVal) (S : AState) : OU :=
 K .normal τ ds S
noncomputable def cSeq (ih : Option Nat → Nat → ACode → T AVal → List Nat → AState → (AExit → T AVal → List Nat → AState → OU) → OU) (ro : Option Nat) (size : Nat) (b : ACode) (K : AExit → T AVal → List Nat → AState → OU) (x : AExit) (τ : T AVal) (ds : List Nat) (S : AState) : OU :=
 AExit.rec (motive := fun _ => (Option Nat → Nat → ACode → T AVal → List Nat → AState → (AExit → T AVal → List Nat → AState → OU) → OU) → (Option Nat) → (Nat) → (ACode) → (AExit → T AVal → List Nat → AState → OU) → TA → (List Nat) → AState → OU) (fun ih ro size b K τ ds S => ih ro size b τ ds S K) (fun id ih ro size b K τ ds S => K (.exit id) τ ds S) (fun ih ro size b K τ ds S => K .ret τ ds S) x ih ro size b K τ ds S
noncomputable def cCond (ih : Option Nat → Nat → ACode → T AVal → List Nat → AState → (AExit → T AVal → List Nat → AState → OU) → OU) (ro : Option Nat) (size : Nat) (a : ACode) (b : ACode) (τ : T AVal) (ds : List Nat) (S : AState) (K : AExit → T AVal → List Nat → AState → OU) (c : AVal) : OU :=
 AVal.rec (motive_1 := fun _ => (Option Nat → Nat → ACode → T AVal → List Nat → AState → (AExit → T AVal → List Nat → AState → OU) → OU) → (Option Nat) → (Nat) → (ACode) → (ACode) → TA → (List Nat) → AState → (AExit → T AVal → List Nat → AState → OU) → OU) (motive_2 := fun _ => Unit) (fun _ _ _ _ _ _ _ _ _ => none) (fun t ih ro size a b τ ds S K => Bool.rec (motive := fun _ => (Option Nat → Nat → ACode → T AVal → List Nat → AState → (AExit → T AVal → List Nat → AState → OU) → OU) → (Option Nat) → (Nat) → (ACode) → (ACode) → TA → (List Nat) → AState → (AExit → T AVal → List Nat → AState → OU) → OU) (fun ih ro size a b τ ds S K => ih ro size b τ ds S K) (fun ih ro size a b τ ds S K => ih ro size a τ ds S K) (t) ih ro size a b τ ds S K) (fun _ _ _ _ _ _ _ _ _ _ _ => none) (fun _ _ _ _ _ _ _ _ _ _ _ => none) (fun _ _ _ _ _ _ _ _ _ => none) (fun _ _ _ _ _ _ _ _ _ _ _ => none) (fun _ _ _ _ _ _ _ _ _ => none) (fun _ _ _ _ _ _ _ _ _ _ _ _ _ => none) (fun _ _ _ _ _ _ _ _ _ => none) (fun _ _ _ _ _ _ _ _ _ _ => none) (fun _ _ _ _ _ _ _ _ _ _ _ _ _ _ => none) (fun _ _ _ _ _ _ _ _ _ => none) (fun _ _ _ _ _ _ _ _ _ _ _ _ => none) (fun _ _ _ _ _ _ _ _ _ => none) (fun _ _ _ _ _ _ _ _ _ _ _ => none) (fun _ _ _ _ _ _ _ _ _ _ _ => none) () (fun _ _ _ _ => ()) c ih ro size a b τ ds S K
noncomputable def cBlk (id : Nat) (K : AExit → T AVal → List Nat → AState → OU) (x : AExit) (τ : T AVal) (ds : List Nat) (S : AState) : OU :=
 AExit.rec (motive := fun _ => (Nat) → (AExit → T AVal → List Nat → AState → OU) → TA → (List Nat) → AState → OU) (fun id K τ ds S => K .normal τ ds S) (fun id1 id K τ ds S => Bool.rec (motive := fun _ => (Nat) → (AExit → T AVal → List Nat → AState → OU) → TA → (List Nat) → AState → OU) (fun id1 K τ ds S => K (.exit id1) τ ds S) (fun id1 K τ ds S => K .normal τ ds S) (Nat.beq id id1) id1 K τ ds S) (fun id K τ ds S => K .ret τ ds S) x id K τ ds S
noncomputable def fstep (C : Cfg Unit) (ih : Option Nat → Nat → ACode → T AVal → List Nat → AState → (AExit → T AVal → List Nat → AState → OU) → OU) (ro : Option Nat) (size : Nat) (c : ACode) (τ : T AVal) (ds : List Nat) (S : AState) (K : AExit → T AVal → List Nat → AState → OU) : OU :=
 ACode.rec (motive := fun _ => (Cfg Unit) → (Option Nat → Nat → ACode → T AVal → List Nat → AState → (AExit → T AVal → List Nat → AState → OU) → OU) → (Option Nat) → (Nat) → TA → (List Nat) → AState → (AExit → T AVal → List Nat → AState → OU) → OU) (fun C ih ro size τ ds S K => K .normal τ ds S) (fun bound ops draw C ih ro size τ ds S K => Bool.rec (motive := fun _ => (List AOper) → (Bool) → (Cfg Unit) → (Option Nat → Nat → ACode → T AVal → List Nat → AState → (AExit → T AVal → List Nat → AState → OU) → OU) → TA → (List Nat) → AState → (AExit → T AVal → List Nat → AState → OU) → OU) (fun _ _ _ _ _ _ _ _ => none) (fun ops draw C ih τ ds S K => Bool.rec (motive := fun _ => (List AOper) → (Bool) → (Cfg Unit) → (Option Nat → Nat → ACode → T AVal → List Nat → AState → (AExit → T AVal → List Nat → AState → OU) → OU) → TA → (List Nat) → AState → (AExit → T AVal → List Nat → AState → OU) → OU) (fun ops draw C ih τ ds S K => fops ops (fcallV C ih) τ S (cReg ds K)) (fun ops draw C ih τ ds S K => fdraw ops 0 .leaf (fcallV C ih) τ S (cReg ds K)) (draw) ops draw C ih τ ds S K) (Nat.ble bound size) ops draw C ih τ ds S K) (fun a b _ _ C ih ro size τ ds S K => ih ro size a τ ds S (cSeq ih ro size b K)) (fun c a b _ _ C ih ro size τ ds S K => evK c τ (cCond ih ro size a b τ ds S K)) (fun id c _ C ih ro size τ ds S K => ih ro size c τ ds S (cBlk id K)) (fun c _ C ih ro size τ ds S K => ih ro size c τ ds S (cSeq ih ro size (.loop c) K)) (fun id C ih ro size τ ds S K => K (.exit id) τ ds S) (fun C ih ro size τ ds S K => K .ret τ ds S) (fun f ps a b ca cb _ _ C ih ro size τ ds S K => execStep C ih ro size (.rangeFunc f ps a b ca cb) τ ds S K) (fun _ _ _ _ _ _ _ _ => none) c C ih ro size τ ds S K
noncomputable def fexec (C : Cfg Unit) (n : Nat) : Option Nat → Nat → ACode → T AVal → List Nat → AState → (AExit → T AVal → List Nat → AState → OU) → OU := Nat.rec (motive := fun _ => Option Nat → Nat → ACode → T AVal → List Nat → AState → (AExit → T AVal → List Nat → AState → OU) → OU) (fun _ _ _ _ _ _ _ => none) (fun _ ih => fstep C ih) n
end Abs
end Go.Proofs.YtfkchheildfkpaaGreatDoor.Refl
namespace Go.Proofs.YtfkchheildfkpaaGreatDoor.Refl
open Go
namespace Abs
set_option linter.unusedVariables false
set_option linter.unusedSimpArgs false
theorem fgetK_eq : ∀ (t : T AVal) (n : Nat) (k : AVal → OU), fgetK t n k = k (tget t n)
 | .leaf, _, _ => rfl
 | .node l v r, 0, k => by cases v <;> rfl
 | .node l v r, n + 1, k => by
   show Bool.rec (motive := fun _ => (Nat → (AVal → OU) → OU) → (Nat → (AVal → OU) → OU) → Nat → (AVal → OU) → OU) (fun _ gr n k => gr n k) (fun gl _ n k => gl n k) (Nat.beq (Nat.land n 1) 0) (fgetK l) (fgetK r) (Nat.shiftRight n 1) k
     = k (Option.rec (motive := fun _ => AVal) undefA (fun v => v) (Bool.rec (motive := fun _ => Option AVal) (r.get (Nat.shiftRight n 1)) (l.get (Nat.shiftRight n 1)) (Nat.beq (Nat.land n 1) 0)))
   cases Nat.beq (Nat.land n 1) 0 with
   | true => exact fgetK_eq l _ k
   | false => exact fgetK_eq r _ k
theorem fcellK_eq (d : AVal) : ∀ (t : T AVal) (n : Nat) (k : AVal → OU), fcellK t d n k = k (getCell t d n)
 | .leaf, _, _ => rfl
 | .node l v r, 0, k => by cases v <;> rfl
 | .node l v r, n + 1, k => by
   show Bool.rec (motive := fun _ => (AVal → Nat → (AVal → OU) → OU) → (AVal → Nat → (AVal → OU) → OU) → AVal → Nat → (AVal → OU) → OU) (fun _ gr d n k => gr d n k) (fun gl _ d n k => gl d n k) (Nat.beq (Nat.land n 1) 0) (fcellK l) (fcellK r) d (Nat.shiftRight n 1) k
     = k (Option.rec (motive := fun _ => AVal) d (fun v => v) (Bool.rec (motive := fun _ => Option AVal) (r.get (Nat.shiftRight n 1)) (l.get (Nat.shiftRight n 1)) (Nat.beq (Nat.land n 1) 0)))
   cases Nat.beq (Nat.land n 1) 0 with
   | true => exact fcellK_eq d l _ k
   | false => exact fcellK_eq d r _ k
theorem hgetK_eq : ∀ (t : T ABlock) (n : Nat) (k : ABlock → OU), hgetK t n k = match t.get n with | some b => k b | none => none
 | .leaf, _, _ => rfl
 | .node l v r, 0, k => by cases v <;> rfl
 | .node l v r, n + 1, k => by
   show Bool.rec (motive := fun _ => (Nat → (ABlock → OU) → OU) → (Nat → (ABlock → OU) → OU) → Nat → (ABlock → OU) → OU) (fun _ gr n k => gr n k) (fun gl _ n k => gl n k) (Nat.beq (Nat.land n 1) 0) (hgetK l) (hgetK r) (Nat.shiftRight n 1) k
     = match (Bool.rec (motive := fun _ => Option ABlock) (r.get (Nat.shiftRight n 1)) (l.get (Nat.shiftRight n 1)) (Nat.beq (Nat.land n 1) 0)) with | some b => k b | none => none
   cases Nat.beq (Nat.land n 1) 0 with
   | true => exact hgetK_eq l _ k
   | false => exact hgetK_eq r _ k
theorem fsetA_eq (x : AVal) : ∀ (f : Nat) (t : T AVal) (n : Nat) (K : T AVal → OU), fsetA f x t n K = K (T.put x f t n) := by
 intro f t n K
 refine Eq.trans ?_ (T.setK_eq x f t n K)
 induction f generalizing t n K with
 | zero => rfl
 | succ f ih =>
   cases t with
   | leaf =>
     cases n with
     | zero => rfl
     | succ n =>
       show Bool.rec (motive := fun _ => (AVal → T AVal → Nat → (T AVal → OU) → OU) → AVal → Nat → (T AVal → OU) → OU) _ _ (Nat.beq (Nat.land n 1) 0) (fsetA f) x (Nat.shiftRight n 1) K = Bool.rec (motive := fun _ => OU) _ _ (Nat.beq (Nat.land n 1) 0)
       cases Nat.beq (Nat.land n 1) 0 with
       | true => exact ih .leaf (Nat.shiftRight n 1) _
       | false => exact ih .leaf (Nat.shiftRight n 1) _
   | node l v r =>
     cases n with
     | zero => rfl
     | succ n =>
       show Bool.rec (motive := fun _ => T AVal → Option AVal → T AVal → (AVal → T AVal → Nat → (T AVal → OU) → OU) → AVal → Nat → (T AVal → OU) → OU) _ _ (Nat.beq (Nat.land n 1) 0) l v r (fsetA f) x (Nat.shiftRight n 1) K = Bool.rec (motive := fun _ => OU) _ _ (Nat.beq (Nat.land n 1) 0)
       cases Nat.beq (Nat.land n 1) 0 with
       | true => exact ih l (Nat.shiftRight n 1) _
       | false => exact ih r (Nat.shiftRight n 1) _
theorem fsetH_eq (x : ABlock) : ∀ (f : Nat) (t : T ABlock) (n : Nat) (K : T ABlock → OU), fsetH f x t n K = K (T.put x f t n) := by
 intro f t n K
 refine Eq.trans ?_ (T.setK_eq x f t n K)
 induction f generalizing t n K with
 | zero => rfl
 | succ f ih =>
   cases t with
   | leaf =>
     cases n with
     | zero => rfl
     | succ n =>
       show Bool.rec (motive := fun _ => (ABlock → T ABlock → Nat → (T ABlock → OU) → OU) → ABlock → Nat → (T ABlock → OU) → OU) _ _ (Nat.beq (Nat.land n 1) 0) (fsetH f) x (Nat.shiftRight n 1) K = Bool.rec (motive := fun _ => OU) _ _ (Nat.beq (Nat.land n 1) 0)
       cases Nat.beq (Nat.land n 1) 0 with
       | true => exact ih .leaf (Nat.shiftRight n 1) _
       | false => exact ih .leaf (Nat.shiftRight n 1) _
   | node l v r =>
     cases n with
     | zero => rfl
     | succ n =>
       show Bool.rec (motive := fun _ => T ABlock → Option ABlock → T ABlock → (ABlock → T ABlock → Nat → (T ABlock → OU) → OU) → ABlock → Nat → (T ABlock → OU) → OU) _ _ (Nat.beq (Nat.land n 1) 0) l v r (fsetH f) x (Nat.shiftRight n 1) K = Bool.rec (motive := fun _ => OU) _ _ (Nat.beq (Nat.land n 1) 0)
       cases Nat.beq (Nat.land n 1) 0 with
       | true => exact ih l (Nat.shiftRight n 1) _
       | false => exact ih r (Nat.shiftRight n 1) _
theorem fN_eq (n : Nat) (K : Nat → OU) : fN n K = K n := by cases n <;> rfl
theorem fI_eq (kk : IntKind) (n : Int) (S : AState) (k : KV Unit) : fI kk n S k = k (.int kk n) S := by
 cases n with
 | ofNat m => exact fN_eq m (cInt kk S k)
 | negSucc m => rfl
theorem fres_int (kk : IntKind) (n : Int) (S : AState) (k : KV Unit) : fres (mkInt kk n) S k = k (.int kk n) S := by
 rw [mkInt_eq]; exact forceV_eq (.int kk n) (fun v => k v S)
theorem fres_bool (b : Bool) (S : AState) (k : KV Unit) : fres (mkBool b) S k = k (.bool b) S := by rw [mkBool_eq]; exact forceV_eq (.bool b) (fun v => k v S)
theorem fres_val (v : AVal) (S : AState) (k : KV Unit) : fres (some (.val v)) S k = k v S := forceV_eq v (fun v => k v S)
theorem fres_none (S : AState) (k : KV Unit) : fres none S k = none := rfl
theorem cOfNat_eq (kk : IntKind) (c : Nat) (S : AState) (k : KV Unit) : cOfNat kk S k c = k (.int kk (kk.wrap (.ofNat c))) S := by
 show Bool.rec (motive := fun _ => IntKind → Nat → AState → KV Unit → OU) _ _ (Nat.ble (Nat.succ c) (lim kk)) kk c S k = _
 cases h : Nat.ble (Nat.succ c) (lim kk) with
 | true =>
   have h : c < lim kk := isSmall_iff.1 h
   rw [show kk.wrap (.ofNat c) = .ofNat c from wrap_small h]
 | false => exact fI_eq _ _ _ _
theorem evK_eq (x : AOpd) (τ : T AVal) (k : AVal → OU) : evK x τ k = k (AOpd.eval τ x) := by
 cases x with
 | tmp n => exact fgetK_eq τ n k
 | const v => rfl
theorem evsK_eq (τ : T AVal) : ∀ (l : List AOpd) (K : LA → OU), evsK l τ K = K (l.map (AOpd.eval τ))
 | [], K => rfl
 | x :: l, K => by
   show evK x τ (cEvs (evsK l) τ K) = _
   rw [evK_eq]
   show evsK l τ (cCons _ K) = _
   rw [evsK_eq τ l]
   rfl
theorem iAdd_eq (kk : IntKind) (m n : Int) (S : AState) (k : KV Unit) : iAdd kk m n S k = fres (intBin .add kk m n) S k := by
 cases m <;> cases n <;> first | rfl | skip
 rename_i a b
 show fN (Nat.add a b) (cOfNat kk S k) = _
 rw [fN_eq, cOfNat_eq]
 simp only [intBin]
 rw [fres_int, wrapQ_eq]; rfl
theorem iSub_eq (kk : IntKind) (m n : Int) (S : AState) (k : KV Unit) : iSub kk m n S k = fres (intBin .sub kk m n) S k := by
 cases m <;> cases n <;> first | rfl | skip
 rename_i a b
 show Bool.rec (motive := fun _ => IntKind → Nat → Nat → AState → KV Unit → OU) _ _ (Nat.ble b a) kk a b S k = _
 cases h : Nat.ble b a with
 | false => rfl
 | true =>
   show fN (Nat.sub a b) (cOfNat kk S k) = _
   rw [Nat.ble_eq] at h
   rw [fN_eq, cOfNat_eq]
   simp only [intBin]
   rw [fres_int, wrapQ_eq]
   have : Int.sub (.ofNat a) (.ofNat b) = .ofNat (Nat.sub a b) := by
     show (a : Int) - (b : Int) = ((a - b : Nat) : Int)
     omega
   rw [this]
theorem iMul_eq (kk : IntKind) (m n : Int) (S : AState) (k : KV Unit) : iMul kk m n S k = fres (intBin .mul kk m n) S k := by
 cases m <;> cases n <;> first | rfl | skip
 rename_i a b
 show fN (Nat.mul a b) (cOfNat kk S k) = _
 rw [fN_eq, cOfNat_eq]
 simp only [intBin]
 rw [fres_int, wrapQ_eq]; rfl
theorem iQuo_eq (kk : IntKind) (m n : Int) (S : AState) (k : KV Unit) : iQuo kk m n S k = fres (intBin .quo kk m n) S k := by
 cases m <;> cases n <;> first | rfl | skip
 rename_i a b
 cases b with
 | zero => rfl
 | succ b =>
   show fN (Nat.div a (Nat.succ b)) (cOfNat kk S k) = _
   rw [fN_eq, cOfNat_eq]
   show _ = fres (mkInt kk (wrapQ kk (Int.tdiv (.ofNat a) (.ofNat (b + 1))))) S k
   rw [fres_int, wrapQ_eq]; rfl
theorem iRem_eq (kk : IntKind) (m n : Int) (S : AState) (k : KV Unit) : iRem kk m n S k = fres (intBin .rem kk m n) S k := by
 cases m <;> cases n <;> first | rfl | skip
 rename_i a b
 cases b with
 | zero => rfl
 | succ b =>
   show fN (Nat.mod a (Nat.succ b)) (cInt kk S k) = _
   rw [fN_eq]
   show _ = fres (mkInt kk (Int.tmod (.ofNat a) (.ofNat (b + 1)))) S k
   rw [fres_int]; rfl
theorem bits_fast {op : BinOp} {f : Nat → Nat → Nat} (hf : ∀ a b, natOp op a b = some (f a b)) (hop : ∀ kk m n, intBin op kk m n = mkInt kk (bitsQ op kk m n)) (kk : IntKind) (a b : Nat) (S : AState) (k : KV Unit) :
   Bool.rec (motive := fun _ => IntKind → Nat → Nat → AState → KV Unit → OU) (fun kk a b S k => fres (intBin op kk (.ofNat a) (.ofNat b)) S k)
     (fun kk a b S k => Bool.rec (motive := fun _ => IntKind → Nat → Nat → AState → KV Unit → OU) (fun kk a b S k => fres (intBin op kk (.ofNat a) (.ofNat b)) S k) (fun kk a b S k => fN (f a b) (cInt kk S k)) (Nat.ble (Nat.succ b) (lim kk)) kk a b S k) (Nat.ble (Nat.succ a) (lim kk)) kk a b S k
   = fres (intBin op kk (.ofNat a) (.ofNat b)) S k := by
 cases ha : Nat.ble (Nat.succ a) (lim kk) with
 | false => rfl
 | true =>
   dsimp only
   cases hb : Nat.ble (Nat.succ b) (lim kk) with
   | false => rfl
   | true =>
     dsimp only
     rw [fN_eq, hop, fres_int]
     have h1 : isSmall kk a = true := ha
     have h2 : isSmall kk b = true := hb
     rw [bitsQ_eq, show bitsOp op kk (.ofNat a) (.ofNat b) = .ofNat (f a b) from natOp_eq (isSmall_iff.1 h1) (isSmall_iff.1 h2) (hf a b)]
     rfl
theorem iBand_eq (kk : IntKind) (m n : Int) (S : AState) (k : KV Unit) : iBand kk m n S k = fres (intBin .and kk m n) S k := by
 cases m <;> cases n <;> first | rfl | skip
 exact bits_fast (op := .and) (f := Nat.land) (fun _ _ => rfl) (fun _ _ _ => rfl) _ _ _ _ _
theorem iBor_eq (kk : IntKind) (m n : Int) (S : AState) (k : KV Unit) : iBor kk m n S k = fres (intBin .or kk m n) S k := by
 cases m <;> cases n <;> first | rfl | skip
 exact bits_fast (op := .or) (f := Nat.lor) (fun _ _ => rfl) (fun _ _ _ => rfl) _ _ _ _ _
theorem iBxor_eq (kk : IntKind) (m n : Int) (S : AState) (k : KV Unit) : iBxor kk m n S k = fres (intBin .xor kk m n) S k := by
 cases m <;> cases n <;> first | rfl | skip
 exact bits_fast (op := .xor) (f := Nat.xor) (fun _ _ => rfl) (fun _ _ _ => rfl) _ _ _ _ _
theorem cmp_fast (t f : Bool) (c : Bool) (S : AState) (k : KV Unit) : Bool.rec (motive := fun _ => AState → KV Unit → OU) (fun S k => k (.bool f) S) (fun S k => k (.bool t) S) c S k = k (.bool (match c with | true => t | false => f)) S := by cases c <;> rfl
theorem iEql_eq (kk : IntKind) (m n : Int) (S : AState) (k : KV Unit) : iEql kk m n S k = fres (intBin .eql kk m n) S k := by
 cases m <;> cases n <;> first | rfl | skip
 rename_i a b
 show Bool.rec (motive := fun _ => AState → KV Unit → OU) _ _ (Nat.beq a b) S k = fres (mkBool (Nat.beq a b)) S k
 rw [fres_bool]; cases Nat.beq a b <;> rfl
theorem iNeq_eq (kk : IntKind) (m n : Int) (S : AState) (k : KV Unit) : iNeq kk m n S k = fres (intBin .neq kk m n) S k := by
 cases m <;> cases n <;> first | rfl | skip
 rename_i a b
 show Bool.rec (motive := fun _ => AState → KV Unit → OU) _ _ (Nat.beq a b) S k = fres (mkBool (!(Nat.beq a b))) S k
 rw [fres_bool]; cases Nat.beq a b <;> rfl
theorem iLss_eq (kk : IntKind) (m n : Int) (S : AState) (k : KV Unit) : iLss kk m n S k = fres (intBin .lss kk m n) S k := by
 cases m <;> cases n <;> first | rfl | skip
 rename_i a b
 show Bool.rec (motive := fun _ => AState → KV Unit → OU) _ _ (Nat.ble (Nat.succ a) b) S k = fres (mkBool (Nat.ble (Nat.succ a) b)) S k
 rw [fres_bool]; cases Nat.ble (Nat.succ a) b <;> rfl
theorem iGeq_eq (kk : IntKind) (m n : Int) (S : AState) (k : KV Unit) : iGeq kk m n S k = fres (intBin .geq kk m n) S k := by
 cases m <;> cases n <;> first | rfl | skip
 rename_i a b
 show Bool.rec (motive := fun _ => AState → KV Unit → OU) _ _ (Nat.ble (Nat.succ a) b) S k = fres (mkBool (!(Nat.ble (Nat.succ a) b))) S k
 rw [fres_bool]; cases Nat.ble (Nat.succ a) b <;> rfl
theorem iGtr_eq (kk : IntKind) (m n : Int) (S : AState) (k : KV Unit) : iGtr kk m n S k = fres (intBin .gtr kk m n) S k := by
 cases m <;> cases n <;> first | rfl | skip
 rename_i a b
 show Bool.rec (motive := fun _ => AState → KV Unit → OU) _ _ (Nat.ble (Nat.succ b) a) S k = fres (mkBool (Nat.ble (Nat.succ b) a)) S k
 rw [fres_bool]; cases Nat.ble (Nat.succ b) a <;> rfl
theorem iLeq_eq (kk : IntKind) (m n : Int) (S : AState) (k : KV Unit) : iLeq kk m n S k = fres (intBin .leq kk m n) S k := by
 cases m <;> cases n <;> first | rfl | skip
 rename_i a b
 show Bool.rec (motive := fun _ => AState → KV Unit → OU) _ _ (Nat.ble (Nat.succ b) a) S k = fres (mkBool (!(Nat.ble (Nat.succ b) a))) S k
 rw [fres_bool]; cases Nat.ble (Nat.succ b) a <;> rfl
theorem iShl_eq (kk : IntKind) (m n : Int) (S : AState) (k : KV Unit) : iShl kk m n S k = fres (shiftA .shl kk m n) S k := by
 cases m <;> cases n <;> first | rfl | skip
 rename_i a b
 show Bool.rec (motive := fun _ => IntKind → Nat → Nat → AState → KV Unit → OU) _ _ (Nat.ble b kk.bits) kk a b S k = _
 cases h : Nat.ble b kk.bits with
 | false => rfl
 | true =>
   show fN (Nat.mul a (Nat.pow 2 b)) (cOfNat kk S k) = _
   rw [Nat.ble_eq] at h
   rw [fN_eq, cOfNat_eq]
   show _ = fres (shlQ kk (.ofNat a) (Nat.min b kk.bits)) S k
   rw [show Nat.min b kk.bits = b from Nat.min_eq_left h]
   unfold shlQ
   rw [fres_int, wrapQ_eq]; rfl
theorem iShr_eq (kk : IntKind) (m n : Int) (S : AState) (k : KV Unit) : iShr kk m n S k = fres (shiftA .shr kk m n) S k := by
 cases m <;> cases n <;> first | rfl | skip
 rename_i a b
 show Bool.rec (motive := fun _ => IntKind → Nat → Nat → AState → KV Unit → OU) _ _ (Nat.ble b kk.bits) kk a b S k = _
 cases h : Nat.ble b kk.bits with
 | false => rfl
 | true =>
   show fN (Nat.shiftRight a b) (cInt kk S k) = _
   rw [Nat.ble_eq] at h
   rw [fN_eq]
   show _ = fres (shrQ kk (.ofNat a) (Nat.min b kk.bits)) S k
   rw [show Nat.min b kk.bits = b from Nat.min_eq_left h]
   unfold shrQ
   rw [fres_int]; rfl
theorem fint_eq (op : BinOp) (kk : IntKind) (m : Int) (kk1 : IntKind) (n : Int) (S : AState) (k : KV Unit) : fint op kk m kk1 n S k = fres (intBin2 op kk m kk1 n) S k := by
 have same : ∀ (op : BinOp) (g : IntKind → Int → Int → AState → KV Unit → OU), (∀ kk m n S k, g kk m n S k = fres (intBin op kk m n) S k) →
     Bool.rec (motive := fun _ => IntKind → Int → Int → AState → KV Unit → OU) (fun _ _ _ _ _ => none) (fun kk m n S k => g kk m n S k) (kindEq kk kk1) kk m n S k = fres (match kindEq kk kk1 with | true => intBin op kk m n | false => none) S k := by
   intro op g hg
   cases kindEq kk kk1 with
   | true => exact hg ..
   | false => rfl
 cases op with
 | shl => exact iShl_eq ..
 | shr => exact iShr_eq ..
 | andNot => rfl
 | add => exact same .add _ iAdd_eq
 | sub => exact same .sub _ iSub_eq
 | mul => exact same .mul _ iMul_eq
 | quo => exact same .quo _ iQuo_eq
 | rem => exact same .rem _ iRem_eq
 | and => exact same .and _ iBand_eq
 | or => exact same .or _ iBor_eq
 | xor => exact same .xor _ iBxor_eq
 | eql => exact same .eql _ iEql_eq
 | neq => exact same .neq _ iNeq_eq
 | lss => exact same .lss _ iLss_eq
 | leq => exact same .leq _ iLeq_eq
 | gtr => exact same .gtr _ iGtr_eq
 | geq => exact same .geq _ iGeq_eq
theorem fstr_eq (op : BinOp) (n x m y : Nat) (S : AState) (k : KV Unit) : fstr op n x m y S k = fres (strBin op n x m y) S k := by
 cases op with
 | eql =>
   show Bool.rec (motive := fun _ => Nat → Nat → AState → KV Unit → OU) _ _ (Nat.beq n m) x y S k = fres (mkBool (and (Nat.beq n m) (Nat.beq x y))) S k
   rw [fres_bool]
   cases Nat.beq n m with
   | false => rfl
   | true =>
     show Bool.rec (motive := fun _ => AState → KV Unit → OU) _ _ (Nat.beq x y) S k = _
     cases Nat.beq x y <;> rfl
 | neq =>
   show Bool.rec (motive := fun _ => Nat → Nat → AState → KV Unit → OU) _ _ (Nat.beq n m) x y S k = fres (mkBool (!(and (Nat.beq n m) (Nat.beq x y)))) S k
   rw [fres_bool]
   cases Nat.beq n m with
   | false => rfl
   | true =>
     show Bool.rec (motive := fun _ => AState → KV Unit → OU) _ _ (Nat.beq x y) S k = _
     cases Nat.beq x y <;> rfl
 | _ => rfl
theorem fbin_eq (d : TypeDesc) (op : BinOp) (a b : AVal) (S : AState) (k : KV Unit) : fbin d op a b S k = fres (binA d op a b) S k := by
 cases a <;> first | rfl | skip
 case int kk m =>
   cases b <;> first | rfl | skip
   exact fint_eq ..
 case str n x =>
   cases b <;> first | rfl | skip
   rename_i m y
   show Bool.rec (motive := fun _ => BinOp → Nat → Nat → Nat → Nat → AState → KV Unit → OU) _ _ (small (Nat.add n m)) op n x m y S k = fres (match small (Nat.add n m) with | true => strBin op n x m y | false => none) S k
   cases small (Nat.add n m) with
   | true => exact fstr_eq ..
   | false => rfl
end Abs
end Go.Proofs.YtfkchheildfkpaaGreatDoor.Refl
namespace Go.Proofs.YtfkchheildfkpaaGreatDoor.Refl
open Go
namespace Abs
set_option linter.unusedVariables false
set_option linter.unusedSimpArgs false
theorem freadK_eq (c : T AVal) (d : AVal) : ∀ (n i : Nat) (K : LA → OU), freadK c d i n K = K (readCells c d i n)
 | 0, i, K => rfl
 | n + 1, i, K => by
   show fcellK c d i (cRd (fun c d i K => freadK c d i n K) c d i K) = _
   rw [fcellK_eq]
   show freadK c d (Nat.succ i) n (cCons (getCell c d i) K) = _
   rw [freadK_eq c d n]; rfl
theorem cLoad1_eq (n : Nat) (agg : Bool) (S : AState) (k : KV Unit) (a : AVal) : cLoad1 n agg S k a = fres (loadA S.heap.get n agg a) S k := by
 cases a <;> first | rfl | skip
 rename_i b o
 show hgetK S.heap b (cLoad2 n agg o S k) = fres (Option.rec (motive := fun _ => Option SRes) none (fun blk => loadB n agg o blk) (S.heap.get b)) S k
 rw [hgetK_eq]
 cases S.heap.get b with
 | none => rfl
 | some blk =>
   show cLoad2 n agg o S k blk = fres (loadB n agg o blk) S k
   cases blk <;> first | rfl | skip
   rename_i c d kk wr e
   show Bool.rec (motive := fun _ => T AVal → AVal → Nat → Nat → Bool → AState → KV Unit → OU) _ _ (Nat.ble (Nat.add o n) kk) c d o n agg S k = fres (match Nat.ble (Nat.add o n) kk with
   | true => match agg with
     | true => some (.val (.agg (readCells c d o n)))
     | false => some (.val (getCell c d o))
   | false => none) S k
   cases Nat.ble (Nat.add o n) kk with
   | false => rfl
   | true =>
     cases agg with
     | true =>
       show freadK c d o n (cAgg S k) = fres (some (.val (.agg (readCells c d o n)))) S k
       rw [freadK_eq, fres_val]; rfl
     | false =>
       show fcellK c d o (cS S k) = fres (some (.val (getCell c d o))) S k
       rw [fcellK_eq, fres_val]; rfl
theorem scalarF_eq (x : AVal) : scalarF x = scalar x := by cases x <;> rfl
theorem cW3_eq (b next floor : Nat) (wl : List Nat) (k : KV Unit) (heap : T ABlock) : cW3 b next floor wl k heap = k undefA ⟨heap, next, floor, addTo b floor wl⟩ := by
 show Bool.rec (motive := fun _ => Nat → Nat → Nat → List Nat → KV Unit → T ABlock → OU) _ _ (Nat.ble (Nat.succ b) floor) b next floor wl k heap = _
 unfold addTo
 cases Nat.ble (Nat.succ b) floor with
 | false => rfl
 | true =>
   show Bool.rec (motive := fun _ => Nat → Nat → Nat → List Nat → KV Unit → T ABlock → OU) _ _ (memB b wl) b next floor wl k heap = _
   cases memB b wl <;> rfl
theorem fwr1_eq (b o : Nat) (x : AVal) (S : AState) (k : KV Unit) : fwr1 b o x S k = writeCells S b o [x] (k undefA) := by
 obtain ⟨heap, next, floor, wl⟩ := S
 show hgetK heap b (cW1 b o x heap next floor wl k) = _
 rw [hgetK_eq]
 unfold writeCells
 show _ = match heap.get b with
   | some (.cells c d n wr e) => match and (and wr ([x].all scalar)) (and (Nat.ble (Nat.add o [x].length) n) (and (small next) (small n))) with
     | true => writeS ⟨heap, next, floor, wl⟩ b (.cells (putCells c o [x]) d n true e) (k undefA)
     | false => none
   | _ => none
 cases heap.get b with
 | none => rfl
 | some blk =>
   show cW1 b o x heap next floor wl k blk = _
   cases blk <;> first | rfl | skip
   rename_i c d n wr e
   dsimp only
   rw [show [x].all scalar = scalarF x by rw [scalarF_eq]; simp, show Nat.add o [x].length = Nat.succ o from rfl]
   cases wr with
   | false => rfl
   | true =>
     show Bool.rec (motive := fun _ => T AVal → AVal → Nat → Nat → Nat → Nat → AVal → T ABlock → Nat → Nat → List Nat → KV Unit → OU) _ _ (scalarF x) c d n e b o x heap next floor wl k = _
     cases scalarF x with
     | false => rfl
     | true =>
       show Bool.rec (motive := fun _ => T AVal → AVal → Nat → Nat → Nat → Nat → AVal → T ABlock → Nat → Nat → List Nat → KV Unit → OU) _ _ (Nat.ble (Nat.succ o) n) c d n e b o x heap next floor wl k = _
       cases Nat.ble (Nat.succ o) n with
       | false => rfl
       | true =>
         show Bool.rec (motive := fun _ => T AVal → AVal → Nat → Nat → Nat → Nat → AVal → T ABlock → Nat → Nat → List Nat → KV Unit → OU) _ _ (small next) c d n e b o x heap next floor wl k = _
         cases small next with
         | false => rfl
         | true =>
           show Bool.rec (motive := fun _ => T AVal → AVal → Nat → Nat → Nat → Nat → AVal → T ABlock → Nat → Nat → List Nat → KV Unit → OU) _ _ (small n) c d n e b o x heap next floor wl k = _
           cases small n with
           | false => rfl
           | true =>
             show fsetA 40 x c o (cW2 b d n e next floor wl heap k) = writeS ⟨heap, next, floor, wl⟩ b (.cells (putCells c o [x]) d n true e) (k undefA)
             rw [fsetA_eq, writeS_eq]
             show fsetH 40 (.cells (T.put x 40 c o) d n true e) heap b (cW3 b next floor wl k) = _
             rw [fsetH_eq, cW3_eq, putCells_cons]
             rfl
theorem cSt2_eq (n : Nat) (agg : Bool) (a : AVal) (S : AState) (k : KV Unit) (x : AVal) : cSt2 n agg a S k x = storeA S n agg a x k := by
 cases a <;> first | rfl | skip
 rename_i b o
 cases agg with
 | true => rfl
 | false =>
   show Bool.rec (motive := fun _ => Nat → Nat → AVal → AState → KV Unit → OU) _ _ (Nat.beq n 1) b o x S k = match Nat.beq n 1 with
     | true => writeCells S b o [x] (k undefA)
     | false => none
   cases Nat.beq n 1 with
   | false => rfl
   | true => exact fwr1_eq ..
theorem cFld_eq (off : Nat) (S : AState) (k : KV Unit) (a : AVal) : cFld off S k a = fres (fieldAddrA off a) S k := by
 cases a <;> first | rfl | skip
 rename_i b o
 show fN (Nat.add o off) (cPtr b S k) = fres (forceN (Nat.add o off) fun o => some (.val (.ptr b o))) S k
 rw [fN_eq, forceN_eq, fres_val]; rfl
theorem cIx2_eq (s : Nat) (arr : Option Nat) (x : AVal) (S : AState) (k : KV Unit) (i : AVal) : cIx2 s arr x S k i = fres (indexAddrA s arr x i) S k := by
 cases i <;> first | rfl | skip
 rename_i kk i
 cases i <;> first | rfl | skip
 rename_i i
 have key : ∀ (n b o : Nat), Bool.rec (motive := fun _ => Nat → Nat → Nat → Nat → AState → KV Unit → OU) (fun _ _ _ _ _ _ => none) (fun s b o i S k => fN (Nat.add o (Nat.mul i s)) (cPtr b S k)) (Nat.ble (Nat.succ i) n) s b o i S k
     = fres (match Nat.ble (Nat.succ i) n with | true => forceN (Nat.add o (Nat.mul i s)) fun o => some (.val (.ptr b o)) | false => none) S k := by
   intro n b o
   cases Nat.ble (Nat.succ i) n with
   | false => rfl
   | true =>
     show fN (Nat.add o (Nat.mul i s)) (cPtr b S k) = fres (forceN (Nat.add o (Nat.mul i s)) fun o => some (.val (.ptr b o))) S k
     rw [fN_eq, forceN_eq, fres_val]; rfl
 cases x <;> first | rfl | skip
 · rename_i b o
   cases arr with
   | none => rfl
   | some n => exact key n b o
 · rename_i b o n s'
   cases arr with
   | none => exact key n b o
   | some n => rfl
theorem cIs2_eq (x : AVal) (S : AState) (k : KV Unit) (i : AVal) : cIs2 x S k i = fres (indexStrA x i) S k := by
 cases i <;> first | rfl | skip
 rename_i kk i
 cases i <;> first | rfl | skip
 rename_i i
 cases x <;> first | rfl | skip
 rename_i n x
 show Bool.rec (motive := fun _ => Nat → Nat → Nat → AState → KV Unit → OU) _ _ (Nat.ble (Nat.succ i) n) n x i S k = fres (match Nat.ble (Nat.succ i) n with | true => mkInt .u8 (.ofNat (byteAt n x i)) | false => none) S k
 cases Nat.ble (Nat.succ i) n with
 | false => rfl
 | true =>
   show fN (byteAt n x i) (cU8 S k) = fres (mkInt .u8 (.ofNat (byteAt n x i))) S k
   rw [fN_eq, fres_int]; rfl
theorem fnth_eq (S : AState) (k : KV Unit) : ∀ (l : LA) (i : Nat), fnth l i (cS S k) = fres (match l[i]? with | some v => some (.val v) | none => none) S k
 | [], i => rfl
 | v :: l, 0 => (fres_val v S k).symm
 | v :: l, i + 1 => fnth_eq S k l i
theorem cExt_eq (i : Nat) (S : AState) (k : KV Unit) (x : AVal) : cExt i S k x = fres (extractA x i) S k := by
 cases x <;> first | rfl | skip
 exact fnth_eq S k _ i
theorem cField_eq (off n : Nat) (agg : Bool) (S : AState) (k : KV Unit) (x : AVal) : cField off n agg S k x = fres (fieldA off n agg x) S k := by
 cases x <;> first | rfl | skip
 cases agg with
 | true => rfl
 | false => exact fnth_eq S k _ off
theorem cConv_eq (kk : IntKind) (S : AState) (k : KV Unit) (x : AVal) : cConv kk S k x = fres (convIntA kk x) S k := by
 cases x <;> first | rfl | skip
 rename_i k0 n
 cases n with
 | ofNat m =>
   show cOfNat kk S k m = fres (mkInt kk (wrapQ kk (.ofNat m))) S k
   rw [cOfNat_eq, fres_int, wrapQ_eq]
 | negSucc m => rfl
theorem cNil_eq (S : AState) (k : KV Unit) (x : AVal) : cNil S k x = fres (nilCheckA x) S k := by
 cases x <;> rfl
theorem cPick_eq (x y : AOpd) (τ : T AVal) (S : AState) (k : KV Unit) (c : AVal) : cPick x y τ S k c = fres (pickA c (AOpd.eval τ x) (AOpd.eval τ y)) S k := by
 cases c <;> first | rfl | skip
 rename_i b
 cases b with
 | true =>
   show evK x τ (cS S k) = fres (some (.val (AOpd.eval τ x))) S k
   rw [evK_eq, fres_val]; rfl
 | false =>
   show evK y τ (cS S k) = fres (some (.val (AOpd.eval τ y))) S k
   rw [evK_eq, fres_val]; rfl
theorem cLen_eq (d : TypeDesc) (S : AState) (k : KV Unit) (x : AVal) : cLen d S k x = fres (match lenOk d x with | true => lenA S.heap.get x | false => none) S k := by
 cases x <;> first | rfl | skip
 · rename_i n x
   cases d <;> first | rfl | exact (fres_val (.int .i64 (.ofNat n)) S k).symm
 · rename_i b o n s
   cases d <;> first | rfl | exact (fres_val (.int .i64 (.ofNat n)) S k).symm
theorem cFv_eq (k : KV Unit) : (fun (v : AVal) (S : AState) => forceV v fun v => k v S) = k := by
 funext v S; exact forceV_eq v (fun v => k v S)
theorem doOp_val {call : AVal → LA → AState → KV Unit → OU} {op : AOp} {τ : T AVal} {S : AState} {k : KV Unit} (h1 : effB op = false) : doOp call τ op S k = fres (simpleA (AOpd.eval τ) S.heap.get op) S k := by
 cases op <;> first | (simp [effB] at h1; done) | skip
 all_goals
   unfold doOp
   dsimp only [effB]
   unfold fres
   split <;> rename_i hs <;> rw [hs] <;> rfl
theorem doOp_eff {call : AVal → LA → AState → KV Unit → OU} {op : AOp} {τ : T AVal} {S : AState} {k : KV Unit} (h1 : effB op = true) (h2 : ∀ g as, op ≠ .call g as) : doOp call τ op S k = effectA (AOpd.eval τ) S op k := by
 have hk := cFv_eq k
 cases op <;> first | (simp [effB] at h1; done) | skip
 case call g as => exact absurd rfl (h2 g as)
 all_goals
   unfold doOp
   dsimp only [effB]
   rw [hk]
theorem doOp_call {call : AVal → LA → AState → KV Unit → OU} {g : AOpd} {as : List AOpd} {τ : T AVal} {S : AState} {k : KV Unit} : doOp call τ (.call g as) S k = call (AOpd.eval τ g) (as.map (AOpd.eval τ)) S k := by
 unfold doOp
 dsimp only
 rw [forceV_eq, forceL_eq, mapE_eq, cFv_eq]
theorem fop_eq (op : AOp) (call : AVal → LA → AState → KV Unit → OU) (τ : T AVal) (S : AState) (k : KV Unit) : fop op call τ S k = doOp call τ op S k := by
 cases op <;> first | rfl | skip
 case mov x =>
   rw [doOp_val rfl]
   show evK x τ (cS S k) = fres (some (.val (AOpd.eval τ x))) S k
   rw [evK_eq, fres_val]; rfl
 case pick c a b =>
   rw [doOp_val rfl]
   show evK c τ (cPick a b τ S k) = _
   rw [evK_eq, cPick_eq]; rfl
 case load n agg a =>
   rw [doOp_val rfl]
   show evK a τ (cLoad1 n agg S k) = _
   rw [evK_eq, cLoad1_eq]; rfl
 case store n agg a x =>
   rw [doOp_eff rfl (fun _ _ h => by cases h)]
   show evK a τ (cSt1 n agg x τ S k) = _
   rw [evK_eq]
   show evK x τ (cSt2 n agg (AOpd.eval τ a) S k) = _
   rw [evK_eq, cSt2_eq]; rfl
 case nilCheck x =>
   rw [doOp_val rfl]
   show evK x τ (cNil S k) = _
   rw [evK_eq, cNil_eq]; rfl
 case bin d op x y =>
   rw [doOp_val rfl]
   show evK x τ (cBin1 d op y τ S k) = _
   rw [evK_eq]
   show evK y τ (cBin2 d op S k (AOpd.eval τ x)) = _
   rw [evK_eq]
   exact fbin_eq ..
 case convInt kk x =>
   rw [doOp_val rfl]
   show evK x τ (cConv kk S k) = _
   rw [evK_eq, cConv_eq]; rfl
 case fieldAddr off x =>
   rw [doOp_val rfl]
   show evK x τ (cFld off S k) = _
   rw [evK_eq, cFld_eq]; rfl
 case field off n agg x =>
   rw [doOp_val rfl]
   show evK x τ (cField off n agg S k) = _
   rw [evK_eq, cField_eq]; rfl
 case indexAddr s arr x i =>
   rw [doOp_val rfl]
   show evK x τ (cIx1 s arr i τ S k) = _
   rw [evK_eq]
   show evK i τ (cIx2 s arr (AOpd.eval τ x) S k) = _
   rw [evK_eq, cIx2_eq]; rfl
 case indexStr x i =>
   rw [doOp_val rfl]
   show evK x τ (cIs1 i τ S k) = _
   rw [evK_eq]
   show evK i τ (cIs2 (AOpd.eval τ x) S k) = _
   rw [evK_eq, cIs2_eq]; rfl
 case extract x i =>
   rw [doOp_val rfl]
   show evK x τ (cExt i S k) = _
   rw [evK_eq, cExt_eq]; rfl
 case len d x =>
   rw [doOp_val rfl]
   show evK x τ (cLen d S k) = _
   rw [evK_eq, cLen_eq]; rfl
 case call g as =>
   rw [doOp_call]
   show evK g τ (cCall1 as call τ S k) = _
   rw [evK_eq]
   show evsK as τ (cCall2 call S k (AOpd.eval τ g)) = _
   rw [evsK_eq]; rfl
theorem fops_eq (call : AVal → LA → AState → KV Unit → OU) : ∀ (l : List AOper) (τ : T AVal) (S : AState) (K : T AVal → AState → OU), fops l call τ S K = runOps call l τ S K
 | [], _, _, _ => rfl
 | ⟨dst, op, guard, un, rc⟩ :: l, τ, S, K => by
   have hset : ∀ v S, cOp dst (fops l) call K τ v S = tset τ dst v fun τ => runOps call l τ S K := by
     intro v S
     rw [tset_eq]
     cases dst with
     | none => exact fops_eq call l τ S K
     | some d =>
       show fsetA 40 v τ d (cSet (fops l) call S K) = _
       rw [fsetA_eq]
       exact fops_eq call l _ S K
   have hk : cOp dst (fops l) call K τ = fun v S => tset τ dst v fun τ => runOps call l τ S K := by funext v S; exact hset v S
   rw [runOps_cons]
   cases guard with
   | none =>
     show fop op call τ S (cOp dst (fops l) call K τ) = _
     rw [fop_eq, hk]; rfl
   | some g =>
     show Bool.rec (motive := fun _ => Option Nat → AOp → ((AVal → LA → AState → KV Unit → OU) → T AVal → AState → (T AVal → AState → OU) → OU) → (AVal → LA → AState → KV Unit → OU) → T AVal → AState → (T AVal → AState → OU) → OU)
       _ _ (guardA τ (some g)) dst op (fops l) call τ S K = _
     cases guardA τ (some g) with
     | true =>
       show fop op call τ S (cOp dst (fops l) call K τ) = _
       rw [fop_eq, hk]
     | false => exact hset undefA S
theorem effF_eq (op : AOp) : effF op = effB op := by cases op <;> rfl
theorem newF_eq (op : AOp) : newF op = newB op := by cases op <;> rfl
theorem fMerge_eq (fl : Nat) (K : List Nat → OU) : ∀ (W wl : List Nat), fMerge W fl wl K = mergeW W fl wl K
 | [], _ => rfl
 | b :: W, wl => by
   show Bool.rec (motive := fun _ => Nat → Nat → List Nat → (Nat → List Nat → (List Nat → OU) → OU) → (List Nat → OU) → OU) _ _ (Nat.ble (Nat.succ b) fl) b fl wl (fMerge W) K = addToK b fl wl (fun wl => mergeW W fl wl K)
   unfold addToK
   cases Nat.ble (Nat.succ b) fl with
   | false => exact fMerge_eq fl K W wl
   | true =>
     show Bool.rec (motive := fun _ => Nat → Nat → List Nat → (Nat → List Nat → (List Nat → OU) → OU) → (List Nat → OU) → OU) _ _ (memB b wl) b fl wl (fMerge W) K = _
     cases memB b wl with
     | true => exact fMerge_eq fl K W wl
     | false => exact fMerge_eq fl K W (b :: wl)
theorem newOf_const (op : AOp) (S S' : AState) (rd : List Nat) (x : OU) : newOf op S S' rd (fun _ => x) = match Nat.beq S.next S'.next with | true => x | false => match newB op with | true => x | false => none := rfl
abbrev DrawIH := Nat → T (List Nat) → (AVal → LA → AState → KV Unit → OU) → T AVal → AState → (T AVal → AState → OU) → OU
theorem fdraw_eq (call : AVal → LA → AState → KV Unit → OU) : ∀ (l : List AOper) (i : Nat) (recs : T (List Nat)) (τ : T AVal) (S : AState) (K : T AVal → AState → OU), fdraw l i recs call τ S K = runDraw call l i recs τ S K
 | [], _, _, _, _, _ => rfl
 | ⟨dst, op, guard, un, rc⟩ :: l, i, recs, τ, S, K => by
   have hgo : ∀ (recs : T (List Nat)) v S, cD dst (fdraw l) i recs call K τ v S = tset τ dst v fun τ => runDraw call l (Nat.succ i) recs τ S K := by
     intro recs v S
     rw [tset_eq]
     cases dst with
     | none => exact fdraw_eq call l (Nat.succ i) recs τ S K
     | some d =>
       show fsetA 40 v τ d (cDSet (fdraw l) i recs call S K) = _
       rw [fsetA_eq]
       exact fdraw_eq call l (Nat.succ i) recs _ S K
   have hkeep : ∀ (X : List Nat) v S, keepX rc X recs i (cDKeep dst (fdraw l) i call K τ v S) = tset τ dst v fun τ => keepX rc X recs i fun recs => forceN (Nat.succ i) fun i => runDraw call l i recs τ S K := by
     intro X v S
     rw [keepX_eq]
     show cD dst (fdraw l) i _ call K τ v S = _
     rw [hgo, tset_eq, tset_eq, keepX_eq, forceN_eq]
   have hX : cDX dst un rc (fdraw l) i recs call K τ = fun v S X => match checkUn recs X un with
       | true => tset τ dst v fun τ => keepX rc X recs i fun recs => forceN (Nat.succ i) fun i => runDraw call l i recs τ S K
       | false => none := by
     funext v S X
     show Bool.rec (motive := fun _ => Option Nat → Bool → DrawIH → Nat → T (List Nat) → (AVal → LA → AState → KV Unit → OU) → (T AVal → AState → OU) → T AVal → AVal → AState → List Nat → OU) _ _ (checkUn recs X un) dst rc (fdraw l) i recs call K τ v S X = _
     cases checkUn recs X un with
     | true => exact hkeep X v S
     | false => rfl
   have hslow : doDraw call τ op S (cDX dst un rc (fdraw l) i recs call K τ) = doDraw call τ op S fun v S X => match checkUn recs X un with
       | true => tset τ dst v fun τ => keepX rc X recs i fun recs => forceN (Nat.succ i) fun i => runDraw call l i recs τ S K
       | false => none := by rw [hX]
   have hop : fdop dst op un rc (fdraw l) i recs call τ S K = doDraw call τ op S fun v S X => match checkUn recs X un with
       | true => tset τ dst v fun τ => keepX rc X recs i fun recs => forceN (Nat.succ i) fun i => runDraw call l i recs τ S K
       | false => none := by
     show Bool.rec (motive := fun _ => Option Nat → AOp → List Nat → Bool → DrawIH → Nat → T (List Nat) → (AVal → LA → AState → KV Unit → OU) → T AVal → AState → (T AVal → AState → OU) → OU) _ _ (effF op) dst op un rc (fdraw l) i recs call τ S K = _
     rw [effF_eq]
     cases he : effB op with
     | false =>
       cases un with
       | cons u un => exact hslow
       | nil =>
         cases rc with
         | true => exact hslow
         | false =>
           show fop op call τ S (cDN op S.next dst (fdraw l) i recs call K τ) = _
           have hN : cDN op S.next dst (fdraw l) i recs call K τ = fun v S' => newOf op S S' [] fun _ => tset τ dst v fun τ => runDraw call l (Nat.succ i) recs τ S' K := by
             funext v S'
             rw [newOf_const]
             show Bool.rec (motive := fun _ => AOp → Option Nat → DrawIH → Nat → T (List Nat) → (AVal → LA → AState → KV Unit → OU) → (T AVal → AState → OU) → T AVal → AVal → AState → OU) _ _ (Nat.beq S.next S'.next) op dst (fdraw l) i recs call K τ v S' = _
             cases Nat.beq S.next S'.next with
             | true => exact hgo recs v S'
             | false =>
               show Bool.rec (motive := fun _ => Option Nat → DrawIH → Nat → T (List Nat) → (AVal → LA → AState → KV Unit → OU) → (T AVal → AState → OU) → T AVal → AVal → AState → OU) _ _ (newF op) dst (fdraw l) i recs call K τ v S' = _
               rw [newF_eq]
               cases newB op with
               | true => exact hgo recs v S'
               | false => rfl
           rw [fop_eq, hN]
           unfold doDraw
           rw [he]
           dsimp only
           have hall : ∀ (rd : List Nat), (fun (v : AVal) (S' : AState) => newOf op S S' rd fun X => match checkUn recs X [] with
               | true => tset τ dst v fun τ => keepX false X recs i fun recs => forceN (Nat.succ i) fun i => runDraw call l i recs τ S' K
               | false => none) = fun v S' => newOf op S S' [] fun _ => tset τ dst v fun τ => runDraw call l (Nat.succ i) recs τ S' K := by
             intro rd
             funext v S'
             rw [newOf_const]
             have hc : (fun X => match checkUn recs X [] with
               | true => tset τ dst v fun τ => keepX false X recs i fun recs => forceN (Nat.succ i) fun i => runDraw call l i recs τ S' K
               | false => none) = fun _ => tset τ dst v fun τ => runDraw call l (Nat.succ i) recs τ S' K := by
               funext X
               show (tset τ dst v fun τ => forceN (Nat.succ i) fun i => runDraw call l i recs τ S' K) = _
               congr 1
             rw [hc, newOf_const]
           cases readA (AOpd.eval τ) op with
           | none => dsimp only; rw [hall]
           | some b => dsimp only; rw [forceN_eq, hall]
     | true =>
       obtain ⟨h, n, fl, wl⟩ := S
       show fop op call τ ⟨h, n, n, []⟩ (cDE fl wl dst un rc (fdraw l) i recs call K τ) = _
       unfold doDraw
       rw [he, fop_eq]
       dsimp only
       have hE : cDE fl wl dst un rc (fdraw l) i recs call K τ = fun v S' => match S' with
         | ⟨h', n', _, W⟩ => mergeW W fl wl fun wl' => match checkUn recs W un with
           | true => tset τ dst v fun τ => keepX rc W recs i fun recs => forceN (Nat.succ i) fun i => runDraw call l i recs τ ⟨h', n', fl, wl'⟩ K
           | false => none := by
         funext v S'
         obtain ⟨h', n', fl', W⟩ := S'
         show fMerge W fl wl (cDE2 dst un rc (fdraw l) i recs call K τ v h' n' fl W) = _
         rw [fMerge_eq]
         have : cDE2 dst un rc (fdraw l) i recs call K τ v h' n' fl W = fun wl' => match checkUn recs W un with
           | true => tset τ dst v fun τ => keepX rc W recs i fun recs => forceN (Nat.succ i) fun i => runDraw call l i recs τ ⟨h', n', fl, wl'⟩ K
           | false => none := by
           funext wl'
           show cDX dst un rc (fdraw l) i recs call K τ v ⟨h', n', fl, wl'⟩ W = _
           rw [hX]
         rw [this]
       rw [hE]
   rw [runDraw_cons]
   cases guard with
   | none => exact hop
   | some g =>
     show Bool.rec (motive := fun _ => Option Nat → AOp → List Nat → Bool → DrawIH → Nat → T (List Nat) → (AVal → LA → AState → KV Unit → OU) → T AVal → AState → (T AVal → AState → OU) → OU) _ _ (guardA τ (some g)) dst op un rc (fdraw l) i recs call τ S K = _
     cases guardA τ (some g) with
     | true => exact hop
     | false => exact hkeep [] undefA S
theorem fputK_eq : ∀ (l : LA) (t : T AVal) (i : Nat) (K : T AVal → OU), fputK l t i K = K (putCells t i l)
 | [], t, i, K => rfl
 | v :: l, t, i, K => by
   show fsetA 40 v t i (cPut (fputK l) i K) = _
   rw [fsetA_eq]
   show fputK l (T.put v 40 t i) (Nat.succ i) K = _
   rw [fputK_eq l, putCells_cons]
theorem fresL_eq (τ : T AVal) (S : AState) : ∀ (l : List ARes) (K : LA → OU), fresL l τ S K = resL τ S l K
 | [], K => rfl
 | x :: l, K => by
   show _ = resA τ S x fun v => resL τ S l fun l => K (v :: l)
   have hk : cRes (fresL l) τ S K = fun v => resL τ S l fun l => K (v :: l) := by
     funext v
     show fresL l τ S (cCons v K) = _
     rw [fresL_eq τ S l]; rfl
   cases x with
   | tmp t =>
     show fgetK τ t (cRes (fresL l) τ S K) = forceV (tget τ t) _
     rw [fgetK_eq, hk, forceV_eq]
   | cell t n agg =>
     show fgetK τ t (cLoad1 n agg S (fun v S => cRes (fresL l) τ S K v)) = match loadA S.heap.get n agg (tget τ t) with | some (.val v) => forceV v fun v => resL τ S l fun l => K (v :: l) | _ => none
     rw [fgetK_eq, cLoad1_eq]
     have hl : ∀ b v, loadA S.heap.get n agg (tget τ t) ≠ some (.new b v) := by
       intro b v h
       unfold loadA at h
       split at h
       · revert h
         cases S.heap.get _ with
         | none => intro h; cases h
         | some blk =>
           intro h
           have h : loadB n agg _ blk = some (.new b v) := h
           unfold loadB at h
           repeat' split at h
           all_goals cases h
       · cases h
     cases hr : loadA S.heap.get n agg (tget τ t) with
     | none => rfl
     | some sr =>
       cases sr with
       | val v =>
         rw [fres_val]
         show cRes (fresL l) τ S K v = forceV v fun v => resL τ S l fun l => K (v :: l)
         rw [forceV_eq, hk]
       | new b v => exact absurd hr (hl b v)
theorem cRets_eq (τ : T AVal) (results : List ARes) (k : KV Unit) (S : AState) : cRets τ results k S = resultsA τ S results fun v => k v S := by
 show fresL results τ S (cOne S k) = _
 rw [fresL_eq]
 unfold resultsA
 congr 1
 funext vs
 cases vs with
 | nil => rfl
 | cons v vs => cases vs <;> rfl
theorem cEnd_eq (results : List ARes) (k : KV Unit) : cEnd results k = fun x τ ds S => match x with
   | .exit _ => none
   | _ => unwA ds S fun S => resultsA τ S results fun v => k v S := by
 funext x τ ds S
 have hR : cRets τ results k = fun S => resultsA τ S results fun v => k v S := by funext S; exact cRets_eq τ results k S
 have key : (List.rec (motive := fun _ => List ARes → KV Unit → T AVal → List Nat → AState → OU) (fun results k τ ds S => cRets τ results k S) (fun _ _ _ results k τ ds S => unwA ds S (cRets τ results k)) ds results k τ ds S : OU) = unwA ds S fun S => resultsA τ S results fun v => k v S := by
   cases ds with
   | nil => exact cRets_eq ..
   | cons d ds => show unwA (d :: ds) S (cRets τ results k) = _; rw [hR]
 cases x with
 | normal => exact key
 | ret => exact key
 | exit id => rfl
theorem fcallB_eq (ih : Exec Unit) (fn : AFunc) (args : LA) (S : AState) (k : KV Unit) : fcallB ih fn args S k = callB ih fn args S k := by
 obtain ⟨ntmps, results, body⟩ := fn
 unfold callB
 show Bool.rec (motive := fun _ => List ARes → ACode → Nat → Exec Unit → LA → AState → KV Unit → OU) _ _ (Nat.ble args.length ntmps) results body ntmps ih args S k = _
 dsimp only
 cases Nat.ble args.length ntmps with
 | false => rfl
 | true =>
   show Bool.rec (motive := fun _ => List ARes → ACode → Nat → Exec Unit → LA → AState → KV Unit → OU) _ _ (small ntmps) results body ntmps ih args S k = _
   cases small ntmps with
   | false => rfl
   | true =>
     show fputK args .leaf 0 (cGo ih ntmps body S (cEnd results k)) = _
     rw [fputK_eq]
     dsimp only
     rw [forceT_eq]
     show ih none ntmps body _ [] S (cEnd results k) = _
     rw [cEnd_eq]
     congr 1
theorem fcallF_eq (C : Cfg Unit) (ih : Exec Unit) (f : Nat) (args : LA) (S : AState) (k : KV Unit) : fcallF C ih f args S k = callF C ih f args S k := by
 unfold callF fcallF
 cases C.orc.get f with
 | some o => rfl
 | none =>
   dsimp only
   cases C.fns.get f with
   | none => rfl
   | some fn => exact fcallB_eq ..
theorem fcallV_eq (C : Cfg Unit) (ih : Exec Unit) (g : AVal) (args : LA) (S : AState) (k : KV Unit) : fcallV C ih g args S k = callV C ih g args S k := by
 cases g <;> first | rfl | skip
 rename_i f a b
 cases f <;> first | rfl | skip
 · exact fcallF_eq ..
 · cases a <;> rfl
theorem fstep_eq (C : Cfg Unit) (ih : Exec Unit) : fstep C ih = execStep C ih := by
 have hcall : fcallV C ih = callV C ih := by funext g args S k; exact fcallV_eq C ih g args S k
 funext ro size c τ ds S K
 cases c <;> first | rfl | skip
 case region bound ops draw =>
   show Bool.rec (motive := fun _ => List AOper → Bool → Cfg Unit → Exec Unit → T AVal → List Nat → AState → KX Unit → OU) _ _ (Nat.ble bound size) ops draw C ih τ ds S K = match Nat.ble bound size with
     | true => match draw with
       | true => runDraw (callV C ih) ops 0 .leaf τ S fun τ S => K .normal τ ds S
       | false => runOps (callV C ih) ops τ S fun τ S => K .normal τ ds S
     | false => none
   cases Nat.ble bound size with
   | false => rfl
   | true =>
     cases draw with
     | true =>
       show fdraw ops 0 .leaf (fcallV C ih) τ S (cReg ds K) = _
       rw [fdraw_eq, hcall]; rfl
     | false =>
       show fops ops (fcallV C ih) τ S (cReg ds K) = _
       rw [fops_eq, hcall]; rfl
 case seq a b =>
   show ih ro size a τ ds S (cSeq ih ro size b K) = ih ro size a τ ds S fun x τ ds S => match x with
     | .normal => ih ro size b τ ds S K
     | x => K x τ ds S
   congr 1
   funext x τ ds S
   cases x <;> rfl
 case cond c a b =>
   show evK c τ (cCond ih ro size a b τ ds S K) = match AOpd.eval τ c with
     | .bool true => ih ro size a τ ds S K
     | .bool false => ih ro size b τ ds S K
     | _ => none
   rw [evK_eq]
   cases AOpd.eval τ c <;> first | rfl | skip
   rename_i t
   cases t <;> rfl
 case block id c =>
   show ih ro size c τ ds S (cBlk id K) = ih ro size c τ ds S fun x τ ds S => match x with
     | .exit id' => match Nat.beq id id' with
       | true => K .normal τ ds S
       | false => K (.exit id') τ ds S
     | x => K x τ ds S
   congr 1
   funext x τ ds S
   cases x <;> first | rfl | skip
   rename_i id'
   show Bool.rec (motive := fun _ => Nat → KX Unit → T AVal → List Nat → AState → OU) _ _ (Nat.beq id id') id' K τ ds S = _
   dsimp only
   cases Nat.beq id id' <;> rfl
 case loop c =>
   show ih ro size c τ ds S (cSeq ih ro size (.loop c) K) = ih ro size c τ ds S fun x τ ds S => match x with
     | .normal => ih ro size (.loop c) τ ds S K
     | x => K x τ ds S
   congr 1
   funext x τ ds S
   cases x <;> rfl
theorem fexec_eq (C : Cfg Unit) : ∀ n, fexec C n = exec C n
 | 0 => rfl
 | n + 1 => by
   show fstep C (fexec C n) = execStep C (exec C n)
   rw [fexec_eq C n, fstep_eq]
theorem frun_eq (C : Cfg Unit) (n : Nat) (fn : AFunc) (args : LA) (S : AState) (k : KV Unit) : fcallB (fexec C n) fn args S k = callB (exec C n) fn args S k := by
 rw [fexec_eq, fcallB_eq]
end Abs
end Go.Proofs.YtfkchheildfkpaaGreatDoor.Refl
namespace Go.Proofs.YtfkchheildfkpaaGreatDoor.Refl
open Go Go.RowKit
namespace Abs
set_option linter.unusedVariables false
set_option linter.unusedSimpArgs false
theorem callF_calls {E : Env} {R : Type} {C : Cfg R} (hC : CfgOk E R C) (n : Nat) {g : Nat} (hno : C.orc.get g = none) {args : List AVal} {S : AState} {K : KV R} {r : R} (h : callF C (exec C n) g args S K = some r) (hok : AOk E S) :
   ∃ v S', K v S' = some r ∧ AStep E S S' ∧ ∀ (M : Nat) (f : Inj) (w : World) (us : Array Value), Sim E M f S.v w → S'.next ≤ M → VRels f args us.toList → Calls E.P g us w fun e w' => ∃ v', e = .returned v' ∧ OpPost E M f S.v w v S'.v v' w' := by
 unfold callF at h
 rw [hno] at h
 dsimp only at h
 split at h
 case h_2 => cases h
 rename_i fn hfn
 obtain ⟨F, code, hF⟩ := hC.fns g fn hfn
 obtain ⟨v, S', hK, hst, hgo⟩ := callB_leaves hC (exec_ok hC n) hF h hok
 refine ⟨v, S', hK, hst, fun M f w us hs hM hus cs => ?_⟩
 obtain ⟨v', w', fr, hp, hsteps, hfn', hl⟩ := hgo M f w us hs hM hus cs
 exact ⟨.returned v', w', fr, ⟨v', rfl, hp⟩, hsteps, hfn', hl⟩
theorem Step.aside {E : Env} {M : Nat} {f f' : Inj} {S S' : VSt} {w w' : World} (h : Step E M f S w f' S' w') {B : Nat} (hB : B < w.heap.size) (hf : ∀ b N, f b ≠ some (B, N)) : w'.heap[B]? = w.heap[B]? :=
 h.frame B hB fun b N hb => absurd hb (hf b N)
theorem Step.aside' {E : Env} {M : Nat} {f f' : Inj} {S S' : VSt} {w w' : World} (h : Step E M f S w f' S' w') {B : Nat} (hB : B < w.heap.size) (hf : ∀ b N, f b ≠ some (B, N)) : ∀ b N, f' b ≠ some (B, N) := by
 intro b N hb
 cases hfb : f b with
 | some p =>
   have := h.le b p hfb
   rw [hb] at this
   cases this
   exact hf b N hfb
 | none =>
   obtain ⟨_, _, h3⟩ := h.new b B N hb hfb
   rcases h3 with h3 | ⟨c, K, h3, _⟩
   · omega
   · exact hf c K h3
theorem pure_calls {E : Env} {R : Type} {C : Cfg R} (hC : CfgOk E R C) (n : Nat) {g : Nat} (hno : C.orc.get g = none) {args : List AVal} {K : KV R} {r : R} (hG : E.G ≤ E.W.heap.size) (h : callF C (exec C n) g args (startA .leaf E.G) K = some r) :
   ∃ v S', K v S' = some r ∧ ∀ us : Array Value, VRels (startF E.G fun _ => 0) args us.toList → Calls E.P g us E.W fun e W' => ∃ v' f', e = .returned v' ∧ VRel f' v v' ∧ Below E.W.heap.size E.W W' := by
 have hl : ∀ b blk, (T.leaf : T ABlock).get b = some blk → False := fun b blk h => by rw [T.get_leaf] at h; cases h
 obtain ⟨v, S', hK, hst, hgo⟩ := callF_calls hC n hno h (start_ok fun b blk hb => (hl b blk hb).elim)
 refine ⟨v, S', hK, fun us hus => (hgo S'.next _ E.W us (start_sim hG (fun b blk hb => (hl b blk hb).elim) _) (Nat.le_refl _) hus).mono ?_⟩
 rintro e W' ⟨v', rfl, f', hstep, hr⟩
 exact ⟨v', f', rfl, hr, hstep.sim.below⟩
theorem Sim.big_enough {E : Env} {M : Nat} {f : Inj} {S : VSt} {w : World} (h : Sim E M f S w) : E.G ≤ w.heap.size := by
 cases hG : E.G with
 | zero => exact Nat.zero_le _
 | succ g =>
   obtain ⟨N, hN⟩ := h.glob g (by omega)
   exact h.lt g g N hN
end Abs
end Go.Proofs.YtfkchheildfkpaaGreatDoor.Refl
