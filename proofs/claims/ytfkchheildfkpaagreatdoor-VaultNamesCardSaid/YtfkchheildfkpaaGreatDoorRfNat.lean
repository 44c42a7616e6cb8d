/-
 Oracles of the interpreter: the library's functions that are not run by it: a Builder's check, a map's clone; and what makes an oracle out of a contract over texts. An oracle of the interpreter: slices.Sorted over what maps.Keys hands back. An oracle of the interpreter: strings.Join with nothing between the parts. The first state with a variable in it that holds texts: quorum.names. An oracle of the interpreter: walk.caught, where what it does throws nothing. An oracle of the interpreter: where a byte stands in a text. An oracle of the interpreter: code.found, whose last loop goes over a map in whatever order.
-/
import Derived.Test.YtfkchheildfkpaaGreatDoorRfD
import Derived.Test.YtfkchheildfkpaaGreatDoorProg
import Derived.WalkKit
import Derived.Lib.Builder
import Derived.Lib.FrozenHead2
import Derived.Laws.Externs
import Derived.Sort.KeysCollected
import Derived.Sort.Walk0
import Derived.Laws.AppendOwn
import Derived.Lib.Join
import Derived.Test.YtfkchheildfkpaaGreatDoorShelf
import Derived.Lib.LaidTab
import Derived.Stop.LaidErr
import Derived.Tactics
import Derived.Tactics2
import Derived.Defers
import Derived.Recover
import Derived.Laws.Pointers
import Derived.Lib.Bytealg
import Derived.Laws.IdiomRangeMap
import Derived.Maps.RangeRun
import Derived.Lib.Hide
import Derived.Lib.OthersKept
namespace Go.Proofs.YtfkchheildfkpaaGreatDoor.Refl
open Go Go.RowKit
namespace Abs
set_option linter.unusedVariables false
set_option linter.unusedSimpArgs false
theorem func_below {E : Env} {R : Type} {g : Nat} {o : List AVal → AState → KV R → Option R} {val : List AVal → Option AVal} (ho : ∀ args S K r, o args S K = some r → ∃ v, val args = some v ∧ K v S = some r)
   (h : ∀ (args : List AVal) (v : AVal), val args = some v → ∀ (f : Inj) (w : World) (us : Array Value), VRels f args us.toList → Goes E.P ((callFunc g us).run E.P w) fun v' w' => Below w.heap.size w w' ∧ VRel f v v') : FuncOk E R g o := by
 intro args S K r hr hok
 obtain ⟨v, hv, hK⟩ := ho args S K r hr
 exact ⟨v, S, hK, .refl _, fun M f w us hs hM hus => (h args v hv f w us hus).mono fun v' w' ⟨hb, hr⟩ => ⟨f, Step.below hs hb, hr⟩⟩
/-! texts of texts -/
def bytesN (n x : Nat) : List UInt8 := (List.range n).map fun i => UInt8.ofNat (byteAt n x i)
theorem bytesN_eq {n x : Nat} {s : ByteArray} (h : StrRel n x s) : bytesN n x = s.data.toList := by
 refine List.ext_getElem? fun i => ?_
 unfold bytesN
 rw [List.getElem?_map]
 by_cases hi : i < n
 · obtain ⟨b, hb, he⟩ := byteAt_rel h hi
   rw [hb, List.getElem?_range hi]
   simp [he]
 · rw [List.getElem?_eq_none (by simp; omega), List.getElem?_eq_none (by rw [h.1]; omega)]; rfl
noncomputable def textO (F : Nat → Nat → Nat) (m : Nat → Nat) (args : List AVal) (S : AState) (K : KV Unit) : Option Unit := match args with
 | [.str n x] => match Nat.ble n 70368744177664 with
   | true => fN (m n) fun l => fN (F n x) fun y => K (.str l y) S
   | false => none
 | _ => none
theorem textO_ok {E : Env} {g : Nat} {Fn : Func} {code : Code} (hf : E.P.funcs[g]? = some Fn) (hn : (Fn.name == "runtime.NumGoroutine") = false) (hb : Fn.body = some code) {F : Nat → Nat → Nat} {m : Nat → Nat} {L : List UInt8 → List UInt8}
   (hF : ∀ n x, F n x = packL (L (bytesN n x))) (hm : ∀ l, (L l).length = m l.length)
   (hc : ∀ (s : ByteArray), s.size ≤ 70368744177664 → ∀ w : World, Calls E.P g #[.string s] w fun e w' => e = .returned (.string ⟨(L s.data.toList).toArray⟩) ∧ Below w.heap.size w w') : FuncOk E Unit g (textO F m) := by
 refine func_below (val := fun args => match args with
   | [.str n x] => match Nat.ble n 70368744177664 with | true => some (.str (m n) (F n x)) | false => none
   | _ => none) ?_ ?_
 · intro args S K r h
   unfold textO at h
   split at h
   · split at h
     · rename_i hle
       rw [fN_eq, fN_eq] at h
       refine ⟨.str (m _) (F _ _), ?_, h⟩
       simp only [hle]
     · cases h
   · cases h
 · intro args v hv f w us hus
   split at hv
   case h_2 => cases hv
   rename_i n x
   split at hv <;> cases hv
   rename_i hle
   rw [Nat.ble_eq] at hle
   obtain ⟨u, us', hus', ⟨s, rfl, hs⟩, hnil⟩ := hus
   cases hnil
   have hsz : s.size ≤ 70368744177664 := by
     have h1 : s.data.toList.length = n := hs.1
     have h2 : s.size = n := by rw [← h1]; simp
     omega
   have hus2 : us = #[.string s] := by
     have := congrArg List.toArray hus'
     simpa using this
   subst hus2
   refine goes_of_calls hf hn hb ((hc s hsz w).mono fun e w' ⟨he, hbl⟩ => ⟨_, he, hbl, _, rfl, ?_, ?_⟩)
   · show (L s.data.toList).length = m n
     rw [hm, hs.1]
   · show packL (L s.data.toList) = F n x
     rw [hF, bytesN_eq hs]
/-! a Builder's check -/
section
theorem lies_any (c : Nat) (hc : 1 ≤ c) : liesAt Tryz.prog Tryz.prog.depth 149 c 0 149 1 = true := by
 have hb : Nat.ble 1 Tryz.prog.depth = true := by kernel_rfl
 rw [Nat.ble_eq] at hb
 obtain ⟨d, hd⟩ : ∃ d, Tryz.prog.depth = d + 1 := ⟨Tryz.prog.depth - 1, by omega⟩
 have h2 : Tryz.prog.cellsOf 149 = 2 := by kernel_rfl
 have hl : sameLayout Tryz.prog Tryz.prog.depth 149 149 = true := by kernel_rfl
 rw [hd] at hl ⊢
 unfold liesAt
 rw [hd, Bool.or_eq_true]
 left
 unfold rowAt
 rw [h2]
 simp [hl]
 left
 omega
set_option maxRecDepth 100000 in
set_option maxHeartbeats 1000000 in
theorem check_new (B : Nat) (cs : Array Value) (lo hi : Nat) (w : World) (h : w.heap[B]? = some (.cells cs 149 (lo, hi))) (h0 : cs[0]? = some (.pointer none)) (h2 : 2 ≤ cs.size) (hfz : lo = hi ∨ cs.size ≤ lo) :
   Calls Tryz.prog 131 #[.pointer (some ⟨B, 0, none⟩)] w fun e w' => e = .returned (.tuple #[]) ∧ w' = w.setCell ⟨B, 0, none⟩ (.pointer (some ⟨B, 0, none⟩)) := by
 obtain ⟨j, hj, hjs⟩ : ∃ j, Tryz.prog.info? 149 = some j ∧ j.size = 2 := by
   have : (Tryz.prog.info? 149).map (·.size) = some 2 := by kernel_rfl
   obtain ⟨j, h1, h2⟩ := Option.map_eq_some_iff.1 this
   exact ⟨j, h1, h2⟩
 have h0 := cell_at (w := w) h h0
 have hf : w.frozen? ⟨B, 0, none⟩ = false := by
   simp only [World.frozen?, h]
   rw [← Bool.not_eq_true, Bool.and_eq_true, decide_eq_true_eq, decide_eq_true_eq]
   omega
 have hshape : w.shape? B = some (149, cs.size) := by simp [World.shape?, h, Obj.row?]
 go_enter Tryz.func131, Tryz.ntmps131
 go_wp2
 rw [Lib.run_to_unsafe w ⟨B, 0, none⟩ Tryz.underlying147 Tryz.underlying303 hj (by rw [hjs]; decide) hshape (by show 0 < cs.size; omega)]
 simp only [Result.andThen]
 rw [Oper.upon_value]
 go_wp2
 rw [run_callFunc_extern Tryz.func198 (by kernel_rfl) (by kernel_rfl) (by kernel_rfl) (e := Extern.AbiNoEscape.same) (by kernel_rfl), Lib.run_noEscape]
 simp only [Result.andThen]
 rw [Oper.upon_value]
 go_wp2
 rw [Lib.run_from_unsafe w ⟨B, 0, none⟩ Tryz.underlying303 Tryz.underlying147 hj hshape (lies_any _ (by rw [show Tryz.prog.cellsOf 149 = 2 by kernel_rfl]; omega))]
 simp only [Result.andThen]
 rw [Oper.upon_value]
 go_wp2
 go_end0
 exact ⟨rfl, rfl⟩
set_option maxRecDepth 100000 in
set_option maxHeartbeats 1000000 in
theorem check_old (B : Nat) (w : World) (h0 : w.cell? ⟨B, 0, none⟩ = some (.pointer (some ⟨B, 0, none⟩))) :
   Calls Tryz.prog 131 #[.pointer (some ⟨B, 0, none⟩)] w fun e w' => e = .returned (.tuple #[]) ∧ w' = w := by
 obtain ⟨j, hj, hjs⟩ : ∃ j, Tryz.prog.info? 149 = some j ∧ j.size = 2 := by
   have : (Tryz.prog.info? 149).map (·.size) = some 2 := by kernel_rfl
   obtain ⟨j, h1, h2⟩ := Option.map_eq_some_iff.1 this
   exact ⟨j, h1, h2⟩
 go_enter Tryz.func131, Tryz.ntmps131
 go_wp2
 rw [Lib.run_neq_ptr_same w _ Tryz.underlying147 hj]
 go_wp2
 go_end0
 exact ⟨rfl, rfl⟩
noncomputable def checkO (TB : Nat) (args : List AVal) (S : AState) (K : KV Unit) : Option Unit := match args with
 | [.ptr b o] => match S.heap.get b with
   | some (.cells c d n wr e) => match and (and wr (and (Nat.beq o 0) (Nat.beq e TB))) (and (Nat.ble 2 n) (and (small S.next) (small n))) with
     | true => match getCell c d 0 with
       | .ptr0 => fsetA 40 (.ptr b 0) c 0 fun c => writeS S b (.cells c d n true e) (K (.tup []))
       | .ptr b' o' => match and (Nat.beq b b') (Nat.beq o' 0) with
         | true => K (.tup []) S
         | false => none
       | _ => none
     | false => none
   | _ => none
 | _ => none
theorem check_ok {W : World} {G : Nat} : FuncOk ⟨Tryz.prog, compC Tryz.prog G, G, W⟩ Unit 131 (checkO 149) := by
 intro args S K r h hok
 unfold checkO at h
 split at h
 case h_2 => cases h
 rename_i b o
 split at h
 case h_2 => cases h
 rename_i c d n wr e hg
 split at h
 case h_2 => cases h
 rename_i hc
 simp only [Bool.and_eq_true, Nat.beq_eq, Nat.ble_eq] at hc
 obtain ⟨⟨rfl, rfl, rfl⟩, h2, hsm, hsmn⟩ := hc
 have hsm := small_lt hsm
 have hsmn := small_lt hsmn
 have goes : ∀ {us : Array Value} {w : World} {Q : Value → World → Prop} {R : World → Prop}, Calls Tryz.prog 131 us w (fun e w' => e = .returned (.tuple #[]) ∧ R w') → (∀ w', R w' → Q (.tuple #[]) w') → Goes Tryz.prog ((callFunc 131 us).run Tryz.prog w) Q := by
   intro us w Q R hcall hq
   exact goes_of_calls Tryz.func131 (by kernel_rfl) rfl (hcall.mono fun e w' ⟨he, hr⟩ => ⟨_, he, hq w' hr⟩)
 split at h
 · -- not used yet
   rename_i h0
   rw [fsetA_eq, writeS_eq] at h
   refine ⟨_, _, h, AStep.write hg trivial, fun M f w us hs hM hus => ?_⟩
   obtain ⟨u, us', hus', ⟨B, N, hf, rfl⟩, hnil⟩ := hus
   cases hnil
   have hus2 : us = #[.pointer (some ⟨B, 0, none⟩)] := by
     have := congrArg List.toArray hus'
     simpa using this
   subst hus2
   obtain ⟨obj, hobj, cs, lo, hi, rfl, hsz, hn, hfz, hcell⟩ := hs.blk b _ hg B N hf
   have hfz := hfz rfl
   obtain ⟨v, hv, hr⟩ := hcell 0 (by omega)
   rw [h0] at hr
   have hr : v = .pointer none := hr
   subst hr
   refine goes (check_new B cs lo hi w hobj hv (by omega) (by omega)) ?_
   rintro w' rfl
   rw [setCell_at hobj]
   refine ⟨f, Step.write hs hsm hM hg rfl rfl hf rfl rfl rfl rfl ⟨_, lo, hi, rfl, by simpa using hsz, hn, fun _ => hfz, fun i hi2 => ?_⟩, ⟨#[], rfl, rfl⟩⟩
   by_cases hi0 : i = 0
   · subst hi0
     refine ⟨.pointer (some ⟨B, 0, none⟩), ?_, ?_⟩
     · rw [Array.getElem?_setIfInBounds_self, if_pos (by omega)]
     · rw [getCell_eq, T.get_put_same _ _ _ _ (by omega)]
       exact ⟨B, N, hf, rfl⟩
   · obtain ⟨v, hv, hr⟩ := hcell i hi2
     refine ⟨v, ?_, ?_⟩
     · rw [Array.getElem?_setIfInBounds_ne (Ne.symm hi0)]; exact hv
     · rw [getCell_eq, T.get_put_other _ _ _ _ _ (Ne.symm hi0), ← getCell_eq]; exact hr
 · -- used
   rename_i b' o' h0
   split at h
   case h_2 => cases h
   rename_i hb
   simp only [Bool.and_eq_true, Nat.beq_eq] at hb
   obtain ⟨rfl, rfl⟩ := hb
   refine ⟨_, _, h, .refl _, fun M f w us hs hM hus => ?_⟩
   obtain ⟨u, us', hus', ⟨B, N, hf, rfl⟩, hnil⟩ := hus
   cases hnil
   have hus2 : us = #[.pointer (some ⟨B, 0, none⟩)] := by
     have := congrArg List.toArray hus'
     simpa using this
   subst hus2
   obtain ⟨obj, hobj, cs, lo, hi, rfl, hsz, hn, hfz, hcell⟩ := hs.blk b _ hg B N hf
   obtain ⟨v, hv, hr⟩ := hcell 0 (by omega)
   rw [h0] at hr
   obtain ⟨B', N', hf', rfl⟩ := hr
   rw [hf] at hf'
   cases hf'
   refine goes (check_old B w (cell_at hobj hv)) ?_
   rintro w' rfl
   exact ⟨f, .refl hs, ⟨#[], rfl, rfl⟩⟩
 · cases h
/-! a map's clone -/
set_option maxRecDepth 100000 in
set_option maxHeartbeats 1000000 in
theorem clone_any (B : Nat) (es : Array MapEntry) (cl : Nat) (w : World) (h : w.heap[B]? = some (.map es cl)) :
   Calls Tryz.prog 58 #[.map (some B)] w fun e w' => e = .returned (.map (some w.heap.size)) ∧ w' = w.alloc (.map es cl) := by
 go_enter Tryz.func58, Tryz.ntmps58
 have hb : (binOp .eql 99 (.map (some B)) (.map none)).run Tryz.prog w = .ok (.bool false) w := by
   have hd : ∀ d : Nat, (Op.equalIn (d + 1) 99 (.map (some B)) (.map none)).run Tryz.prog w = .ok false w := fun d => by
     simp [Op.equalIn, run_underlying Tryz.underlying99]
   simp only [binOp]
   simp [Op.equal, Op.maxDepth, hd 9999]
 go_wp2
 rw [run_callFunc_extern Tryz.func108 (by kernel_rfl) (by kernel_rfl) (by kernel_rfl) (e := Extern.MapsClone.clone) (by kernel_rfl)]
 have hcl : (Extern.MapsClone.clone #[.iface 99 (.map (some B))]).run Tryz.prog w = .ok (.iface 99 (.map (some w.heap.size))) (w.alloc (.map es cl)) := by
   obtain ⟨msg, he⟩ : ∃ msg, Extern.MapsClone.clone #[.iface 99 (.map (some B))] = (do
       let .map entries clock ← getObj B | stuck msg
       pure (Value.iface 99 (.map (some (← newObj (.map entries clock)))))) := ⟨_, rfl⟩
   rw [he]
   simp only [Sem.run_bind, getObj, Sem.run, h, Result.andThen_ok, run_newObj]
   rfl
 rw [hcl]
 simp only [Result.andThen]
 rw [Oper.upon_value]
 have hta : ∀ xT : TypeId, (Instr.typeAssert (.iface 99 (.map (some w.heap.size))) xT 99 false).run Tryz.prog (w.alloc (.map es cl)) = .ok (.map (some w.heap.size)) (w.alloc (.map es cl)) := fun xT => by
   simp [Instr.typeAssert, run_underlying Tryz.underlying99, go_sem, Result.andThen]
 go_wp2
 go_ret
 exact ⟨rfl, rfl⟩
noncomputable def cloneO (args : List AVal) (S : AState) (K : KV Unit) : Option Unit := match args with
 | [.map b] => match S.heap.get b with
   | some (.map es cl) => allocS S (.map es cl) fun b S => K (.map b) S
   | _ => none
 | _ => none
theorem clone_ok {W : World} {G : Nat} : FuncOk ⟨Tryz.prog, compC Tryz.prog G, G, W⟩ Unit 58 cloneO := by
 intro args S K r h hok
 unfold cloneO at h
 split at h
 case h_2 => cases h
 rename_i b
 split at h
 case h_2 => cases h
 rename_i es cl hg
 obtain ⟨hsm, h⟩ := allocS_eq h
 refine ⟨_, _, h, AStep.alloc _ trivial, fun M f w us hs hM hus => ?_⟩
 obtain ⟨u, us', hus', ⟨B, N, hf, rfl⟩, hnil⟩ := hus
 cases hnil
 have hus2 : us = #[.map (some B)] := by
   have := congrArg List.toArray hus'
   simpa using this
 subst hus2
 obtain ⟨obj, hobj, hb⟩ := hs.blk b _ hg B N hf
 obtain ⟨es', rfl, hes⟩ := hb
 refine goes_of_calls Tryz.func58 (by kernel_rfl) rfl ((clone_any B es' cl w hobj).mono fun e w' ⟨he, hw⟩ => ⟨_, he, ?_⟩)
 subst hw
 have hstep := Step.alloc hs hsm (by have : S.next + 1 ≤ M := hM; omega) (blk := .map es cl) (obj := .map es' cl) (N := 0) (w' := w.alloc (.map es' cl)) rfl rfl rfl rfl (fun g hg _ => ⟨es', rfl, hes.mono hg⟩)
 exact ⟨_, hstep, w.heap.size, 0, upd_same .., rfl⟩
end
end Abs
end Go.Proofs.YtfkchheildfkpaaGreatDoor.Refl
namespace Go.Proofs.YtfkchheildfkpaaGreatDoor.Refl
open Go Go.RowKit Go.Maps Go.Sort
open Go.WideElems (Fit rd rg pl rd_val elemAt)
namespace Abs
set_option linter.unusedVariables false
set_option linter.unusedSimpArgs false
theorem Step.gainV {E : Env} {M : Nat} {f : Inj} {S : VSt} {w : World} (h : Sim E M f S w) (hsm : S.next ≤ 1000000000) (hM : S.next < M) {blk : ABlock} {obj : Obj} {N g : Nat} {w' : World} (hbw : Below w.heap.size w w') (hg : w.heap.size ≤ g) (hobj : w'.heap[g]? = some obj)
   (hb : ∀ k : Inj, f.le k → BRel E.P E.comp k N blk obj) : Step E M f S w (upd f S.next (g, N)) ⟨setB S.get S.next blk, S.next + 1, S.floor, S.wl⟩ w' := by
 obtain ⟨hos, htape, hout, hsz, hold⟩ := hbw
 have hglt : g < w'.heap.size := (Array.getElem?_eq_some_iff.1 hobj).1
 have hf0 : f S.next = none := h.fresh _ (Nat.le_refl _) hM
 have hle := upd_le (g, N) hf0
 have hget : ∀ x, x ≠ S.next → setB S.get S.next blk x = S.get x := fun x hx => setB_other _ _ hx
 have hget0 : setB S.get S.next blk S.next = some blk := setB_same ..
 have hatle : ∀ x B K, upd f S.next (g, N) x = some (B, K) → x ≠ S.next → B < w.heap.size := by
   intro x B K hx hne
   rw [upd_other f _ hne] at hx
   exact h.lt x B K hx
 refine ⟨hle, ⟨?_, ?_, ?_, ?_, ?_, ?_, ?_, ?_, ?_, ?_, ?_, ?_, ?_⟩, hsz, fun B hB _ => hold B hB, Nat.le_succ _, rfl, fun _ h => h, ?_, ?_⟩
 · intro b b' B K K' h1 h2 l1 l2
   have l1' : b ≠ S.next → Live S b := fun hne blk' hb' => l1 blk' (by show setB S.get S.next blk b = _; rw [hget b hne]; exact hb')
   have l2' : b' ≠ S.next → Live S b' := fun hne blk' hb' => l2 blk' (by show setB S.get S.next blk b' = _; rw [hget b' hne]; exact hb')
   by_cases e1 : b = S.next <;> by_cases e2 : b' = S.next
   · rw [e1, e2]
   · exfalso
     subst e1
     rw [upd_same] at h1
     cases h1
     have := hatle b' _ _ h2 e2
     omega
   · exfalso
     subst e2
     rw [upd_same] at h2
     cases h2
     have := hatle b _ _ h1 e1
     omega
   · rw [upd_other f _ e1] at h1
     rw [upd_other f _ e2] at h2
     exact h.inj b b' B K K' h1 h2 (l1' e1) (l2' e2)
 · intro b h1 h2
   rw [upd_other f _ (by simp only at h1; omega)]
   exact h.fresh b (by simp only at h1; omega) h2
 · intro b B K hb'
   by_cases e : b = S.next
   · subst e; rw [upd_same] at hb'; cases hb'; omega
   · have := hatle b B K hb' e; omega
 · intro b blk' hg' B K hf
   by_cases e : b = S.next
   · subst e
     rw [upd_same] at hf
     cases hf
     have hg' : setB S.get S.next blk S.next = some blk' := hg'
     rw [hget0] at hg'
     cases hg'
     exact ⟨obj, hobj, hb _ hle⟩
   · have hg' : setB S.get S.next blk b = some blk' := hg'
     rw [hget b e] at hg'
     rw [upd_other f _ e] at hf
     obtain ⟨obj', ho, hr⟩ := h.blk b blk' hg' B K hf
     exact ⟨obj', by rw [hold B (h.lt b B K hf)]; exact ho, hr.mono hle⟩
 · intro x hx
   obtain ⟨K, hK⟩ := h.glob x hx
   exact ⟨K, hle _ _ hK⟩
 · intro b hb'
   show setB S.get S.next blk b = none
   rw [hget b (by simp only at hb'; omega)]
   exact h.none b (by simp only at hb'; omega)
 · intro b blk' B K hf hg' hro
   by_cases e : b = S.next
   · subst e
     rw [upd_same] at hf
     cases hf
     exact Nat.le_trans h.big hg
   · have hg' : setB S.get S.next blk b = some blk' := hg'
     rw [hget b e] at hg'
     rw [upd_other f _ e] at hf
     exact h.base b blk' B K hf hg' hro
 · intro k hk
   rw [hold k (Nat.lt_of_lt_of_le hk h.big)]
   exact h.keep k hk
 · exact Nat.le_trans h.big hsz
 · rw [hos]; exact h.os
 · rw [htape]; exact h.tape
 · rw [hout]; exact h.output
 · exact Nat.le_succ_of_le h.flo
 · intro b h1 h2
   show setB S.get S.next blk b = S.get b
   by_cases e : b = S.next
   · have := h.flo; omega
   · exact hget b e
 · intro b B K h1 h2
   by_cases e : b = S.next
   · subst e
     rw [upd_same] at h1
     cases h1
     exact ⟨Nat.le_refl _, Nat.lt_succ_self _, .inl hg⟩
   · rw [upd_other f _ e, h2] at h1; cases h1
theorem Step.gain {E : Env} {M : Nat} {f : Inj} {S : AState} {w : World} (h : Sim E M f S.v w) (hsm : S.next ≤ 1000000000) (hM : S.next < M) {blk : ABlock} {obj : Obj} {N g : Nat} {w' : World} (hbw : Below w.heap.size w w') (hg : w.heap.size ≤ g) (hobj : w'.heap[g]? = some obj)
   (hb : ∀ k : Inj, f.le k → BRel E.P E.comp k N blk obj) : Step E M f S.v w (upd f S.next (g, N)) (⟨T.put blk 40 S.heap S.next, S.next + 1, S.floor, S.wl⟩ : AState).v w' := by
 rw [v_alloc _ _ hsm]
 exact Step.gainV h hsm hM hbw hg hobj hb
/-! texts in order -/
def encT (b : List UInt8) : Nat × Nat := (b.length, packL b)
theorem encT_inj {a b : List UInt8} (h : encT a = encT b) : a = b := packL_inj (congrArg Prod.fst h) (congrArg Prod.snd h)
theorem strLt_enc (a b : List UInt8) : strLt a.length (packL a) b.length (packL b) = decide (a < b) := by
 rw [strLt_rel (s := ⟨a.toArray⟩) (t := ⟨b.toArray⟩) ⟨by simp, by simp⟩ ⟨by simp, by simp⟩]
 simp [bytesLess_eq]
noncomputable def insT (n x : Nat) : List (Nat × Nat) → List (Nat × Nat)
 | [] => [(n, x)]
 | c :: l => match strLt n x c.1 c.2 with
   | true => (n, x) :: c :: l
   | false => c :: insT n x l
noncomputable def memT (n x : Nat) : List (Nat × Nat) → Bool
 | [] => false
 | c :: l => or (and (Nat.beq n c.1) (Nat.beq x c.2)) (memT n x l)
def insB (b : List UInt8) : List (List UInt8) → List (List UInt8)
 | [] => [b]
 | c :: l => if b < c then b :: c :: l else c :: insB b l
theorem insT_enc (b : List UInt8) : ∀ l : List (List UInt8), insT b.length (packL b) (l.map encT) = (insB b l).map encT
 | [] => rfl
 | c :: l => by
   rw [List.map_cons, insT, insB]
   show (match strLt b.length (packL b) c.length (packL c) with | true => _ | false => _) = _
   rw [strLt_enc, insT_enc b l]
   by_cases h : b < c <;> simp [h] <;> rfl
theorem insB_perm (b : List UInt8) : ∀ l : List (List UInt8), (insB b l).Perm (b :: l)
 | [] => .refl _
 | c :: l => by
   rw [insB]
   split
   · exact .refl _
   · exact ((insB_perm b l).cons c).trans (.swap ..)
theorem insB_sorted (b : List UInt8) : ∀ l : List (List UInt8), l.Pairwise (· ≤ ·) → (insB b l).Pairwise (· ≤ ·)
 | [], _ => by simp [insB]
 | c :: l, h => by
   rw [List.pairwise_cons] at h
   rw [insB]
   split
   · rename_i hlt
     rw [List.pairwise_cons, List.pairwise_cons]
     refine ⟨fun x hx => ?_, h⟩
     cases hx with
     | head => exact List.le_of_lt hlt
     | tail _ hx => exact List.le_trans (List.le_of_lt hlt) (h.1 x hx)
   · rename_i hlt
     rw [List.pairwise_cons]
     refine ⟨fun x hx => ?_, insB_sorted b l h.2⟩
     rcases List.mem_cons.1 ((insB_perm b l).mem_iff.1 hx) with rfl | hx
     · exact List.not_lt.1 hlt
     · exact h.1 x hx
theorem memT_enc (b : List UInt8) : ∀ l : List (List UInt8), memT b.length (packL b) (l.map encT) = true ↔ b ∈ l
 | [] => by simp [memT]
 | c :: l => by
   rw [List.map_cons, memT, Bool.or_eq_true, memT_enc b l, List.mem_cons, Bool.and_eq_true, Nat.beq_eq, Nat.beq_eq]
   exact or_congr ⟨fun h => packL_inj h.1 h.2, fun h => by subst h; exact ⟨rfl, rfl⟩⟩ Iff.rfl
noncomputable def keysF (cl : Nat) : List (AVal × AVal × Nat) → List Nat → List (Nat × Nat) → Option (List (Nat × Nat))
 | [], _, acc => some acc
 | e :: es, seen, acc => match e.1 with
   | .str n x => match and (and (Nat.ble n 1000000) (Nat.ble (Nat.succ e.2.2) cl)) (and (!(memB e.2.2 seen)) (!(memT n x acc))) with
     | true => keysF cl es (e.2.2 :: seen) (insT n x acc)
     | false => none
   | _ => none
theorem keysF_ok {f : Inj} {cl : Nat} : ∀ (es : List (AVal × AVal × Nat)) (es' : List MapEntry) (seen : List Nat) (acc : List (List UInt8)) (out : List (Nat × Nat)), EntriesRel f es es' → keysF cl es seen (acc.map encT) = some out → acc.Pairwise (· ≤ ·) →
   ∃ bs : List (List UInt8), es'.map (·.key) = bs.map encStr ∧ (∀ e ∈ es', e.born < cl) ∧ (es'.map (·.born)).Nodup ∧ (∀ e ∈ es', e.born ∉ seen) ∧ bs.Nodup ∧ (∀ b ∈ bs, b ∉ acc ∧ b.length ≤ 1000000) ∧ ∃ fin : List (List UInt8), out = fin.map encT ∧ fin.Perm (bs ++ acc) ∧ fin.Pairwise (· ≤ ·)
 | [], es', seen, acc, out, hr, h, hs => by
   cases hr
   rw [keysF] at h
   cases h
   exact ⟨[], rfl, by simp, by simp, by simp, by simp, by simp, acc, rfl, .refl _, hs⟩
 | e :: es, es', seen, acc, out, hr, h, hs => by
   obtain ⟨e', es'', rfl, ⟨hk, hv, hbn⟩, hr⟩ := hr
   rw [keysF] at h
   split at h
   case h_2 => cases h
   rename_i n x hen
   split at h
   case h_2 => cases h
   rename_i hc
   simp only [Bool.and_eq_true, Nat.ble_eq, Bool.not_eq_true'] at hc
   obtain ⟨⟨hn, hcl⟩, hseen, hmem⟩ := hc
   rw [hen] at hk
   obtain ⟨s, hks, hsr⟩ := hk
   obtain ⟨b, hb⟩ : ∃ b, b = s.data.toList := ⟨_, rfl⟩
   have hn' : n = b.length := by rw [hb]; exact hsr.1.symm
   have hx' : x = packL b := by rw [hb]; exact hsr.2.symm
   subst hn' hx'
   rw [insT_enc] at h
   obtain ⟨bs, k1, k2, k3, k4, k5, k6, fin, k7, k8, k9⟩ := keysF_ok es es'' _ _ out hr h (insB_sorted b acc hs)
   have hbm : b ∉ acc := fun hm => by rw [(memT_enc b acc).2 hm] at hmem; cases hmem
   have hbs : b ∉ bs := fun hm => (k6 b hm).1 ((insB_perm b acc).mem_iff.2 (List.mem_cons_self ..))
   have hns : e'.born ∉ seen := fun hm => by rw [← hbn] at hm; rw [(memB_iff _ _).2 hm] at hseen; cases hseen
   refine ⟨b :: bs, ?_, ?_, ?_, ?_, ?_, ?_, fin, k7, ?_, k9⟩
   · rw [List.map_cons, List.map_cons, k1, hks]
     congr 1
     rw [hb]
   · intro e he
     cases he with
     | head => rw [← hbn]; exact hcl
     | tail _ he => exact k2 e he
   · rw [List.map_cons, List.nodup_cons]
     refine ⟨fun hm => ?_, k3⟩
     obtain ⟨e2, he2, heq⟩ := List.mem_map.1 hm
     have := k4 e2 he2
     rw [heq] at this
     exact this (by rw [hbn]; exact List.mem_cons_self ..)
   · intro e he
     cases he with
     | head => exact hns
     | tail _ he => exact fun hm => k4 e he (List.mem_cons_of_mem _ hm)
   · exact List.nodup_cons.2 ⟨hbs, k5⟩
   · intro c hc
     cases hc with
     | head => exact ⟨hbm, hn⟩
     | tail _ hc => exact ⟨fun hm => (k6 c hc).1 ((insB_perm b acc).mem_iff.2 (List.mem_cons_of_mem _ hm)), (k6 c hc).2⟩
   · refine k8.trans (((insB_perm b acc).append_left bs).trans ?_)
     exact List.perm_middle
theorem owns_keys {P : Program} {k : TypeId} (hk : P.underlying k = some .string) {w : World} {b cl : Nat} {es : Array MapEntry} {bs : List (List UInt8)} (hb : w.heap[b]? = some (.map es cl)) (hkeys : es.toList.map (·.key) = bs.map encStr) (hborn : ∀ e ∈ es.toList, e.born < cl)
   (hnd : (es.toList.map (·.born)).Nodup) (hbs : bs.Nodup) (hlen : ∀ x ∈ bs, x.length ≤ 1000000) (hsz : es.size ≤ 1000000) :
   ∃ D : DataW Unit, w.ownsMap P k (fun _ => some (.nil, [])) b es.size D ∧ Maps.size D = es.size ∧ (strKeys D).Perm bs := by
 have hmx : (1000000 : Nat) ≤ maxLen := by decide
 have hrd : ∀ x ∈ es.toList, ∃ s : List UInt8, s ∈ bs ∧ x.key = encStr s ∧ rd (H := Unit) P k (fun _ => some (.nil, [])) x = some (.string s, .nil) := by
   intro x hx
   have hm : x.key ∈ bs.map encStr := by rw [← hkeys]; exact List.mem_map_of_mem hx
   obtain ⟨s, hs, he⟩ := List.mem_map.1 hm
   refine ⟨s, hs, he.symm, ?_⟩
   have : keyOf P k x.key = some (.string s) := by
     rw [← he, encStr, Go.WideMaps.keyOf_string_mk hk (by have := hlen s hs; show s.toArray.size ≤ _; simp; omega)]
   unfold Go.WideElems.rd
   rw [this]
   rfl
 have hF : Fit (H := Unit) P k (fun _ => some (.nil, [])) es cl := by
   refine ⟨by omega, ⟨hborn, hnd, ?_⟩, fun x hx => let ⟨s, _, _, h⟩ := hrd x hx; ⟨_, h⟩⟩
   rw [hkeys]
   exact List.Pairwise.map _ (fun a b (hne : a ≠ b) he => hne (encStr_inj he)) hbs
 refine ⟨_, ⟨es, cl, hb, hF, Nat.le_refl _, rfl⟩, ?_, ?_⟩
 · show ((es.toList.map _).foldr DataW.insert []).length = _
   rw [length_sorted]; simp
 · show (((es.toList.map (rg (H := Unit) P k fun _ => some (.nil, []))).foldr DataW.insert []).map fun p => strOf p.1).Perm bs
   refine ((Go.WideShapes.sorted_perm _).map _).trans ?_
   have : (es.toList.map (rg (H := Unit) P k fun _ => some (.nil, []))).map (fun p => strOf p.1) = bs := by
     have inj : ∀ a b : List (List UInt8), a.map encStr = b.map encStr → a = b := by
       intro a
       induction a with
       | nil => intro b h; cases b with | nil => rfl | cons => simp at h
       | cons x a ih => intro b h; cases b with
         | nil => simp at h
         | cons y b => rw [List.map_cons, List.map_cons, List.cons.injEq] at h; rw [encStr_inj h.1, ih b h.2]
     refine inj _ _ ?_
     rw [← hkeys, List.map_map, List.map_map]
     refine List.map_congr_left fun x hx => ?_
     obtain ⟨s, _, he, hr⟩ := hrd x hx
     show encStr (strOf (rg P k _ x).1) = x.key
     rw [Go.WideElems.rg_of hr, he]; rfl
   rw [this]
theorem sorted_eq {ss fin bs : List (List UInt8)} (h1 : ss.Perm bs) (h2 : fin.Perm bs) (hs : fin.Pairwise (· ≤ ·)) : ss.mergeSort leB = fin := by
 rw [mergeSort_of_perm (h1.trans h2.symm)]
 exact List.mergeSort_of_pairwise (hs.imp fun h => by simpa using h)
/-! the oracle -/
noncomputable def keysO (its : List Nat) (ks : Nat) (args : List AVal) (S : AState) (K : KV Unit) : Option Unit := match args with
 | [.fn (.func g) [] [.ptr bm 0]] => match memB g its with
   | true => match S.heap.get bm with
     | some (.cells c d n wr e) => match Nat.ble 1 n with
       | true => match getCell c d 0 with
         | .map b => match S.heap.get b with
           | some (.map es cl) => match Nat.ble es.length 1000000 with
             | true => match keysF cl es [] [] with
               | some [] => K .slc0 S
               | some (a :: l) => allocS S (newCells ((a :: l).map fun p => .str p.1 p.2) ks) fun b S => K (.slc b 0 (Nat.succ l.length) 1) S
               | none => none
             | false => none
           | _ => none
         | _ => none
       | false => none
     | _ => none
   | false => none
 | _ => none
def KeysLaw (P : Program) (g it ks : Nat) : Prop :=
 ∀ (bm b nn : Nat) (D : DataW Unit) (w : World), bm < w.heap.size → w.cell? ⟨bm, 0, none⟩ = some (.map (some b)) → w.ownsMap P ks (fun _ => some (.nil, [])) b nn D → Maps.size D ≤ 1000000 →
   Calls P g #[.func (.func it) #[] #[.pointer (some ⟨bm, 0, none⟩)]] w fun e w' => ∃ (v : Value) (ss : List (List UInt8)), e = .returned v ∧ ss.Perm (strKeys D) ∧
     w'.ownsRow w.heap.size ks 1 v ss.length ((ss.mergeSort (fun x y => decide (x ≤ y))).map encStr) ∧ (v = .slice none 0 0 ↔ ss = []) ∧ Below w.heap.size w w'
theorem keys_ok {P : Program} {W : World} {G g ks : Nat} {its : List Nat} {Fn : Func} {code : Code} (hf : P.funcs[g]? = some Fn) (hn : (Fn.name == "runtime.NumGoroutine") = false) (hb : Fn.body = some code) (hks : P.underlying ks = some .string) (hlaw : ∀ it ∈ its, KeysLaw P g it ks) :
   FuncOk ⟨P, compC P G, G, W⟩ Unit g (keysO its ks) := by
 intro args S K r h hok
 unfold keysO at h
 split at h
 case h_2 => cases h
 rename_i g' bm
 split at h
 case h_2 => cases h
 rename_i hg
 rw [memB_iff] at hg
 have hlaw := hlaw g' hg
 split at h
 case h_2 => cases h
 rename_i c d n wr e hgm
 split at h
 case h_2 => cases h
 rename_i hn1
 rw [Nat.ble_eq] at hn1
 split at h
 case h_2 => cases h
 rename_i b hc0
 split at h
 case h_2 => cases h
 rename_i es cl hgb
 split at h
 case h_2 => cases h
 rename_i hsz
 rw [Nat.ble_eq] at hsz
 -- in the machine
 have key : ∀ {M : Nat} {f : Inj} {w : World} {us : Array Value} {out : List (Nat × Nat)}, Sim ⟨P, compC P G, G, W⟩ M f S.v w → VRels f [.fn (.func g') [] [.ptr bm 0]] us.toList → keysF cl es [] [] = some out →
     Calls P g us w fun e w' => ∃ (v : Value) (fin : List (List UInt8)), e = .returned v ∧ out = fin.map encT ∧ w'.ownsRow w.heap.size ks 1 v fin.length (fin.map encStr) ∧ (v = .slice none 0 0 ↔ fin = []) ∧ Below w.heap.size w w' ∧ fin.length ≤ 1000000 := by
   intro M f w us out hs hus hkeys
   obtain ⟨u, us', hus', ⟨g2, fs, cs, rfl, hfn, hfs, hcs⟩, hnil⟩ := hus
   cases hnil
   have hfs := VRels.length hfs
   obtain ⟨p, ps, hcs', ⟨Bm, Nm, hfm, rfl⟩, hnil⟩ := hcs
   cases hnil
   have hus2 : us = #[.func g2 fs cs] := by
     have := congrArg List.toArray hus'
     simpa using this
   have hfs2 : fs = #[] := by
     have : fs.size = 0 := by simpa using hfs.symm
     exact Array.eq_empty_of_size_eq_zero this
   have hcs2 : cs = #[.pointer (some ⟨Bm, 0, none⟩)] := by
     have := congrArg List.toArray hcs'
     simpa using this
   have hfn : g2 = .func g' := by
     cases g2 <;> first | (cases hfn; rfl) | exact absurd hfn (by simp [FnRel])
   subst hfn hfs2 hcs2 hus2
   obtain ⟨obj, hobj, cells, lo, hi, rfl, _, hnN, _, hcell⟩ := hs.blk bm _ hgm Bm Nm hfm
   obtain ⟨v0, hv0, hr0⟩ := hcell 0 hn1
   rw [hc0] at hr0
   obtain ⟨B, N, hfB, rfl⟩ := hr0
   obtain ⟨obj2, hobj2, es', rfl, hes⟩ := hs.blk b _ hgb B N hfB
   have hlen : es.length = es'.size := by
     have : ∀ (l : List (AVal × AVal × Nat)) (l' : List MapEntry), EntriesRel f l l' → l.length = l'.length := by
       intro l
       induction l with
       | nil => intro l' h; cases h; rfl
       | cons a l ih => intro l' h; obtain ⟨_, _, rfl, _, h⟩ := h; simp [ih _ h]
     simpa using this _ _ hes
   obtain ⟨bs, k1, k2, k3, _, k5, k6, fin, k7, k8, k9⟩ := keysF_ok es es'.toList [] [] out hes hkeys .nil
   rw [List.append_nil] at k8
   obtain ⟨D, hown, hDs, hDk⟩ := owns_keys hks hobj2 k1 k2 k3 k5 (fun x hx => (k6 x hx).2) (by omega)
   refine (hlaw Bm B es'.size D w (hs.lt bm Bm Nm hfm) (cell_at hobj hv0) hown (by omega)).mono ?_
   rintro e w' ⟨v, ss, rfl, hp, hrow, hv, hbl⟩
   have hmg : ss.mergeSort (fun x y => decide (x ≤ y)) = fin := sorted_eq (hp.trans hDk) k8 k9
   have hpf : ss.Perm fin := (hp.trans hDk).trans k8.symm
   rw [hmg, hpf.length_eq] at hrow
   refine ⟨v, fin, rfl, k7, hrow, hv.trans ⟨fun h => by subst h; exact hpf.symm.eq_nil, fun h => by subst h; exact hpf.eq_nil⟩, hbl, ?_⟩
   have h1 := congrArg List.length k1
   rw [List.length_map, List.length_map] at h1
   have h2 := k8.length_eq
   have h3 : es'.toList.length = es'.size := by simp
   omega
 split at h
 case h_3 => cases h
 · rename_i hk
   refine ⟨_, _, h, .refl _, fun M f w us hs hM hus => goes_of_calls hf hn hb ((key hs hus hk).mono ?_)⟩
   rintro e w' ⟨v, fin, rfl, ho, hrow, hv, hbl, hl6⟩
   have : fin = [] := List.map_eq_nil_iff.1 ho.symm
   exact ⟨v, rfl, f, Step.below hs hbl, hv.2 this⟩
 · rename_i a l hk
   obtain ⟨hsm, h⟩ := allocS_eq h
   refine ⟨_, _, h, AStep.alloc _ trivial, fun M f w us hs hM hus => goes_of_calls hf hn hb ((key hs hus hk).mono ?_)⟩
   rintro e w' ⟨v, fin, rfl, ho, ⟨hlen, hrow⟩, hv, hbl, hl6⟩
   have hfl : fin.length = l.length + 1 := by
     have := congrArg List.length ho
     simpa using this.symm
   rcases hrow with ⟨_, h0⟩ | ⟨g1, cap, cur, rfl, hg1, hcur, hcap, _, hcs, htake⟩
   · omega
   rw [Nat.mul_one] at hcs htake
   refine ⟨_, rfl, _, Step.gain hs hsm (by have : S.next + 1 ≤ M := hM; omega) (blk := newCells ((a :: l).map fun p => .str p.1 p.2) ks) (N := cur.size) hbl hg1 hcur (fun k hk => ?_), ⟨g1, cur.size, cap, 0, upd_same .., ?_, ?_, .inl rfl, ?_⟩⟩
   · refine ⟨cur, 0, 0, rfl, rfl, by simp; omega, fun _ => .inl rfl, fun i hi => ?_⟩
     simp only [List.length_map, List.length_cons] at hi
     have hi' : i < fin.length := by omega
     refine ⟨encStr fin[i], ?_, ?_⟩
     · have h1 : (cur.toList.take fin.length)[i]? = some (encStr fin[i]) := by rw [htake]; simp [hi']
       rw [List.getElem?_take, if_pos hi'] at h1
       simpa using h1
     · rw [getCell_eq, putCells_get _ .leaf 0 i (by simp; omega), if_pos (by simp; omega), Nat.sub_zero]
       have h2 : ((a :: l).map fun p : Nat × Nat => AVal.str p.1 p.2)[i]? = some (.str fin[i].length (packL fin[i])) := by
         rw [ho]; simp [hi', encT]
       rw [h2]
       exact ⟨_, rfl, by simp, by simp⟩
   · show l.length + 1 ≤ cap; omega
   · omega
   · show Value.slice _ fin.length cap = Value.slice _ (l.length + 1) cap
     rw [hfl]
/-! field.New, whose tables are the same at every call: its code is run once, by the kernel, and its row is written down -/
def powL : List Nat := [1, 2, 4, 8, 16, 32, 64, 128, 29, 58, 116, 232, 205, 135, 19, 38, 76, 152, 45, 90, 180, 117, 234, 201, 143, 3, 6, 12, 24, 48, 96, 192, 157, 39, 78, 156, 37, 74, 148, 53, 106, 212, 181, 119, 238, 193, 159, 35, 70, 140, 5, 10, 20, 40, 80, 160, 93, 186, 105, 210, 185, 111, 222, 161, 95, 190, 97, 194, 153, 47, 94, 188, 101, 202, 137, 15, 30, 60, 120, 240, 253, 231, 211, 187, 107, 214, 177, 127, 254, 225, 223, 163, 91, 182, 113, 226, 217, 175, 67, 134, 17, 34, 68, 136, 13, 26, 52, 104, 208, 189, 103, 206, 129, 31, 62, 124, 248, 237, 199, 147, 59, 118, 236, 197, 151, 51, 102, 204, 133, 23, 46, 92, 184, 109, 218, 169, 79, 158, 33, 66, 132, 21, 42, 84, 168, 77, 154, 41, 82, 164, 85, 170, 73, 146, 57, 114, 228, 213, 183, 115, 230, 209, 191, 99, 198, 145, 63, 126, 252, 229, 215, 179, 123, 246, 241, 255, 227, 219, 171, 75, 150, 49, 98, 196, 149, 55, 110, 220, 165, 87, 174, 65, 130, 25, 50, 100, 200, 141, 7, 14, 28, 56, 112, 224, 221, 167, 83, 166, 81, 162, 89, 178, 121, 242, 249, 239, 195, 155, 43, 86, 172, 69, 138, 9, 18, 36, 72, 144, 61, 122, 244, 245, 247, 243, 251, 235, 203, 139, 11, 22, 44, 88, 176, 125, 250, 233, 207, 131, 27, 54, 108, 216, 173, 71, 142]
def logL : List Nat := [0, 0, 1, 25, 2, 50, 26, 198, 3, 223, 51, 238, 27, 104, 199, 75, 4, 100, 224, 14, 52, 141, 239, 129, 28, 193, 105, 248, 200, 8, 76, 113, 5, 138, 101, 47, 225, 36, 15, 33, 53, 147, 142, 218, 240, 18, 130, 69, 29, 181, 194, 125, 106, 39, 249, 185, 201, 154, 9, 120, 77, 228, 114, 166, 6, 191, 139, 98, 102, 221, 48, 253, 226, 152, 37, 179, 16, 145, 34, 136, 54, 208, 148, 206, 143, 150, 219, 189, 241, 210, 19, 92, 131, 56, 70, 64, 30, 66, 182, 163, 195, 72, 126, 110, 107, 58, 40, 84, 250, 133, 186, 61, 202, 94, 155, 159, 10, 21, 121, 43, 78, 212, 229, 172, 115, 243, 167, 87, 7, 112, 192, 247, 140, 128, 99, 13, 103, 74, 222, 237, 49, 197, 254, 24, 227, 165, 153, 119, 38, 184, 180, 124, 17, 68, 146, 217, 35, 32, 137, 46, 55, 63, 209, 91, 149, 188, 207, 205, 144, 135, 151, 178, 220, 252, 190, 97, 242, 86, 211, 171, 20, 42, 93, 158, 132, 60, 57, 83, 71, 109, 65, 162, 31, 45, 67, 216, 183, 123, 164, 118, 196, 23, 73, 236, 127, 12, 111, 246, 108, 161, 59, 82, 41, 157, 85, 170, 251, 96, 134, 177, 187, 204, 62, 90, 203, 89, 95, 176, 156, 169, 160, 81, 11, 245, 22, 235, 122, 117, 44, 215, 79, 174, 213, 233, 230, 231, 173, 232, 116, 214, 244, 234, 168, 80, 88, 175]
def fieldL : List AVal := (List.replicate 2 powL).flatten.map (fun x => .int .u8 (.ofNat x)) ++ logL.map (fun x => .int .i64 (.ofNat x))
noncomputable def sameI (a b : AVal) : Bool := match a, b with
 | .int .u8 (.ofNat x), .int .u8 (.ofNat y) => Nat.beq x y
 | .int .i64 (.ofNat x), .int .i64 (.ofNat y) => Nat.beq x y
 | _, _ => false
theorem sameI_eq {a b : AVal} (h : sameI a b = true) : ∃ k m, a = .int k m ∧ b = .int k m := by
 unfold sameI at h
 split at h
 · rw [Nat.beq_eq] at h; subst h; exact ⟨_, _, rfl, rfl⟩
 · rw [Nat.beq_eq] at h; subst h; exact ⟨_, _, rfl, rfl⟩
 · cases h
noncomputable def rowB (c : T AVal) (d : AVal) : List AVal → Nat → Bool
 | [], _ => true
 | a :: l, i => and (sameI a (getCell c d i)) (rowB c d l (Nat.succ i))
theorem rowB_get {c : T AVal} {d : AVal} : ∀ (l : List AVal) (i : Nat), rowB c d l i = true → ∀ j, j < l.length → ∃ k m, l[j]? = some (.int k m) ∧ getCell c d (i + j) = .int k m
 | [], _, _, j, hj => by simp at hj
 | a :: l, i, h, j, hj => by
   rw [rowB, Bool.and_eq_true] at h
   obtain ⟨k, m, ha, hb⟩ := sameI_eq h.1
   cases j with
   | zero => exact ⟨k, m, by rw [ha]; rfl, hb⟩
   | succ j =>
     have := rowB_get l (i + 1) h.2 j (by simpa using hj)
     rw [show i + 1 + j = i + (j + 1) by omega] at this
     exact this
noncomputable def isRowK (l : List AVal) (te : Nat) : KV Unit := fun v S => match v with
 | .ptr b 0 => match S.heap.get b with
   | some (.cells c d n true e) => match and (Nat.beq e te) (and (Nat.beq n l.length) (rowB c d l 0)) with
     | true => some ()
     | false => none
   | _ => none
 | _ => none
noncomputable def newO (l : List AVal) (te : Nat) (args : List AVal) (S : AState) (K : KV Unit) : Option Unit := match args with
 | [] => allocS S (newCells l te) fun b S => K (.ptr b 0) S
 | _ => none
theorem new_ok {P : Program} {W : World} {G g te : Nat} {C : Cfg Unit} {n : Nat} {l : List AVal} {Fn : Func} {code : Code} (hf : P.funcs[g]? = some Fn) (hn : (Fn.name == "runtime.NumGoroutine") = false) (hb : Fn.body = some code) (hC : ∀ W, CfgOk ⟨P, compC P G, G, W⟩ Unit C) (hno : C.orc.get g = none) (hsm : small l.length = true)
   (hrun : fcallF C (fexec C n) g [] (startA .leaf G) (isRowK l te) = some ()) : FuncOk ⟨P, compC P G, G, W⟩ Unit g (newO l te) := by
 rw [fexec_eq, fcallF_eq] at hrun
 have hsml := small_lt hsm
 intro args S K r h hok
 unfold newO at h
 split at h
 case h_2 => cases h
 obtain ⟨hsn, h⟩ := allocS_eq h
 refine ⟨_, _, h, AStep.alloc _ trivial, fun M f w us hs hM hus => ?_⟩
 have hus : us = #[] := Array.toList_inj.1 hus
 subst hus
 have hl : ∀ b blk, (T.leaf : T ABlock).get b = some blk → False := fun b blk h => by rw [T.get_leaf] at h; cases h
 obtain ⟨v, S', hK, hst, hgo⟩ := callF_calls (E := ⟨P, compC P G, G, w⟩) (hC w) n hno hrun (start_ok fun b blk hb => (hl b blk hb).elim)
 refine goes_of_calls hf hn hb ((hgo S'.next _ w #[] (start_sim (N := fun _ => 0) hs.big_enough (fun b blk hb => (hl b blk hb).elim) _) (Nat.le_refl _) rfl).mono ?_)
 rintro e w' ⟨v', rfl, f', hstep, hr⟩
 unfold isRowK at hK
 split at hK
 case h_2 => cases hK
 rename_i b
 split at hK
 case h_2 => cases hK
 rename_i c d n' e hg
 split at hK
 case h_2 => cases hK
 rename_i hc
 rw [Bool.and_eq_true, Bool.and_eq_true, Nat.beq_eq, Nat.beq_eq] at hc
 obtain ⟨rfl, rfl, hrow⟩ := hc
 obtain ⟨B, N, hB, rfl⟩ := hr
 have hwB : w.heap.size ≤ B := hstep.sim.base b _ B N hB hg rfl
 obtain ⟨obj, hobj, cs, lo, hi, rfl, hsz, hnN, hfz, hcell⟩ := hstep.sim.blk b _ hg B N hB
 refine ⟨_, rfl, _, Step.gain hs hsn (by have : S.next + 1 ≤ M := hM; omega) (blk := newCells l e) (N := N) hstep.sim.below hwB hobj (fun k hk => ⟨cs, lo, hi, rfl, hsz, hnN, fun _ => hfz rfl, fun i hi => ?_⟩), ⟨B, N, upd_same .., rfl⟩⟩
 obtain ⟨v, hv, hvr⟩ := hcell i hi
 obtain ⟨k', m', h2, h1⟩ := rowB_get l 0 hrow i hi
 rw [Nat.zero_add] at h1
 rw [h1] at hvr
 refine ⟨v, hv, ?_⟩
 rw [getCell_eq, putCells_get _ .leaf 0 i (by omega), if_pos (by omega), Nat.sub_zero, h2]
 exact hvr
noncomputable def trueO (args : List AVal) (S : AState) (K : KV Unit) : Option Unit := match args with
 | [] => K (.bool true) S
 | _ => none
def HeapOk (E : Env) (heap : T ABlock) (N : Nat → Nat) : Prop := ∀ b blk, heap.get b = some blk → b < E.G ∧ roB blk = true ∧ ∃ obj, E.W.heap[b]? = some obj ∧ BRel E.P E.comp (startF E.G N) (N b) blk obj
theorem leaf_ok (E : Env) (N : Nat → Nat) : HeapOk E .leaf N := fun b blk h => by rw [T.get_leaf] at h; cases h
theorem true_ok {P : Program} {W : World} {G g : Nat} {C : Cfg Unit} {n : Nat} {heap : T ABlock} {N : Nat → Nat} {Fn : Func} {code : Code} (hf : P.funcs[g]? = some Fn) (hn : (Fn.name == "runtime.NumGoroutine") = false) (hb : Fn.body = some code) (hC : ∀ W, CfgOk ⟨P, compC P G, G, W⟩ Unit C) (hno : C.orc.get g = none)
   (hh : HeapOk ⟨P, compC P G, G, W⟩ heap N) (hrun : fcallF C (fexec C n) g [] (startA heap G) isTrueK = some ()) : FuncOk ⟨P, compC P G, G, W⟩ Unit g trueO := by
 rw [fexec_eq, fcallF_eq] at hrun
 intro args S K r h hok
 unfold trueO at h
 split at h
 case h_2 => cases h
 refine ⟨_, _, h, .refl _, fun M f w us hs hM hus => ?_⟩
 have hus : us = #[] := Array.toList_inj.1 hus
 subst hus
 have hw : HeapOk ⟨P, compC P G, G, w⟩ heap N := fun b blk hb => by
   obtain ⟨h1, h2, obj, h3, h4⟩ := hh b blk hb
   exact ⟨h1, h2, obj, (hs.keep b (Array.getElem?_eq_some_iff.1 h3).1).trans h3, h4⟩
 obtain ⟨v, S', hK, hst, hgo⟩ := callF_calls (E := ⟨P, compC P G, G, w⟩) (hC w) n hno hrun (start_ok fun b blk hb => ⟨(hw b blk hb).1, (hw b blk hb).2.1⟩)
 refine goes_of_calls hf hn hb ((hgo S'.next _ w #[] (start_sim (N := N) hs.big_enough hw _) (Nat.le_refl _) rfl).mono ?_)
 rintro e w' ⟨v', rfl, f', hstep, hr⟩
 unfold isTrueK at hK
 split at hK
 case h_2 => cases hK
 refine ⟨_, rfl, f, Step.below hs hstep.sim.below, ?_⟩
 exact hr
end Abs
end Go.Proofs.YtfkchheildfkpaaGreatDoor.Refl
namespace Go.Proofs.YtfkchheildfkpaaGreatDoor.Refl
open Go Go.RowKit
namespace Abs
set_option linter.unusedVariables false
def JoinLaw (P : Program) (g : Nat) : Prop := ∀ (bk o c : Nat) (xs : List ByteArray) (sep : ByteArray) (w : World)
   (hcells : ∀ (j : Nat) x, xs[j]? = some x → w.cell? ⟨bk, o + j, none⟩ = some (.string x))
   (hbk : bk < w.heap.size) (hN : xs.length ≤ 140737488355328) (hcap : xs.length ≤ c)
   (hlen : (Lib.join (xs.map (·.data.toList)) sep.data.toList).length ≤ 140737488355328),
   Calls P g #[.slice (some ⟨bk, o, none⟩) xs.length c, .string sep] w fun e w' => e = .returned (.string ⟨(Lib.join (xs.map (·.data.toList)) sep.data.toList).toArray⟩) ∧ Below w.heap.size w w'
theorem join_empty : ∀ xs : List (List UInt8), Lib.join xs [] = xs.flatten
 | [] => rfl
 | x :: r => by
   rw [Lib.join_cons]
   simp [Lib.joinTail]
noncomputable def joinF (c : T AVal) (d : AVal) : Nat → Nat → Nat → Nat → Option (Nat × Nat)
 | 0, _, n, x => some (n, x)
 | len + 1, o, n, x => match getCell c d o with
   | .str m y => joinF c d len (Nat.succ o) (Nat.add n m) (Nat.add (Nat.mul x (Nat.pow 256 m)) y)
   | _ => none
theorem joinF_ok {f : Inj} {w : World} {c : T AVal} {d : AVal} {Bw : Nat} : ∀ (len o p n x n' x' : Nat), joinF c d len o n x = some (n', x') →
   (∀ i, i < len → ∃ v, w.cell? ⟨Bw, p + i, none⟩ = some v ∧ VRel f (getCell c d (o + i)) v) →
   ∃ xs : List ByteArray, xs.length = len ∧ (∀ (j : Nat) x, xs[j]? = some x → w.cell? ⟨Bw, p + j, none⟩ = some (.string x)) ∧ n' = n + (xs.map (·.data.toList)).flatten.length ∧ x' = x * 256 ^ (xs.map (·.data.toList)).flatten.length + packL (xs.map (·.data.toList)).flatten
 | 0, o, p, n, x, n', x', h, hc => by
   cases h
   exact ⟨[], rfl, by simp, by simp, by simp [packL]⟩
 | len + 1, o, p, n, x, n', x', h, hc => by
   rw [joinF] at h
   split at h
   case h_2 => cases h
   rename_i m y hg
   obtain ⟨v, hv, hr⟩ := hc 0 (by omega)
   rw [Nat.add_zero] at hv hr
   rw [hg] at hr
   obtain ⟨s, rfl, hs⟩ := hr
   obtain ⟨xs, h1, h2, h3, h4⟩ := joinF_ok len (Nat.succ o) (p + 1) _ _ n' x' h fun i hi => by
     have := hc (i + 1) (by omega)
     rwa [show p + (i + 1) = p + 1 + i by omega, show o + (i + 1) = Nat.succ o + i by omega] at this
   refine ⟨s :: xs, by simp [h1], ?_, ?_, ?_⟩
   · intro j z hj
     cases j with
     | zero => simp at hj; subst hj; exact hv
     | succ j => rw [show p + (j + 1) = p + 1 + j by omega]; exact h2 j z (by simpa using hj)
   · rw [h3, List.map_cons, List.flatten_cons, List.length_append, hs.1]
     show n + m + _ = _
     omega
   · rw [h4, List.map_cons, List.flatten_cons, List.length_append, packL_append, hs.1, hs.2]
     show (x * 256 ^ m + y) * _ + _ = _
     rw [Nat.pow_add, Nat.add_mul, ← Nat.mul_assoc, Nat.add_assoc]
noncomputable def joinO (args : List AVal) (S : AState) (K : KV Unit) : Option Unit := match args with
 | [.slc b o len 1, .str 0 0] => match S.heap.get b with
   | some (.cells c d k _ _) => match and (Nat.ble (Nat.add o len) k) (Nat.ble len 1000) with
     | true => match joinF c d len o 0 0 with
       | some (n, x) => match Nat.ble n 140737488355328 with
         | true => fN n fun n => fN x fun x => K (.str n x) S
         | false => none
       | none => none
     | false => none
   | _ => none
 | _ => none
theorem join_ok {E : Env} {g : Nat} {Fn : Func} {code : Code} (hf : E.P.funcs[g]? = some Fn) (hn : (Fn.name == "runtime.NumGoroutine") = false) (hb : Fn.body = some code) (hl : JoinLaw E.P g) : FuncOk E Unit g joinO := by
 intro args S K r h hok
 unfold joinO at h
 split at h
 case h_2 => cases h
 rename_i b o len
 split at h
 case h_2 => cases h
 rename_i c d k wr e hgm
 split at h
 case h_2 => cases h
 rename_i hc
 rw [Bool.and_eq_true, Nat.ble_eq, Nat.ble_eq] at hc
 obtain ⟨hk, hle⟩ := hc
 have hk : o + len ≤ k := hk
 split at h
 case h_2 => cases h
 rename_i n x hj
 split at h
 case h_2 => cases h
 rename_i hn2
 rw [Nat.ble_eq] at hn2
 rw [fN_eq, fN_eq] at h
 refine ⟨.str n x, S, h, .refl _, fun M f w us hs hM hus => ?_⟩
 obtain ⟨u1, us1, hus1, ⟨B, N, cap, p, hfb, hcap, hroom, hpo, rfl⟩, u2, us2, rfl, ⟨s, rfl, hss⟩, hnil⟩ := hus
 cases hnil
 have hus2 : us = #[.slice (some ⟨B, p, none⟩) len cap, .string s] := by
   have := congrArg List.toArray hus1
   simpa using this
 subst hus2
 obtain ⟨om, hom, cs, lo, hi, rfl, hsz, hn3, hfz, hcell⟩ := hs.blk b _ hgm B N hfb
 have hp : ∀ i, i < len → p = o := fun i hi => by
   rcases hpo with h1 | h1
   · exact h1
   · omega
 obtain ⟨xs, h1, h2, h3, h4⟩ := joinF_ok (f := f) (w := w) (Bw := B) len o p 0 0 n x hj fun i hi => by
   have := hp i hi
   subst this
   obtain ⟨v, hv, hr⟩ := hcell (p + i) (by omega)
   exact ⟨v, cell_at hom hv, hr⟩
 have hs0 : s.data.toList = [] := List.eq_nil_of_length_eq_zero hss.1
 subst h1
 rw [Nat.zero_add] at h3
 rw [Nat.zero_mul, Nat.zero_add] at h4
 have hjn : Lib.join (xs.map (·.data.toList)) s.data.toList = (xs.map (·.data.toList)).flatten := by rw [hs0, join_empty]
 have hcall := hl B p cap xs s w h2 (hs.lt b B N hfb) (by omega) hcap (by rw [hjn]; omega)
 rw [hjn] at hcall
 refine goes_of_calls hf hn hb (hcall.mono fun e w' ⟨he, hbl⟩ => ⟨_, he, f, Step.below hs hbl, ⟨_, rfl, ?_, ?_⟩⟩)
 · simp [h3]
 · rw [← h4]
theorem joinAt {W : World} {G : Nat} : FuncOk ⟨Tryz.prog, compC Tryz.prog G, G, W⟩ Unit 117 joinO := join_ok Tryz.func117 (by kernel_rfl) rfl fun bk o c xs sep w h1 h2 h3 h4 h5 => Tryz.strings_Join bk o c xs sep w h1 h2 h3 h4 h5
end Abs
end Go.Proofs.YtfkchheildfkpaaGreatDoor.Refl
namespace Go.Proofs.YtfkchheildfkpaaGreatDoor.Refl
open Go Go.RowKit
namespace Abs
set_option linter.unusedVariables false
noncomputable def namesHeap : T ABlock := T.put (.cells (putCells .leaf 0 [.str 2 27952, .str 2 27953]) undefA 2 false 134) 40 .leaf 0
end Abs
end Go.Proofs.YtfkchheildfkpaaGreatDoor.Refl
namespace Go.Proofs.YtfkchheildfkpaaGreatDoor.Refl
open Go Go.RowKit
namespace Abs
set_option linter.unusedVariables false
set_option linter.unusedSimpArgs false
theorem caught_idle (p : Addr) (w : World) :
   CallsD Tryz.prog 270 #[.pointer (some p)] .returning w fun e u' w' => e = .returned (.tuple #[]) ∧ u' = .returning ∧ w' = w := by
 refine callsD_of_wpS Tryz.func270 rfl fun c₀ cs hu => ?_
 apply wpS_seq
 apply wpS_region
 simp [wpOpsS, go_sem, recoverD, hu, Tryz.ntmps270, Exit.thenS]
 refine wpS_of_wp ?_
 simp only [Array.replicate_succ, Array.replicate_zero, List.push_toArray, List.append_toArray, List.nil_append, List.cons_append, List.setIfInBounds_toArray, List.set_cons_succ, List.set_cons_zero]
 have hbn : (binOp .eql 20 .nilIface .nilIface).run Tryz.prog w = .ok (.bool true) w := by
   have hd : ∀ d : Nat, (Op.equalIn (d + 1) 20 .nilIface .nilIface).run Tryz.prog w = .ok true w := fun d => by
     simp [Op.equalIn, run_underlying Tryz.underlying20]
   simp only [binOp]
   simp [Op.equal, Op.maxDepth, hd 9999]
 go_wp2
 cases c₀
 simp_all [bodyPostS, results, Tryz.results270, Exit.inBlock]
theorem caught_walk {g : Nat} {fs cs : Array Value} {w : World} {Q : World → Prop} (he : ∀ args w, (callFunc g args).run Tryz.prog w = .ok (.enter g args) w)
   (h : Calls Tryz.prog g (fs ++ #[] ++ cs) (w.alloc (.cells #[.int .i64 0] 33)) fun e w1 => ∃ v, e = .returned v ∧ w1.heap[w.heap.size]? = some (.cells #[.int .i64 0] 33 (0, 0)) ∧ Q w1) :
   Calls Tryz.prog 203 #[.func (.func g) fs cs] w fun e w' => e = .returned (.int .i64 0) ∧ ∃ w1, Q w1 ∧ w1.heap[w.heap.size]? = some (.cells #[.int .i64 0] 33 (0, 0)) ∧ w' = w1.setCell ⟨w.heap.size, 0, none⟩ (.int .i64 0) := by
 have hmf : ∀ (fn : Fn) (first cap : Array Value) (w : World), (Instr.makeFunc fn first cap).run Tryz.prog w = .ok (.func fn first cap) w := fun _ _ _ _ => rfl
 go_enter_defers Tryz.func203, Tryz.ntmps203
 obtain ⟨bx, hbx⟩ : ∃ bx, w.heap.size = bx := ⟨_, rfl⟩
 rw [hbx] at h ⊢
 go_wp2_with fail
 rw [Array.append_empty] at h
 refine h.mono ?_
 rintro e w1 ⟨v, rfl, hcell, hQ⟩
 have hc : w1.cell? ⟨bx, 0, none⟩ = some (.int .i64 0) := by simp [World.cell?, hcell]
 have hz : w1.frozen? ⟨bx, 0, none⟩ = false := by simp [World.frozen?, hcell]
 go_wp2_with fail
 refine leaves_cons (f := 270) (args := #[.pointer (some ⟨bx, 0, none⟩)]) (by simp) (by simp [go_sem]) ?_
 refine (caught_idle ⟨bx, 0, none⟩ _).mono ?_
 rintro e u' w'' ⟨rfl, rfl, rfl⟩
 have hc2 : (w1.setCell ⟨bx, 0, none⟩ (.int .i64 0)).cell? ⟨bx, 0, none⟩ = some (.int .i64 0) := World.cell?_setCell_same _ _ _ hc
 simp [Leaves, settle, results, Tryz.results203, go_sem, hc2]
 exact ⟨w1, hQ, hcell, rfl⟩
noncomputable def caughtO (gs : List Nat) (call : Nat → List AVal → AState → KV Unit → Option Unit) (args : List AVal) (S : AState) (K : KV Unit) : Option Unit := match args with
 | [.fn (.func g) a c] => match memB g gs with
   | true => call g (a ++ c) S fun _ S => K (.int .i64 (.ofNat 0)) S
   | false => none
 | _ => none
theorem caught_ok {W : World} {G : Nat} {C : Cfg Unit} {n : Nat} {gs : List Nat} (hC : CfgOk ⟨Tryz.prog, compC Tryz.prog G, G, W⟩ Unit C) (hg : ∀ g ∈ gs, C.orc.get g = none) :
   FuncOk ⟨Tryz.prog, compC Tryz.prog G, G, W⟩ Unit 203 (caughtO gs (fcallF C (fexec C n))) := by
 have hcall : fcallF C (fexec C n) = callF C (exec C n) := by
   funext g args S K
   rw [fexec_eq, fcallF_eq]
 rw [hcall]
 intro args S K r h hok
 unfold caughtO at h
 split at h
 case h_2 => cases h
 rename_i g a c
 split at h
 case h_2 => cases h
 rename_i hm
 rw [memB_iff] at hm
 have hno := hg g hm
 obtain ⟨fn, hfn⟩ : ∃ fn, C.fns.get g = some fn := by
   have h2 := h
   unfold callF at h2
   rw [hno] at h2
   dsimp only at h2
   split at h2
   · rename_i fn hfn; exact ⟨fn, hfn⟩
   · cases h2
 obtain ⟨F, code, hF⟩ := hC.fns g fn hfn
 have he : ∀ args w, (callFunc g args).run Tryz.prog w = .ok (.enter g args) w := fun args w => run_callFunc_enter hF.at_ hF.name hF.body args w
 obtain ⟨v1, S1, h, hst1, hgo1⟩ := callF_calls hC n hno h hok
 refine ⟨_, _, h, hst1, fun M f w us hs hM hus => ?_⟩
 obtain ⟨u, us', hus', ⟨g2, fs, cs, rfl, hfn2, hfs, hcs⟩, hnil⟩ := hus
 cases hnil
 have hus2 : us = #[.func g2 fs cs] := by
   have := congrArg List.toArray hus'
   simpa using this
 have hfn2 : g2 = .func g := by
   cases g2 <;> first | (cases hfn2; rfl) | exact absurd hfn2 (by simp [FnRel])
 subst hfn2 hus2
 have hb0 : Below w.heap.size w (w.alloc (.cells #[.int .i64 0] 33)) := (Below.refl _ _).alloc (Nat.le_refl _) _
 have hstep0 := Step.below hs hb0
 have hf0 : ∀ b N, f b ≠ some (w.heap.size, N) := fun b N hb => Nat.lt_irrefl _ (hs.lt b _ N hb)
 have hlt0 : w.heap.size < (w.alloc (.cells #[.int .i64 0] 33)).heap.size := by
   show w.heap.size < (w.heap.push _).size
   rw [Array.size_push]; omega
 have hbox0 : (w.alloc (.cells #[.int .i64 0] 33)).heap[w.heap.size]? = some (.cells #[.int .i64 0] 33 (0, 0)) := Go.heap_alloc_new ..
 refine goes_of_calls Tryz.func203 (by kernel_rfl) rfl ((caught_walk (Q := fun w1 => OpPost ⟨Tryz.prog, compC Tryz.prog G, G, W⟩ M f S.v w (.int .i64 (.ofNat 0)) S1.v (.int .i64 0) w1) he ((hgo1 M f _ (fs ++ #[] ++ cs) hstep0.sim hM ?_).mono ?_)).mono ?_)
 · rw [Array.append_empty, Array.toList_append]
   exact VRels.append hfs hcs
 · rintro e w1 ⟨v1', rfl, f1, hstep1, hr1⟩
   exact ⟨v1', rfl, (hstep1.aside hlt0 hf0).trans hbox0, f1, hstep0.trans hstep1, rfl⟩
 · rintro e w' ⟨rfl, w1, hQ, hcell, rfl⟩
   refine ⟨_, rfl, ?_⟩
   rw [setCell_at hcell, show (#[Value.int .i64 0].setIfInBounds 0 (Value.int .i64 0)) = #[Value.int .i64 0] from rfl, setObjAt_same hcell]
   exact hQ
end Abs
end Go.Proofs.YtfkchheildfkpaaGreatDoor.Refl
namespace Go.Proofs.YtfkchheildfkpaaGreatDoor.Refl
open Go Go.RowKit
namespace Abs
set_option linter.unusedVariables false
def IndexLaw (P : Program) (g : Nat) : Prop := ∀ (s : ByteArray) (c : Int) (w : World), Calls P g #[.string s, .int .u8 c] w fun e w' => e = .returned (.int .i64 (Lib.indexByte s.data.toList c.toNat.toUInt8)) ∧ w' = w
noncomputable def indexF (n x c : Nat) : Nat → Nat → Nat
 | 0, i => i
 | k + 1, i => match Nat.beq (byteAt n x i) c with
   | true => i
   | false => indexF n x c k (Nat.succ i)
theorem indexF_ok {n x c : Nat} {s : ByteArray} (hs : StrRel n x s) (hc : c ≤ 255) : ∀ (k i : Nat), i + k = n →
   (indexF n x c k i = n ∧ Lib.indexByte (s.data.toList.drop i) c.toUInt8 = -1) ∨ (i ≤ indexF n x c k i ∧ indexF n x c k i < n ∧ Lib.indexByte (s.data.toList.drop i) c.toUInt8 = ((indexF n x c k i - i : Nat) : Int))
 | 0, i, h => by
   left
   refine ⟨by rw [indexF]; omega, ?_⟩
   rw [List.drop_eq_nil_of_le (by rw [hs.1]; omega)]
   rfl
 | k + 1, i, h => by
   obtain ⟨b, hb, hba⟩ := byteAt_rel hs (i := i) (by omega)
   have hlt : i < s.data.toList.length := by rw [hs.1]; omega
   have hb' : s.data.toList[i] = b := by
     rw [List.getElem?_eq_getElem hlt] at hb
     exact Option.some.inj hb
   rw [List.drop_eq_getElem_cons hlt, hb', indexF, hba]
   have hcb : (b == c.toUInt8) = Nat.beq b.toNat c := by
     have h2 : c.toUInt8.toNat = c := by
       show (UInt8.ofNat c).toNat = c
       rw [UInt8.toNat_ofNat']
       omega
     rw [Bool.eq_iff_iff, Nat.beq_eq, beq_iff_eq, ← UInt8.toNat_inj, h2]
   rw [Lib.indexByte, hcb]
   cases hq : Nat.beq b.toNat c with
   | true =>
     right
     refine ⟨Nat.le_refl _, by show i < n; omega, ?_⟩
     simp
   | false =>
     show (indexF n x c k (Nat.succ i) = n ∧ _) ∨ (i ≤ indexF n x c k (Nat.succ i) ∧ indexF n x c k (Nat.succ i) < n ∧ _ = ((indexF n x c k (Nat.succ i) - i : Nat) : Int))
     rcases indexF_ok hs hc k (Nat.succ i) (by omega) with ⟨h1, h2⟩ | ⟨h1, h2, h3⟩
     · left
       refine ⟨h1, ?_⟩
       rw [h2]
       simp
     · right
       refine ⟨by omega, h2, ?_⟩
       rw [h3]
       have hne : (((indexF n x c k (Nat.succ i) - Nat.succ i : Nat) : Int) == -1) = false := by
         rw [beq_eq_false_iff_ne]
         omega
       rw [hne]
       simp only [Bool.false_eq_true, if_false]
       omega
noncomputable def indexO (args : List AVal) (S : AState) (K : KV Unit) : Option Unit := match args with
 | [.str n x, .int .u8 (.ofNat c)] => match Nat.ble c 255 with
   | true => fN (indexF n x c n 0) fun i => match Nat.ble n i with
     | true => K (.int .i64 (.negSucc 0)) S
     | false => K (.int .i64 (.ofNat i)) S
   | false => none
 | _ => none
theorem index_ok {E : Env} {g : Nat} {Fn : Func} {code : Code} (hf : E.P.funcs[g]? = some Fn) (hn : (Fn.name == "runtime.NumGoroutine") = false) (hb : Fn.body = some code) (hl : IndexLaw E.P g) : FuncOk E Unit g indexO := by
 intro args S K r h hok
 unfold indexO at h
 split at h
 case h_2 => cases h
 rename_i n x c
 split at h
 case h_2 => cases h
 rename_i hc
 rw [Nat.ble_eq] at hc
 rw [fN_eq] at h
 have key : ∃ m : Int, K (.int .i64 m) S = some r ∧ ∀ s : ByteArray, StrRel n x s → Lib.indexByte s.data.toList c.toUInt8 = m := by
   split at h
   · rename_i hle
     rw [Nat.ble_eq] at hle
     refine ⟨_, h, fun s hs => ?_⟩
     rcases indexF_ok hs hc n 0 (by omega) with ⟨h1, h2⟩ | ⟨h1, h2, h3⟩
     · exact h2
     · omega
   · rename_i hle
     refine ⟨_, h, fun s hs => ?_⟩
     rcases indexF_ok hs hc n 0 (by omega) with ⟨h1, h2⟩ | ⟨h1, h2, h3⟩
     · rw [h1, show Nat.ble n n = true from Nat.ble_eq.symm ▸ Nat.le_refl n] at hle
       cases hle
     · exact h3
 obtain ⟨m, hK, hm⟩ := key
 refine ⟨_, S, hK, .refl _, fun M f w us hs hM hus => ?_⟩
 obtain ⟨u1, us1, hus1, ⟨s, rfl, hss⟩, u2, us2, rfl, rfl, hnil⟩ := hus
 cases hnil
 have hus2 : us = #[.string s, .int .u8 (.ofNat c)] := by
   have := congrArg List.toArray hus1
   simpa using this
 subst hus2
 refine goes_of_calls hf hn hb ((hl s (.ofNat c) w).mono fun e w' ⟨he, hw⟩ => ⟨_, he, f, by rw [hw]; exact .refl hs, ?_⟩)
 show Value.int .i64 (Lib.indexByte s.data.toList c.toUInt8) = Value.int .i64 m
 rw [hm s hss]
theorem indexAt {W : World} {G : Nat} : FuncOk ⟨Tryz.prog, compC Tryz.prog G, G, W⟩ Unit 444 indexO := index_ok Tryz.func444 (by kernel_rfl) rfl fun s c w => Tryz.stringslite_IndexByte s c w
end Abs
end Go.Proofs.YtfkchheildfkpaaGreatDoor.Refl
namespace Go.Proofs.YtfkchheildfkpaaGreatDoor.Refl
open Go Go.RowKit Go.ChangeMaps
namespace Abs
set_option linter.unusedVariables false
set_option linter.unusedSimpArgs false
noncomputable def entryF (c : T AVal) (d : AVal) (o len cl : Nat) (e : AVal × AVal × Nat) : Bool := match e with
 | (.int .i64 (.ofNat i), .agg [.str n x], born) => match and (Nat.ble (Nat.succ i) len) (Nat.ble (Nat.succ born) cl) with
   | true => match getCell c d (Nat.add o i) with
     | .str m y => and (Nat.beq n m) (Nat.beq x y)
     | _ => false
   | false => false
 | _ => false
noncomputable def entriesF (c : T AVal) (d : AVal) (o len cl : Nat) : List Nat → List (AVal × AVal × Nat) → Bool
 | _, [] => true
 | seen, e :: es => and (entryF c d o len cl e) (and (!(memB e.2.2 seen)) (entriesF c d o len cl (e.2.2 :: seen) es))
noncomputable def foundO (call : Nat → List AVal → AState → KV Unit → Option Unit) (args : List AVal) (S : AState) (K : KV Unit) : Option Unit := match args with
 | [.agg [.int .i64 a1, .int .i64 a2], hv, ps] => call 315 [.agg [.int .i64 a1, .int .i64 a2], hv, ps] S fun v S => match v with
   | .tup [_, .int .i64 (.ofNat (x + 1))] => K (.tup [.str 0 0, .slc0, .int .i64 (.ofNat (x + 1))]) S
   | .tup [.map b, .int .i64 (.ofNat 0)] => call 316 [.agg [.int .i64 a1, .int .i64 a2], hv, ps] S fun v S => match v with
     | .tup [_, .bool false] => K (.tup [.str 0 0, .slc0, .int .i64 (.ofNat 4)]) S
     | .tup [l, .bool true] => call 317 [.agg [.int .i64 a1, .int .i64 a2], l] S fun v S => match v with
       | .tup [_, .bool false] => K (.tup [.str 0 0, .slc0, .int .i64 (.ofNat 4)]) S
       | .tup [.str sn sx, .bool true] => call 279 [.agg [.int .i64 a1, .int .i64 a2], l] S fun v S => match v with
         | .slc bw ow len 1 => match S.heap.get b with
           | some (.map es cl) => match S.heap.get bw with
             | some (.cells c d k _ _) => match and (Nat.ble (Nat.add ow len) k) (entriesF c d ow len cl [] es) with
               | true => K (.tup [.str sn sx, .slc bw ow len 1, .int .i64 (.ofNat 0)]) S
               | false => none
             | _ => none
           | _ => none
         | _ => none
       | _ => none
     | _ => none
   | _ => none
 | _ => none
structure Ready (w : World) (B : Nat) (es : Array MapEntry) (cl : Nat) (Bw p len : Nat) : Prop where
 map : w.heap[B]? = some (.map es cl)
 born : ∀ e ∈ es.toList, e.born < cl
 nodup : (es.toList.map (·.born)).Nodup
 entry : ∀ e ∈ es.toList, ∃ (i : Nat) (s : ByteArray), e.key = .int .i64 (i : Int) ∧ e.val = .agg #[.string s] ∧ i < len ∧ w.cell? ⟨Bw, p + i, none⟩ = some (.string s)
theorem lt_cell {w : World} {b o : Nat} {v : Value} (h : w.cell? ⟨b, o, none⟩ = some v) : b < w.heap.size := by
 rcases Nat.lt_or_ge b w.heap.size with h1 | h1
 · exact h1
 · have : w.heap[b]? = none := Array.getElem?_eq_none h1
   simp [World.cell?, this] at h
def Box (bx : Nat) (a1 a2 : Int) (w : World) : Prop := w.heap[bx]? = some (.cells #[.int .i64 a1, .int .i64 a2] 25 (0, 0))
theorem Box.cells {bx : Nat} {a1 a2 : Int} {w : World} (h : Box bx a1 a2 w) : w.cell? ⟨bx, 0, none⟩ = some (.int .i64 a1) ∧ w.cell? ⟨bx, 1, none⟩ = some (.int .i64 a2) := ⟨cell_at h rfl, cell_at h rfl⟩
set_option maxRecDepth 100000 in
set_option maxHeartbeats 4000000 in
theorem found_walk {a1 a2 : Int} {hv ps : Value} {w : World} {Q : Value → World → Prop}
   (h1 : Calls Tryz.prog 315 #[.agg #[.int .i64 a1, .int .i64 a2], hv, ps] (w.alloc (.cells #[.int .i64 a1, .int .i64 a2] 25)) fun e w1 => ∃ B, e = .returned (.tuple #[.map (some B), .int .i64 0]) ∧ Box w.heap.size a1 a2 w1 ∧
     Calls Tryz.prog 316 #[.agg #[.int .i64 a1, .int .i64 a2], hv, ps] w1 fun e w2 => ∃ lv, e = .returned (.tuple #[lv, .bool true]) ∧ Box w.heap.size a1 a2 w2 ∧
     Calls Tryz.prog 317 #[.agg #[.int .i64 a1, .int .i64 a2], lv] w2 fun e w3 => ∃ s, e = .returned (.tuple #[.string s, .bool true]) ∧ Box w.heap.size a1 a2 w3 ∧
     Calls Tryz.prog 279 #[.agg #[.int .i64 a1, .int .i64 a2], lv] w3 fun e w4 => ∃ Bw p len cap es cl, e = .returned (.slice (some ⟨Bw, p, none⟩) len cap) ∧ Ready w4 B es cl Bw p len ∧
       ∀ w', Below w4.heap.size w4 w' → Q (.tuple #[.string s, .slice (some ⟨Bw, p, none⟩) len cap, .int .i64 0]) w') :
   Calls Tryz.prog 253 #[.agg #[.int .i64 a1, .int .i64 a2], hv, ps] w fun e w' => ∃ v, e = .returned v ∧ Q v w' := by
 go_enter Tryz.func253, Tryz.ntmps253
 generalize hbx : w.heap.size = bx at h1
 go_wp2_with (go_at_call 315; refine h1.mono ?_)
 rintro e w1 ⟨B, rfl, hb1, h2⟩
 obtain ⟨c0, c1⟩ := hb1.cells
 go_wp2_with (go_at_call 316; refine h2.mono ?_)
 rintro e w2 ⟨lv, rfl, hb2, h3⟩
 obtain ⟨d0, d1⟩ := hb2.cells
 go_wp2_with (go_at_call 317; refine h3.mono ?_)
 rintro e w3 ⟨s, rfl, hb3, h4⟩
 obtain ⟨e0, e1⟩ := hb3.cells
 go_wp2_with (go_at_call 279; refine h4.mono ?_)
 rintro e w4 ⟨Bw, p, len, cap, es, cl, rfl, hR, hQ⟩
 have hrg := run_range_map (P := Tryz.prog) w4 418 3 425 B es cl Tryz.underlying418 hR.map
 obtain ⟨it, hit⟩ : ∃ it, w4.heap.size = it := ⟨_, rfl⟩
 rw [hit] at hrg
 clear h1 h2 h3 h4 hb1 hb2 hb3 c0 c1 d0 d1 e0 e1
 go_wp2
 go_loopw [] (fun wr => ∃ seen : Array Nat, wr.heap[it]? = some (.mapIter (some B) cl seen cl) ∧ Below w4.heap.size w4 wr) (fun wr => (leftOf es (wr.iterSeen it)).size)
 case atStart =>
   refine ⟨#[], ?_, (Below.refl _ _).alloc (Nat.le_refl _) _⟩
   rw [← hit]
   exact Go.heap_alloc_new ..
 case round =>
   obtain ⟨seen, hr, hbel⟩ := hrel
   have hBlt : B < w4.heap.size := (Array.getElem?_eq_some_iff.1 hR.map).1
   have hbr : ∀ k, k < w4.heap.size → wr.heap[k]? = w4.heap[k]? := by
     obtain ⟨_, _, _, _, h5⟩ := hbel
     exact h5
   have hbB := (hbr B hBlt).trans hR.map
   rcases run_next_at (P := Tryz.prog) wr 0 it B cl cl seen es cl hr hbB hR.born (Nat.le_refl _) with ⟨h0, hrun⟩ | ⟨e, he, wa, hal, hrun⟩
   · have hnx : ∀ ty, (Instr.next (.pointer (some ⟨it, 0, none⟩)) false ty).run Tryz.prog wr = _ := fun _ => hrun
     go_wp2
     go_ret3
     exact ⟨_, rfl, hQ _ hbel⟩
   · have hem := mem_left he
     obtain ⟨i, sv, hkey, hval, hil, hcell⟩ := hR.entry e hem.1
     rw [hkey, hval] at hrun
     have hnx : ∀ ty, (Instr.next (.pointer (some ⟨it, 0, none⟩)) false ty).run Tryz.prog wr = _ := fun _ => hrun
     have hah : wa.heap = wr.heap := by rcases hal with rfl | rfl <;> rfl
     have hitlt : it < wa.heap.size := by
       rw [hah]
       exact (Array.getElem?_eq_some_iff.1 hr).1
     have hra : wa.heap[it]? = some (.mapIter (some B) cl seen cl) := by rw [hah]; exact hr
     obtain ⟨wn, hwn⟩ : ∃ wn, setBlock wa it (.mapIter (some B) cl (seen.push e.born) cl) = wn := ⟨_, rfl⟩
     rw [hwn] at hrun
     have hnr : wn.heap[it]? = some (.mapIter (some B) cl (seen.push e.born) cl) := by
       rw [← hwn]
       show (wa.heap.setIfInBounds it _)[it]? = _
       rw [Array.getElem?_setIfInBounds_self, if_pos hitlt]
     have hnk : ∀ k, k < w4.heap.size → wn.heap[k]? = w4.heap[k]? := by
       intro k hk
       rw [← hwn]
       show (wa.heap.setIfInBounds it _)[k]? = _
       rw [Array.getElem?_setIfInBounds_ne (by omega), hah]
       exact hbr k hk
     have hsz : wn.heap.size = wr.heap.size := by
       rw [← hwn]
       show (wa.heap.setIfInBounds it _).size = _
       rw [Array.size_setIfInBounds, hah]
     have hbn : Below w4.heap.size w4 wn := by
       obtain ⟨b1, b2, b3, b4, b5⟩ := hbel
       have q : wa.os = wr.os ∧ wa.tape = wr.tape ∧ wa.output = wr.output := by rcases hal with rfl | rfl <;> exact ⟨rfl, rfl, rfl⟩
       refine ⟨?_, ?_, ?_, by omega, hnk⟩
       · rw [← hwn]; exact q.1.trans b1
       · rw [← hwn]; exact q.2.1.trans b2
       · rw [← hwn]; exact q.2.2.trans b3
     have hen := run_entry_at (P := Tryz.prog) wn it B cl seen es cl e hnr ((hnk B hBlt).trans hR.map) hem.1 hR.nodup
     rw [hkey, hval] at hen
     clear hrun
     have hcl : wn.cell? ⟨Bw, p + i, none⟩ = some (.string sv) := by
       have hx := hcell
       unfold World.cell? at hx ⊢
       rw [show wn.heap[(⟨Bw, p + i, none⟩ : Addr).block]? = w4.heap[Bw]? from hnk Bw (lt_cell hcell)]
       exact hx
     obtain ⟨bz, hbz⟩ : ∃ bz, wn.heap.size = bz := ⟨_, rfl⟩
     have Hz := Lib.hid (hbz.symm.trans hsz)
     have hbw : Bw < wn.heap.size := by
       rw [hsz]
       exact Nat.lt_of_lt_of_le (lt_cell hcell) hbel.size
     clear hsz
     go_wp2
     have hz1 : (wn.alloc (.cells #[.string sv] 425)).cell? ⟨Bw, p + i, none⟩ = some (.string sv) := (World.cell?_alloc_past _ _ _ hbw).trans hcl
     have hz2 : (wn.alloc (.cells #[.string sv] 425)).cell? ⟨bz, 0, none⟩ = some (.string sv) := by
       rw [← hbz]
       exact cell_at (Go.heap_alloc_new ..) rfl
     have hil' : (i : Int) < (len : Int) := by omega
     generalize hwz : wn.alloc (.cells #[.string sv] 425) = wz at hz1 hz2 ⊢
     go_region
     go_wp2_with fail
     go_roundw
     case rel =>
       refine ⟨seen.push e.born, ?_, ?_⟩
       · show wz.heap[it]? = _
         rw [← hwz]
         rw [Go.heap_alloc_old _ _ (by have := Hz.out; rw [hah] at hitlt; omega)]
         exact hnr
       · rw [← hwz]
         exact (hbn.alloc hbn.size _).drew
     case measure =>
       have e1 : wz.drew.iterSeen it = seen.push e.born := by
         unfold World.iterSeen
         rw [show wz.drew.heap[it]? = some (.mapIter (some B) cl (seen.push e.born) cl) by
           show wz.heap[it]? = _
           rw [← hwz, Go.heap_alloc_old _ _ (by have := Hz.out; rw [hah] at hitlt; omega)]
           exact hnr]
       have e2 : wr.iterSeen it = seen := by
         unfold World.iterSeen
         rw [hr]
       rw [e1, e2]
       exact left_shrinks es seen e he
set_option maxRecDepth 100000 in
set_option maxHeartbeats 4000000 in
theorem found_walk1 {a1 a2 : Int} {hv ps : Value} {w : World} {Q : Value → World → Prop} (x : Nat)
   (h1 : Calls Tryz.prog 315 #[.agg #[.int .i64 a1, .int .i64 a2], hv, ps] (w.alloc (.cells #[.int .i64 a1, .int .i64 a2] 25)) fun e w1 => ∃ mv, e = .returned (.tuple #[mv, .int .i64 ((x + 1 : Nat) : Int)]) ∧ Q (.tuple #[.string ⟨#[]⟩, .slice none 0 0, .int .i64 ((x + 1 : Nat) : Int)]) w1) :
   Calls Tryz.prog 253 #[.agg #[.int .i64 a1, .int .i64 a2], hv, ps] w fun e w' => ∃ v, e = .returned v ∧ Q v w' := by
 go_enter Tryz.func253, Tryz.ntmps253
 generalize hbx : w.heap.size = bx at h1
 go_wp2_with (go_at_call 315; refine h1.mono ?_)
 rintro e w1 ⟨mv, rfl, hQ⟩
 obtain ⟨y, hy⟩ : ∃ y : Int, y = ((x + 1 : Nat) : Int) := ⟨_, rfl⟩
 rw [← hy] at hQ ⊢
 have hne : (y == 0) = false := by rw [hy]; simp; omega
 have hne2 : ¬ (y = 0) := by omega
 clear hy
 go_wp2_with fail
 go_ret3
 exact ⟨_, rfl, hQ⟩
set_option maxRecDepth 100000 in
set_option maxHeartbeats 4000000 in
theorem found_walk2 {a1 a2 : Int} {hv ps : Value} {w : World} {Q : Value → World → Prop}
   (h1 : Calls Tryz.prog 315 #[.agg #[.int .i64 a1, .int .i64 a2], hv, ps] (w.alloc (.cells #[.int .i64 a1, .int .i64 a2] 25)) fun e w1 => ∃ mv, e = .returned (.tuple #[mv, .int .i64 0]) ∧ Box w.heap.size a1 a2 w1 ∧
     Calls Tryz.prog 316 #[.agg #[.int .i64 a1, .int .i64 a2], hv, ps] w1 fun e w2 => ∃ lv, e = .returned (.tuple #[lv, .bool false]) ∧ Q (.tuple #[.string ⟨#[]⟩, .slice none 0 0, .int .i64 4]) w2) :
   Calls Tryz.prog 253 #[.agg #[.int .i64 a1, .int .i64 a2], hv, ps] w fun e w' => ∃ v, e = .returned v ∧ Q v w' := by
 go_enter Tryz.func253, Tryz.ntmps253
 generalize hbx : w.heap.size = bx at h1
 go_wp2_with (go_at_call 315; refine h1.mono ?_)
 rintro e w1 ⟨mv, rfl, hb1, h2⟩
 obtain ⟨c0, c1⟩ := hb1.cells
 go_wp2_with (go_at_call 316; refine h2.mono ?_)
 rintro e w2 ⟨lv, rfl, hQ⟩
 go_wp2_with fail
 go_ret3
 exact ⟨_, rfl, hQ⟩
set_option maxRecDepth 100000 in
set_option maxHeartbeats 4000000 in
theorem found_walk3 {a1 a2 : Int} {hv ps : Value} {w : World} {Q : Value → World → Prop}
   (h1 : Calls Tryz.prog 315 #[.agg #[.int .i64 a1, .int .i64 a2], hv, ps] (w.alloc (.cells #[.int .i64 a1, .int .i64 a2] 25)) fun e w1 => ∃ mv, e = .returned (.tuple #[mv, .int .i64 0]) ∧ Box w.heap.size a1 a2 w1 ∧
     Calls Tryz.prog 316 #[.agg #[.int .i64 a1, .int .i64 a2], hv, ps] w1 fun e w2 => ∃ lv, e = .returned (.tuple #[lv, .bool true]) ∧ Box w.heap.size a1 a2 w2 ∧
     Calls Tryz.prog 317 #[.agg #[.int .i64 a1, .int .i64 a2], lv] w2 fun e w3 => ∃ s, e = .returned (.tuple #[s, .bool false]) ∧ Q (.tuple #[.string ⟨#[]⟩, .slice none 0 0, .int .i64 4]) w3) :
   Calls Tryz.prog 253 #[.agg #[.int .i64 a1, .int .i64 a2], hv, ps] w fun e w' => ∃ v, e = .returned v ∧ Q v w' := by
 go_enter Tryz.func253, Tryz.ntmps253
 generalize hbx : w.heap.size = bx at h1
 go_wp2_with (go_at_call 315; refine h1.mono ?_)
 rintro e w1 ⟨mv, rfl, hb1, h2⟩
 obtain ⟨c0, c1⟩ := hb1.cells
 go_wp2_with (go_at_call 316; refine h2.mono ?_)
 rintro e w2 ⟨lv, rfl, hb2, h3⟩
 obtain ⟨d0, d1⟩ := hb2.cells
 go_wp2_with (go_at_call 317; refine h3.mono ?_)
 rintro e w3 ⟨s, rfl, hQ⟩
 go_wp2_with fail
 go_ret3
 exact ⟨_, rfl, hQ⟩
theorem code_rel {a1 a2 : Int} (f : Inj) (u : Value) (h : VRel f (.agg [.int .i64 a1, .int .i64 a2]) u) : u = .agg #[.int .i64 a1, .int .i64 a2] := by
 obtain ⟨cs, rfl, x, xs, h1, hx, y, ys, rfl, hy, hn⟩ := h
 cases hn
 cases hx
 cases hy
 congr 1
 exact Array.toList_inj.1 h1
theorem code_back (a1 a2 : Int) (f : Inj) : VRel f (.agg [.int .i64 a1, .int .i64 a2]) (.agg #[.int .i64 a1, .int .i64 a2]) := ⟨_, rfl, _, _, rfl, rfl, _, _, rfl, rfl, rfl⟩
theorem three_args {a1 a2 : Int} {hv ps : AVal} {f : Inj} {us : Array Value} (hus : VRels f [.agg [.int .i64 a1, .int .i64 a2], hv, ps] us.toList) : ∃ u2 u3, us = #[.agg #[.int .i64 a1, .int .i64 a2], u2, u3] ∧ VRel f hv u2 ∧ VRel f ps u3 := by
 obtain ⟨u1, us1, hus1, hu1, hus2⟩ := hus
 obtain ⟨u2, us2, rfl, hu2, hus3⟩ := hus2
 obtain ⟨u3, us3, rfl, hu3, hnil⟩ := hus3
 cases hnil
 have e1 := code_rel f u1 hu1
 subst e1
 exact ⟨u2, u3, Array.toList_inj.1 hus1, hu2, hu3⟩
theorem two_tup {f : Inj} {a b : AVal} {v : Value} (h : VRel f (.tup [a, b]) v) : ∃ x y, v = .tuple #[x, y] ∧ VRel f a x ∧ VRel f b y := by
 obtain ⟨cs, rfl, x, xs, hx, ha, y, ys, rfl, hb, hn⟩ := h
 cases hn
 exact ⟨x, y, by congr 1; exact Array.toList_inj.1 hx, ha, hb⟩
theorem early_rel (f : Inj) (x : Int) : VRel f (.tup [.str 0 0, .slc0, .int .i64 x]) (.tuple #[.string ⟨#[]⟩, .slice none 0 0, .int .i64 x]) :=
 ⟨_, rfl, _, _, rfl, ⟨_, rfl, rfl, rfl⟩, _, _, rfl, rfl, _, _, rfl, rfl, rfl⟩
theorem entries_ready {f : Inj} {w : World} {c : T AVal} {d : AVal} {o len cl Bw p : Nat}
   (hcell : ∀ i, i < len → ∃ v, w.cell? ⟨Bw, p + i, none⟩ = some v ∧ VRel f (getCell c d (o + i)) v) : ∀ (es : List (AVal × AVal × Nat)) (es' : List MapEntry) (seen : List Nat), entriesF c d o len cl seen es = true → EntriesRel f es es' →
     (∀ e ∈ es', e.born < cl) ∧ (es'.map (·.born)).Nodup ∧ (∀ e ∈ es', ∃ (i : Nat) (s : ByteArray), e.key = .int .i64 (i : Int) ∧ e.val = .agg #[.string s] ∧ i < len ∧ w.cell? ⟨Bw, p + i, none⟩ = some (.string s)) ∧ ∀ e ∈ es', e.born ∉ seen
 | [], es', seen, h, hr => by cases hr; exact ⟨by simp, by simp, by simp, by simp⟩
 | e :: es, es', seen, h, hr => by
   obtain ⟨e', es'', rfl, ⟨hk, hv, hbn⟩, hr⟩ := hr
   rw [entriesF] at h
   simp only [Bool.and_eq_true, Bool.not_eq_true'] at h
   obtain ⟨h1, h2, h3⟩ := h
   obtain ⟨i1, i2, i3, i4⟩ := entries_ready hcell es es'' _ h3 hr
   have hns : e'.born ∉ seen := by
     intro hm
     rw [← hbn] at hm
     rw [(memB_iff _ _).2 hm] at h2
     cases h2
   unfold entryF at h1
   split at h1
   case h_2 => cases h1
   rename_i i n x born
   split at h1
   case h_2 => cases h1
   rename_i hc
   simp only [Bool.and_eq_true, Nat.ble_eq] at hc
   obtain ⟨hil, hbl⟩ := hc
   split at h1
   case h_2 => cases h1
   rename_i m y hg
   simp only [Bool.and_eq_true, Nat.beq_eq] at h1
   obtain ⟨rfl, rfl⟩ := h1
   have hbn : born = e'.born := hbn
   have hk : e'.key = .int .i64 (.ofNat i) := hk
   obtain ⟨cs, hcs, u, us, hul, ⟨s, rfl, hs⟩, hnil⟩ := hv
   cases hnil
   obtain ⟨v, hvc, hvr⟩ := hcell i hil
   rw [show getCell c d (o + i) = getCell c d (Nat.add o i) from rfl, hg] at hvr
   obtain ⟨s2, rfl, hs2⟩ := hvr
   have hss : s2 = s := by
     have h1 : s2.data.toList = s.data.toList := packL_inj (by rw [hs2.1, hs.1]) (by rw [hs2.2, hs.2])
     cases s2; cases s
     simp only [ByteArray.mk.injEq]
     exact Array.toList_inj.1 h1
   subst hss
   refine ⟨?_, ?_, ?_, ?_⟩
   · intro e he
     cases he with
     | head => omega
     | tail _ he => exact i1 e he
   · rw [List.map_cons, List.nodup_cons]
     refine ⟨fun hm => ?_, i2⟩
     obtain ⟨e2, he2, heq⟩ := List.mem_map.1 hm
     have := i4 e2 he2
     rw [heq] at this
     exact this (by show e'.born ∈ born :: seen; rw [hbn]; exact List.mem_cons_self ..)
   · intro e he
     cases he with
     | head => exact ⟨i, s2, hk, by rw [hcs]; congr 1; exact Array.toList_inj.1 hul, hil, hvc⟩
     | tail _ he => exact i3 e he
   · intro e he
     cases he with
     | head => exact hns
     | tail _ he => exact fun hm => i4 e he (List.mem_cons_of_mem _ hm)
theorem found_ok {W : World} {G : Nat} {C : Cfg Unit} {n : Nat} (hC : CfgOk ⟨Tryz.prog, compC Tryz.prog G, G, W⟩ Unit C) (g1 : C.orc.get 315 = none) (g2 : C.orc.get 316 = none) (g3 : C.orc.get 317 = none) (g4 : C.orc.get 279 = none) :
   FuncOk ⟨Tryz.prog, compC Tryz.prog G, G, W⟩ Unit 253 (foundO (fcallF C (fexec C n))) := by
 have hcall : fcallF C (fexec C n) = callF C (exec C n) := by
   funext g args S K
   rw [fexec_eq, fcallF_eq]
 rw [hcall]
 intro args S K r h hok
 unfold foundO at h
 split at h
 case h_2 => cases h
 rename_i a1 a2 hv ps
 obtain ⟨v1, S1, h, hst1, hgo1⟩ := callF_calls hC n g1 h hok
 -- the start, in the machine
 have start : ∀ {M : Nat} {f : Inj} {w : World} {us : Array Value}, Sim ⟨Tryz.prog, compC Tryz.prog G, G, W⟩ M f S.v w → S1.next ≤ M → VRels f [.agg [.int .i64 a1, .int .i64 a2], hv, ps] us.toList → ∃ u2 u3, us = #[.agg #[.int .i64 a1, .int .i64 a2], u2, u3] ∧ VRel f hv u2 ∧ VRel f ps u3 ∧
     Step ⟨Tryz.prog, compC Tryz.prog G, G, W⟩ M f S.v w f S.v (w.alloc (.cells #[.int .i64 a1, .int .i64 a2] 25)) ∧
     Calls Tryz.prog 315 #[.agg #[.int .i64 a1, .int .i64 a2], u2, u3] (w.alloc (.cells #[.int .i64 a1, .int .i64 a2] 25)) fun e w1 => ∃ v', e = .returned v' ∧ Box w.heap.size a1 a2 w1 ∧ w.heap.size < w1.heap.size ∧ ∃ f1, Step ⟨Tryz.prog, compC Tryz.prog G, G, W⟩ M f S.v (w.alloc (.cells #[.int .i64 a1, .int .i64 a2] 25)) f1 S1.v w1 ∧ (∀ b N, f1 b ≠ some (w.heap.size, N)) ∧ VRel f1 v1 v' := by
   intro M f w us hs hM1 hus
   obtain ⟨u2, u3, rfl, hu2, hu3⟩ := three_args hus
   have hb0 : Below w.heap.size w (w.alloc (.cells #[.int .i64 a1, .int .i64 a2] 25)) := (Below.refl _ _).alloc (Nat.le_refl _) _
   have hstep0 := Step.below hs hb0
   have hf0 : ∀ b N, f b ≠ some (w.heap.size, N) := fun b N hb => Nat.lt_irrefl _ (hs.lt b _ N hb)
   have hlt0 : w.heap.size < (w.alloc (.cells #[.int .i64 a1, .int .i64 a2] 25)).heap.size := by
     show w.heap.size < (w.heap.push _).size
     rw [Array.size_push]; omega
   have hbox0 : Box w.heap.size a1 a2 (w.alloc (.cells #[.int .i64 a1, .int .i64 a2] 25)) := Go.heap_alloc_new ..
   refine ⟨u2, u3, rfl, hu2, hu3, hstep0, (hgo1 M f _ #[.agg #[.int .i64 a1, .int .i64 a2], u2, u3] hstep0.sim hM1 ⟨_, _, rfl, code_back .., _, _, rfl, hu2, _, _, rfl, hu3, rfl⟩).mono ?_⟩
   rintro e w1 ⟨v1', rfl, f1, hstep1, hr1⟩
   exact ⟨v1', rfl, (hstep1.aside hlt0 hf0).trans hbox0, Nat.lt_of_lt_of_le hlt0 hstep1.size, f1, hstep1, hstep1.aside' hlt0 hf0, hr1⟩
 split at h
 case h_3 => cases h
 case h_1 =>
   rename_i x
   refine ⟨_, _, h, hst1, fun M f w us hs hM hus => ?_⟩
   obtain ⟨u2, u3, rfl, hu2, hu3, hstep0, hand⟩ := start hs hM hus
   refine goes_of_calls Tryz.func253 (by kernel_rfl) rfl ((found_walk1 (Q := OpPost _ M f S.v w (.tup [.str 0 0, .slc0, .int .i64 (.ofNat (x + 1))]) S1.v) x (hand.mono ?_)).mono fun e w' ⟨v, he, hq⟩ => ⟨v, he, hq⟩)
   rintro e w1 ⟨v', rfl, _, _, f1, hstep1, _, hr⟩
   obtain ⟨mv, y, rfl, hmv, hy⟩ := two_tup hr
   cases hy
   exact ⟨mv, rfl, f1, hstep0.trans hstep1, early_rel ..⟩
 rename_i b
 obtain ⟨v2, S2, h, hst2, hgo2⟩ := callF_calls hC n g2 h (hst1.ok hok)
 have second : ∀ {M : Nat} {f1 : Inj} {bx : Nat} {w1 : World} {u2 u3 : Value}, Step ⟨Tryz.prog, compC Tryz.prog G, G, W⟩ M f1 S1.v w1 f1 S1.v w1 → S2.next ≤ M → VRel f1 hv u2 → VRel f1 ps u3 → Box bx a1 a2 w1 → bx < w1.heap.size → (∀ b N, f1 b ≠ some (bx, N)) →
     Calls Tryz.prog 316 #[.agg #[.int .i64 a1, .int .i64 a2], u2, u3] w1 fun e w2 => ∃ v', e = .returned v' ∧ Box bx a1 a2 w2 ∧ bx < w2.heap.size ∧ ∃ f2, Step ⟨Tryz.prog, compC Tryz.prog G, G, W⟩ M f1 S1.v w1 f2 S2.v w2 ∧ (∀ b N, f2 b ≠ some (bx, N)) ∧ VRel f2 v2 v' := by
   intro M f1 bx w1 u2 u3 hstep hM2 hu2 hu3 hbox hlt hf
   refine (hgo2 M f1 w1 #[.agg #[.int .i64 a1, .int .i64 a2], u2, u3] hstep.sim hM2 ⟨_, _, rfl, code_back .., _, _, rfl, hu2, _, _, rfl, hu3, rfl⟩).mono ?_
   rintro e w2 ⟨v', rfl, f2, hstep2, hr⟩
   exact ⟨v', rfl, (hstep2.aside hlt hf).trans hbox, Nat.lt_of_lt_of_le hlt hstep2.size, f2, hstep2, hstep2.aside' hlt hf, hr⟩
 split at h
 case h_3 => cases h
 case h_1 =>
   refine ⟨_, _, h, hst1.trans hst2, fun M f w us hs hM hus => ?_⟩
   have hM2 : S2.next ≤ M := hM
   have hM1 : S1.next ≤ M := Nat.le_trans hst2.next hM2
   obtain ⟨u2, u3, rfl, hu2, hu3, hstep0, hand⟩ := start hs hM1 hus
   refine goes_of_calls Tryz.func253 (by kernel_rfl) rfl ((found_walk2 (Q := OpPost _ M f S.v w (.tup [.str 0 0, .slc0, .int .i64 (.ofNat 4)]) S2.v) (hand.mono ?_)).mono fun e w' ⟨v, he, hq⟩ => ⟨v, he, hq⟩)
   rintro e w1 ⟨v', rfl, hbox1, hlt1, f1, hstep1, hf1, hr⟩
   obtain ⟨mv, y, rfl, hmv, hy⟩ := two_tup hr
   cases hy
   refine ⟨mv, rfl, hbox1, (second (.refl hstep1.sim) hM2 (hu2.mono hstep1.le) (hu3.mono hstep1.le) hbox1 hlt1 hf1).mono ?_⟩
   rintro e w2 ⟨v', rfl, _, _, f2, hstep2, _, hr⟩
   obtain ⟨lv, y, rfl, hlv, hy⟩ := two_tup hr
   cases hy
   exact ⟨lv, rfl, f2, hstep0.trans (hstep1.trans hstep2), early_rel ..⟩
 rename_i l
 obtain ⟨v3, S3, h, hst3, hgo3⟩ := callF_calls hC n g3 h (hst2.ok (hst1.ok hok))
 split at h
 case h_3 => cases h
 case h_1 =>
   refine ⟨_, _, h, hst1.trans (hst2.trans hst3), fun M f w us hs hM hus => ?_⟩
   have hM3 : S3.next ≤ M := hM
   have hM2 : S2.next ≤ M := Nat.le_trans hst3.next hM3
   have hM1 : S1.next ≤ M := Nat.le_trans hst2.next hM2
   obtain ⟨u2, u3, rfl, hu2, hu3, hstep0, hand⟩ := start hs hM1 hus
   refine goes_of_calls Tryz.func253 (by kernel_rfl) rfl ((found_walk3 (Q := OpPost _ M f S.v w (.tup [.str 0 0, .slc0, .int .i64 (.ofNat 4)]) S3.v) (hand.mono ?_)).mono fun e w' ⟨v, he, hq⟩ => ⟨v, he, hq⟩)
   rintro e w1 ⟨v', rfl, hbox1, hlt1, f1, hstep1, hf1, hr⟩
   obtain ⟨mv, y, rfl, hmv, hy⟩ := two_tup hr
   cases hy
   refine ⟨mv, rfl, hbox1, (second (.refl hstep1.sim) hM2 (hu2.mono hstep1.le) (hu3.mono hstep1.le) hbox1 hlt1 hf1).mono ?_⟩
   rintro e w2 ⟨v', rfl, hbox2, hlt2, f2, hstep2, hf2, hr⟩
   obtain ⟨lv, y, rfl, hlv, hy⟩ := two_tup hr
   cases hy
   refine ⟨lv, rfl, hbox2, (hgo3 M f2 w2 #[.agg #[.int .i64 a1, .int .i64 a2], lv] hstep2.sim hM3 ⟨_, _, rfl, code_back .., _, _, rfl, hlv, rfl⟩).mono ?_⟩
   rintro e w3 ⟨v', rfl, f3, hstep3, hr⟩
   obtain ⟨sv, y, rfl, hsv, hy⟩ := two_tup hr
   cases hy
   exact ⟨sv, rfl, f3, hstep0.trans (hstep1.trans (hstep2.trans hstep3)), early_rel ..⟩
 rename_i sn sx
 obtain ⟨v4, S4, h, hst4, hgo4⟩ := callF_calls hC n g4 h (hst3.ok (hst2.ok (hst1.ok hok)))
 split at h
 case h_2 => cases h
 rename_i bw ow len
 split at h
 case h_2 => cases h
 rename_i es cl hgm
 split at h
 case h_2 => cases h
 rename_i c d k wr e hgw
 split at h
 case h_2 => cases h
 rename_i hc
 rw [Bool.and_eq_true, Nat.ble_eq] at hc
 obtain ⟨hk, hes⟩ := hc
 refine ⟨_, _, h, hst1.trans (hst2.trans (hst3.trans hst4)), fun M f w us hs hM hus => ?_⟩
 have hM3 : S3.next ≤ M := Nat.le_trans hst4.next hM
 have hM2 : S2.next ≤ M := Nat.le_trans hst3.next hM3
 have hM1 : S1.next ≤ M := Nat.le_trans hst2.next hM2
 obtain ⟨u2, u3, rfl, hu2, hu3, hstep0, hand⟩ := start hs hM1 hus
 refine goes_of_calls Tryz.func253 (by kernel_rfl) rfl ((found_walk (Q := OpPost _ M f S.v w (.tup [.str sn sx, .slc bw ow len 1, .int .i64 (.ofNat 0)]) S4.v) (hand.mono ?_)).mono fun e w' ⟨v, he, hq⟩ => ⟨v, he, hq⟩)
 rintro e w1 ⟨v', rfl, hbox1, hlt1, f1, hstep1, hf1, hr⟩
 obtain ⟨mv, y, rfl, ⟨B, N, hfb, rfl⟩, hy⟩ := two_tup hr
 cases hy
 refine ⟨B, rfl, hbox1, (second (.refl hstep1.sim) hM2 (hu2.mono hstep1.le) (hu3.mono hstep1.le) hbox1 hlt1 hf1).mono ?_⟩
 rintro e w2 ⟨v', rfl, hbox2, hlt2, f2, hstep2, hf2, hr⟩
 obtain ⟨lv, y, rfl, hlv, hy⟩ := two_tup hr
 cases hy
 refine ⟨lv, rfl, hbox2, (hgo3 M f2 w2 #[.agg #[.int .i64 a1, .int .i64 a2], lv] hstep2.sim hM3 ⟨_, _, rfl, code_back .., _, _, rfl, hlv, rfl⟩).mono ?_⟩
 rintro e w3 ⟨v', rfl, f3, hstep3, hr⟩
 obtain ⟨sv, y, rfl, ⟨s, rfl, hss⟩, hy⟩ := two_tup hr
 cases hy
 have hbox3 : Box w.heap.size a1 a2 w3 := (hstep3.aside hlt2 hf2).trans hbox2
 refine ⟨s, rfl, hbox3, (hgo4 M f3 w3 #[.agg #[.int .i64 a1, .int .i64 a2], lv] hstep3.sim hM ⟨_, _, rfl, code_back .., _, _, rfl, hlv.mono hstep3.le, rfl⟩).mono ?_⟩
 rintro e w4 ⟨v4', rfl, f4, hstep4, Bw, Nw, cap, p, hfw, hcap, hroom, hpo, rfl⟩
 have hfb4 := hstep4.le _ _ (hstep3.le _ _ (hstep2.le _ _ hfb))
 obtain ⟨om, hom, es', hes', hrel⟩ := hstep4.sim.blk b _ hgm B N hfb4
 subst hes'
 obtain ⟨ow', how, cs, lo, hi, how', hsz, hn, hfz, hcell⟩ := hstep4.sim.blk bw _ hgw Bw Nw hfw
 subst how'
 have hp : ∀ i, i < len → p = ow := fun i hi => by
   rcases hpo with h1 | h1
   · exact h1
   · omega
 obtain ⟨r1, r2, r3, _⟩ := entries_ready (f := f4) (w := w4) (c := c) (d := d) (o := ow) (len := len) (cl := cl) (Bw := Bw) (p := p) (fun i hi => by
   have := hp i hi
   subst this
   have hk : p + len ≤ k := hk
   obtain ⟨v, hv, hr⟩ := hcell (p + i) (by omega)
   exact ⟨v, cell_at how hv, hr⟩) es es'.toList [] hes hrel
 exact ⟨Bw, p, len, cap, es', cl, rfl, ⟨hom, r1, r2, r3⟩, fun w' hbw => ⟨f4, hstep0.trans (hstep1.trans (hstep2.trans (hstep3.trans (hstep4.trans (Step.below hstep4.sim hbw))))), _, rfl, _, _, rfl, ⟨s, rfl, hss.1, hss.2⟩, _, _, rfl, ⟨Bw, Nw, cap, p, hfw, hcap, hroom, hpo, rfl⟩, _, _, rfl, rfl, rfl⟩⟩
end Abs
end Go.Proofs.YtfkchheildfkpaaGreatDoor.Refl
