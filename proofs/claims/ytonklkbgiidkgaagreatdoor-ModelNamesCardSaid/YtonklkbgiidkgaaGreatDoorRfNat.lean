/-
 Oracles of the interpreter: the library's functions that are not run by it: a Builder's check, a map's clone; and what makes an oracle out of a contract over texts.
-/
import Derived.Test.YtonklkbgiidkgaaGreatDoorRfD
import Derived.Test.YtonklkbgiidkgaaGreatDoorProg
import Derived.WalkKit
import Derived.Lib.Builder
import Derived.Lib.FrozenHead2
import Derived.Laws.Externs
namespace Go.Proofs.YtonklkbgiidkgaaGreatDoor.Refl
open Go Go.RowKit
namespace Abs
set_option linter.unusedVariables false
set_option linter.unusedSimpArgs false
theorem func_below {E : Env} {R : Type} {g : Nat} {o : List AVal → AState → KV R → Option R} {val : List AVal → Option AVal} (ho : ∀ args S K r, o args S K = some r → ∃ v, val args = some v ∧ K v S = some r)
   (h : ∀ (args : List AVal) (v : AVal), val args = some v → ∀ (f : Inj) (w : World) (us : Array Value), VRels f args us.toList → Goes E.P ((callFunc g us).run E.P w) fun v' w' => Below w.heap.size w w' ∧ VRel f v v') : FuncOk E R g o := by
 intro args S K r hr hok
 obtain ⟨v, hv, hK⟩ := ho args S K r hr
 exact ⟨v, S, hK, .refl _, fun M f w us hs hM hus => (h args v hv f w us hus).mono fun v' w' ⟨hb, hr⟩ => ⟨f, Step.below hs hb, hr⟩⟩
/-! texts of texts -/
def bytesN (n x : Nat) : List UInt8 := (List.range n).map fun i => UInt8.ofNat (byteAt n x i)
theorem bytesN_eq {n x : Nat} {s : ByteArray} (h : StrRel n x s) : bytesN n x = s.data.toList := by
 refine List.ext_getElem? fun i => ?_
 unfold bytesN
 rw [List.getElem?_map]
 by_cases hi : i < n
 · obtain ⟨b, hb, he⟩ := byteAt_rel h hi
   rw [hb, List.getElem?_range hi]
   simp [he]
 · rw [List.getElem?_eq_none (by simp; omega), List.getElem?_eq_none (by rw [h.1]; omega)]; rfl
noncomputable def textO (F : Nat → Nat → Nat) (m : Nat → Nat) (args : List AVal) (S : AState) (K : KV Unit) : Option Unit := match args with
 | [.str n x] => match Nat.ble n 70368744177664 with
   | true => fN (m n) fun l => fN (F n x) fun y => K (.str l y) S
   | false => none
 | _ => none
theorem textO_ok {E : Env} {g : Nat} {Fn : Func} {code : Code} (hf : E.P.funcs[g]? = some Fn) (hn : (Fn.name == "runtime.NumGoroutine") = false) (hb : Fn.body = some code) {F : Nat → Nat → Nat} {m : Nat → Nat} {L : List UInt8 → List UInt8}
   (hF : ∀ n x, F n x = packL (L (bytesN n x))) (hm : ∀ l, (L l).length = m l.length)
   (hc : ∀ (s : ByteArray), s.size ≤ 70368744177664 → ∀ w : World, Calls E.P g #[.string s] w fun e w' => e = .returned (.string ⟨(L s.data.toList).toArray⟩) ∧ Below w.heap.size w w') : FuncOk E Unit g (textO F m) := by
 refine func_below (val := fun args => match args with
   | [.str n x] => match Nat.ble n 70368744177664 with | true => some (.str (m n) (F n x)) | false => none
   | _ => none) ?_ ?_
 · intro args S K r h
   unfold textO at h
   split at h
   · split at h
     · rename_i hle
       rw [fN_eq, fN_eq] at h
       refine ⟨.str (m _) (F _ _), ?_, h⟩
       simp only [hle]
     · cases h
   · cases h
 · intro args v hv f w us hus
   split at hv
   case h_2 => cases hv
   rename_i n x
   split at hv <;> cases hv
   rename_i hle
   rw [Nat.ble_eq] at hle
   obtain ⟨u, us', hus', ⟨s, rfl, hs⟩, hnil⟩ := hus
   cases hnil
   have hsz : s.size ≤ 70368744177664 := by
     have h1 : s.data.toList.length = n := hs.1
     have h2 : s.size = n := by rw [← h1]; simp
     omega
   have hus2 : us = #[.string s] := by
     have := congrArg List.toArray hus'
     simpa using this
   subst hus2
   refine goes_of_calls hf hn hb ((hc s hsz w).mono fun e w' ⟨he, hbl⟩ => ⟨_, he, hbl, _, rfl, ?_, ?_⟩)
   · show (L s.data.toList).length = m n
     rw [hm, hs.1]
   · show packL (L s.data.toList) = F n x
     rw [hF, bytesN_eq hs]
/-! a Builder's check -/
section
theorem lies_any (c : Nat) (hc : 1 ≤ c) : liesAt Tryz.prog Tryz.prog.depth 167 c 0 167 1 = true := by
 have hb : Nat.ble 1 Tryz.prog.depth = true := by kernel_rfl
 rw [Nat.ble_eq] at hb
 obtain ⟨d, hd⟩ : ∃ d, Tryz.prog.depth = d + 1 := ⟨Tryz.prog.depth - 1, by omega⟩
 have h2 : Tryz.prog.cellsOf 167 = 2 := by kernel_rfl
 have hl : sameLayout Tryz.prog Tryz.prog.depth 167 167 = true := by kernel_rfl
 rw [hd] at hl ⊢
 unfold liesAt
 rw [hd, Bool.or_eq_true]
 left
 unfold rowAt
 rw [h2]
 simp [hl]
 left
 omega
set_option maxRecDepth 100000 in
set_option maxHeartbeats 1000000 in
theorem check_new (B : Nat) (cs : Array Value) (lo hi : Nat) (w : World) (h : w.heap[B]? = some (.cells cs 167 (lo, hi))) (h0 : cs[0]? = some (.pointer none)) (h2 : 2 ≤ cs.size) (hfz : lo = hi ∨ cs.size ≤ lo) :
   Calls Tryz.prog 166 #[.pointer (some ⟨B, 0, none⟩)] w fun e w' => e = .returned (.tuple #[]) ∧ w' = w.setCell ⟨B, 0, none⟩ (.pointer (some ⟨B, 0, none⟩)) := by
 obtain ⟨j, hj, hjs⟩ : ∃ j, Tryz.prog.info? 167 = some j ∧ j.size = 2 := by
   have : (Tryz.prog.info? 167).map (·.size) = some 2 := by kernel_rfl
   obtain ⟨j, h1, h2⟩ := Option.map_eq_some_iff.1 this
   exact ⟨j, h1, h2⟩
 have h0 := cell_at (w := w) h h0
 have hf : w.frozen? ⟨B, 0, none⟩ = false := by
   simp only [World.frozen?, h]
   rw [← Bool.not_eq_true, Bool.and_eq_true, decide_eq_true_eq, decide_eq_true_eq]
   omega
 have hshape : w.shape? B = some (167, cs.size) := by simp [World.shape?, h, Obj.row?]
 go_enter Tryz.func166, Tryz.ntmps166
 go_wp2
 rw [Lib.run_to_unsafe w ⟨B, 0, none⟩ Tryz.underlying164 Tryz.underlying335 hj (by rw [hjs]; decide) hshape (by show 0 < cs.size; omega)]
 simp only [Result.andThen]
 rw [Oper.upon_value]
 go_wp2
 rw [run_callFunc_extern Tryz.func230 (by kernel_rfl) (by kernel_rfl) (by kernel_rfl) (e := Extern.AbiNoEscape.same) (by kernel_rfl), Lib.run_noEscape]
 simp only [Result.andThen]
 rw [Oper.upon_value]
 go_wp2
 rw [Lib.run_from_unsafe w ⟨B, 0, none⟩ Tryz.underlying335 Tryz.underlying164 hj hshape (lies_any _ (by rw [show Tryz.prog.cellsOf 167 = 2 by kernel_rfl]; omega))]
 simp only [Result.andThen]
 rw [Oper.upon_value]
 go_wp2
 go_end0
 exact ⟨rfl, rfl⟩
set_option maxRecDepth 100000 in
set_option maxHeartbeats 1000000 in
theorem check_old (B : Nat) (w : World) (h0 : w.cell? ⟨B, 0, none⟩ = some (.pointer (some ⟨B, 0, none⟩))) :
   Calls Tryz.prog 166 #[.pointer (some ⟨B, 0, none⟩)] w fun e w' => e = .returned (.tuple #[]) ∧ w' = w := by
 obtain ⟨j, hj, hjs⟩ : ∃ j, Tryz.prog.info? 167 = some j ∧ j.size = 2 := by
   have : (Tryz.prog.info? 167).map (·.size) = some 2 := by kernel_rfl
   obtain ⟨j, h1, h2⟩ := Option.map_eq_some_iff.1 this
   exact ⟨j, h1, h2⟩
 go_enter Tryz.func166, Tryz.ntmps166
 go_wp2
 rw [Lib.run_neq_ptr_same w _ Tryz.underlying164 hj]
 go_wp2
 go_end0
 exact ⟨rfl, rfl⟩
noncomputable def checkO (TB : Nat) (args : List AVal) (S : AState) (K : KV Unit) : Option Unit := match args with
 | [.ptr b o] => match S.heap.get b with
   | some (.cells c d n wr e) => match and (and wr (and (Nat.beq o 0) (Nat.beq e TB))) (and (Nat.ble 2 n) (and (small S.next) (small n))) with
     | true => match getCell c d 0 with
       | .ptr0 => fsetA 40 (.ptr b 0) c 0 fun c => writeS S b (.cells c d n true e) (K (.tup []))
       | .ptr b' o' => match and (Nat.beq b b') (Nat.beq o' 0) with
         | true => K (.tup []) S
         | false => none
       | _ => none
     | false => none
   | _ => none
 | _ => none
theorem check_ok {W : World} {G : Nat} : FuncOk ⟨Tryz.prog, compC Tryz.prog G, G, W⟩ Unit 166 (checkO 167) := by
 intro args S K r h hok
 unfold checkO at h
 split at h
 case h_2 => cases h
 rename_i b o
 split at h
 case h_2 => cases h
 rename_i c d n wr e hg
 split at h
 case h_2 => cases h
 rename_i hc
 simp only [Bool.and_eq_true, Nat.beq_eq, Nat.ble_eq] at hc
 obtain ⟨⟨rfl, rfl, rfl⟩, h2, hsm, hsmn⟩ := hc
 have hsm := small_lt hsm
 have hsmn := small_lt hsmn
 have goes : ∀ {us : Array Value} {w : World} {Q : Value → World → Prop} {R : World → Prop}, Calls Tryz.prog 166 us w (fun e w' => e = .returned (.tuple #[]) ∧ R w') → (∀ w', R w' → Q (.tuple #[]) w') → Goes Tryz.prog ((callFunc 166 us).run Tryz.prog w) Q := by
   intro us w Q R hcall hq
   exact goes_of_calls Tryz.func166 (by kernel_rfl) rfl (hcall.mono fun e w' ⟨he, hr⟩ => ⟨_, he, hq w' hr⟩)
 split at h
 · -- not used yet
   rename_i h0
   rw [fsetA_eq, writeS_eq] at h
   refine ⟨_, _, h, AStep.write hg trivial, fun M f w us hs hM hus => ?_⟩
   obtain ⟨u, us', hus', ⟨B, N, hf, rfl⟩, hnil⟩ := hus
   cases hnil
   have hus2 : us = #[.pointer (some ⟨B, 0, none⟩)] := by
     have := congrArg List.toArray hus'
     simpa using this
   subst hus2
   obtain ⟨obj, hobj, cs, lo, hi, rfl, hsz, hn, hfz, hcell⟩ := hs.blk b _ hg B N hf
   have hfz := hfz rfl
   obtain ⟨v, hv, hr⟩ := hcell 0 (by omega)
   rw [h0] at hr
   have hr : v = .pointer none := hr
   subst hr
   refine goes (check_new B cs lo hi w hobj hv (by omega) (by omega)) ?_
   rintro w' rfl
   rw [setCell_at hobj]
   refine ⟨f, Step.write hs hsm hM hg rfl rfl hf rfl rfl rfl rfl ⟨_, lo, hi, rfl, by simpa using hsz, hn, fun _ => hfz, fun i hi2 => ?_⟩, ⟨#[], rfl, rfl⟩⟩
   by_cases hi0 : i = 0
   · subst hi0
     refine ⟨.pointer (some ⟨B, 0, none⟩), ?_, ?_⟩
     · rw [Array.getElem?_setIfInBounds_self, if_pos (by omega)]
     · rw [getCell_eq, T.get_put_same _ _ _ _ (by omega)]
       exact ⟨B, N, hf, rfl⟩
   · obtain ⟨v, hv, hr⟩ := hcell i hi2
     refine ⟨v, ?_, ?_⟩
     · rw [Array.getElem?_setIfInBounds_ne (Ne.symm hi0)]; exact hv
     · rw [getCell_eq, T.get_put_other _ _ _ _ _ (Ne.symm hi0), ← getCell_eq]; exact hr
 · -- used
   rename_i b' o' h0
   split at h
   case h_2 => cases h
   rename_i hb
   simp only [Bool.and_eq_true, Nat.beq_eq] at hb
   obtain ⟨rfl, rfl⟩ := hb
   refine ⟨_, _, h, .refl _, fun M f w us hs hM hus => ?_⟩
   obtain ⟨u, us', hus', ⟨B, N, hf, rfl⟩, hnil⟩ := hus
   cases hnil
   have hus2 : us = #[.pointer (some ⟨B, 0, none⟩)] := by
     have := congrArg List.toArray hus'
     simpa using this
   subst hus2
   obtain ⟨obj, hobj, cs, lo, hi, rfl, hsz, hn, hfz, hcell⟩ := hs.blk b _ hg B N hf
   obtain ⟨v, hv, hr⟩ := hcell 0 (by omega)
   rw [h0] at hr
   obtain ⟨B', N', hf', rfl⟩ := hr
   rw [hf] at hf'
   cases hf'
   refine goes (check_old B w (cell_at hobj hv)) ?_
   rintro w' rfl
   exact ⟨f, .refl hs, ⟨#[], rfl, rfl⟩⟩
 · cases h
/-! a map's clone -/
set_option maxRecDepth 100000 in
set_option maxHeartbeats 1000000 in
theorem clone_any (B : Nat) (es : Array MapEntry) (cl : Nat) (w : World) (h : w.heap[B]? = some (.map es cl)) :
   Calls Tryz.prog 54 #[.map (some B)] w fun e w' => e = .returned (.map (some w.heap.size)) ∧ w' = w.alloc (.map es cl) := by
 go_enter Tryz.func54, Tryz.ntmps54
 have hb : (binOp .eql 101 (.map (some B)) (.map none)).run Tryz.prog w = .ok (.bool false) w := by
   have hd : ∀ d : Nat, (Op.equalIn (d + 1) 101 (.map (some B)) (.map none)).run Tryz.prog w = .ok false w := fun d => by
     simp [Op.equalIn, run_underlying Tryz.underlying101]
   simp only [binOp]
   simp [Op.equal, Op.maxDepth, hd 9999]
 go_wp2
 rw [run_callFunc_extern Tryz.func81 (by kernel_rfl) (by kernel_rfl) (by kernel_rfl) (e := Extern.MapsClone.clone) (by kernel_rfl)]
 have hcl : (Extern.MapsClone.clone #[.iface 101 (.map (some B))]).run Tryz.prog w = .ok (.iface 101 (.map (some w.heap.size))) (w.alloc (.map es cl)) := by
   obtain ⟨msg, he⟩ : ∃ msg, Extern.MapsClone.clone #[.iface 101 (.map (some B))] = (do
       let .map entries clock ← getObj B | stuck msg
       pure (Value.iface 101 (.map (some (← newObj (.map entries clock)))))) := ⟨_, rfl⟩
   rw [he]
   simp only [Sem.run_bind, getObj, Sem.run, h, Result.andThen_ok, run_newObj]
   rfl
 rw [hcl]
 simp only [Result.andThen]
 rw [Oper.upon_value]
 have hta : ∀ xT : TypeId, (Instr.typeAssert (.iface 101 (.map (some w.heap.size))) xT 101 false).run Tryz.prog (w.alloc (.map es cl)) = .ok (.map (some w.heap.size)) (w.alloc (.map es cl)) := fun xT => by
   simp [Instr.typeAssert, run_underlying Tryz.underlying101, go_sem, Result.andThen]
 go_wp2
 go_ret
 exact ⟨rfl, rfl⟩
noncomputable def cloneO (args : List AVal) (S : AState) (K : KV Unit) : Option Unit := match args with
 | [.map b] => match S.heap.get b with
   | some (.map es cl) => allocS S (.map es cl) fun b S => K (.map b) S
   | _ => none
 | _ => none
theorem clone_ok {W : World} {G : Nat} : FuncOk ⟨Tryz.prog, compC Tryz.prog G, G, W⟩ Unit 54 cloneO := by
 intro args S K r h hok
 unfold cloneO at h
 split at h
 case h_2 => cases h
 rename_i b
 split at h
 case h_2 => cases h
 rename_i es cl hg
 obtain ⟨hsm, h⟩ := allocS_eq h
 refine ⟨_, _, h, AStep.alloc _ trivial, fun M f w us hs hM hus => ?_⟩
 obtain ⟨u, us', hus', ⟨B, N, hf, rfl⟩, hnil⟩ := hus
 cases hnil
 have hus2 : us = #[.map (some B)] := by
   have := congrArg List.toArray hus'
   simpa using this
 subst hus2
 obtain ⟨obj, hobj, hb⟩ := hs.blk b _ hg B N hf
 obtain ⟨es', rfl, hes⟩ := hb
 refine goes_of_calls Tryz.func54 (by kernel_rfl) rfl ((clone_any B es' cl w hobj).mono fun e w' ⟨he, hw⟩ => ⟨_, he, ?_⟩)
 subst hw
 have hstep := Step.alloc hs hsm (by have : S.next + 1 ≤ M := hM; omega) (blk := .map es cl) (obj := .map es' cl) (N := 0) (w' := w.alloc (.map es' cl)) rfl rfl rfl rfl (fun g hg _ => ⟨es', rfl, hes.mono hg⟩)
 exact ⟨_, hstep, w.heap.size, 0, upd_same .., rfl⟩
end
end Abs
end Go.Proofs.YtonklkbgiidkgaaGreatDoor.Refl
