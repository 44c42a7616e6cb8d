/-
 An oracle of the interpreter: shard.Make, which writes on behind a text that it has told.
-/
import Derived.Test.YtonklkbgiidkgaaGreatDoorRfSha
import Derived.Test.YtonklkbgiidkgaaGreatDoorShaMake
namespace Go.Proofs.YtonklkbgiidkgaaGreatDoor.Refl
open Go Go.RowKit
namespace Abs
set_option linter.unusedVariables false
set_option linter.unusedSimpArgs false
noncomputable def dataN (k n idx : Int) (dn dx pn px : Nat) : Nat := packL ((⟨k, n, idx, bytesN dn dx, bytesN pn px⟩ : Shd.Shard).data Shd.sumL)
def nameLenN (idx : Int) : Nat := match idx with
 | .ofNat i => match Nat.ble i 9 with | true => 66 | false => 67
 | _ => 0
noncomputable def nameN (dn dx : Nat) (idx : Int) : Nat := match idx with
 | .ofNat i => match Nat.ble i 9 with
   | true => Nat.add (Nat.mul (hexN dn dx) 65536) (Nat.add 11824 i)
   | false => Nat.add (Nat.mul (hexN dn dx) 16777216) (Nat.add 3027238 (Nat.add 0 i))
 | _ => 0
noncomputable def isStrK (n x : Nat) : KV Unit := fun v _ => match v with
 | .str m y => match and (Nat.beq n m) (Nat.beq x y) with
   | true => some ()
   | false => none
 | _ => none
noncomputable def makeO (call : Nat → List AVal → AState → KV Unit → Option Unit) (G : Nat) (args : List AVal) (S : AState) (K : KV Unit) : Option Unit := match args with
 | [.agg [.int .i64 k, .int .i64 n, .str dn dx, .int .i64 idx, .str pn px]] => match and (!(iLt k 1)) (and (!(iLt n k)) (and (!(iLt 12 n)) (and (Nat.beq dn 32) (and (!(iLt idx 0)) (and (iLt idx n) (Nat.ble pn 65461)))))) with
   | true => match call 278 [.str dn dx, .int .i64 idx] (startA .leaf G) (isStrK (nameLenN idx) (nameN dn dx idx)) with
     | some _ => fN (nameLenN idx) fun nn => fN (nameN dn dx idx) fun nx => fN (Nat.add 75 pn) fun l => fN (dataN k n idx dn dx pn px) fun y => K (.tup [.agg [.str nn nx, .str l y], .int .i64 (.ofNat 0)]) S
     | none => none
   | false => none
 | _ => none
noncomputable def bodyN (k n idx : Int) (dn dx pn px : Nat) : Nat := packL (⟨k, n, idx, bytesN dn dx, bytesN pn px⟩ : Shd.Shard).body
noncomputable def bodyLenN (k n idx : Int) (dn dx pn px : Nat) : Nat := (⟨k, n, idx, bytesN dn dx, bytesN pn px⟩ : Shd.Shard).body.length
noncomputable def makeOF (F : Nat → Nat → Nat) (call : Nat → List AVal → AState → KV Unit → Option Unit) (G : Nat) (args : List AVal) (S : AState) (K : KV Unit) : Option Unit := match args with
 | [.agg [.int .i64 k, .int .i64 n, .str dn dx, .int .i64 idx, .str pn px]] => match and (!(iLt k 1)) (and (!(iLt n k)) (and (!(iLt 12 n)) (and (Nat.beq dn 32) (and (!(iLt idx 0)) (and (iLt idx n) (Nat.ble pn 65461)))))) with
   | true => match call 278 [.str dn dx, .int .i64 idx] (startA .leaf G) (isStrK (nameLenN idx) (nameN dn dx idx)) with
     | some _ => fN (nameLenN idx) fun nn => fN (nameN dn dx idx) fun nx => fN (Nat.add 75 pn) fun l => fN (bodyLenN k n idx dn dx pn px) fun m => fN (bodyN k n idx dn dx pn px) fun z => fN (F m z) fun d => fN (Nat.add (Nat.mul z 115792089237316195423570985008687907853269984665640564039457584007913129639936) d) fun y => K (.tup [.agg [.str nn nx, .str l y], .int .i64 (.ofNat 0)]) S
     | none => none
   | false => none
 | _ => none
theorem dataN_eq (k n idx : Int) (dn dx pn px : Nat) : Nat.add (Nat.mul (bodyN k n idx dn dx pn px) 115792089237316195423570985008687907853269984665640564039457584007913129639936) (sumN (bodyLenN k n idx dn dx pn px) (bodyN k n idx dn dx pn px)) = dataN k n idx dn dx pn px := by
 unfold dataN bodyN bodyLenN sumN
 generalize hs : (⟨k, n, idx, bytesN dn dx, bytesN pn px⟩ : Shd.Shard) = s
 have hb : bytesN s.body.length (packL s.body) = s.body := by
   have := bytesN_eq (n := s.body.length) (x := packL s.body) (s := ⟨s.body.toArray⟩) ⟨by simp, by simp⟩
   simpa using this
 rw [hb]
 unfold Shd.Shard.data
 rw [packL_append, Shd.sumL_len]
 rfl
theorem makeOF_eq {F : Nat → Nat → Nat} (hF : F = sumN) : makeOF F = makeO := by
 subst hF
 funext call G args S K
 unfold makeOF makeO
 split
 · split
   · split
     · simp only [fN_eq, dataN_eq]
     · rfl
   · rfl
 · rfl
theorem make_ok {W : World} {G : Nat} {C : Cfg Unit} {n : Nat} (hC : ∀ W, CfgOk ⟨Tryz.prog, compC Tryz.prog G, G, W⟩ Unit C) (hno : C.orc.get 278 = none) :
   FuncOk ⟨Tryz.prog, compC Tryz.prog G, G, W⟩ Unit 253 (makeO (fcallF C (fexec C n)) G) := by
 have hcall : fcallF C (fexec C n) = callF C (exec C n) := by
   funext g args S K
   rw [fexec_eq, fcallF_eq]
 rw [hcall]
 intro args S K r h hok
 unfold makeO at h
 split at h
 case h_2 => cases h
 rename_i k nn dn dx idx pn px
 split at h
 case h_2 => cases h
 rename_i hc
 simp only [Bool.and_eq_true, Bool.not_eq_true', iLt_eq, decide_eq_true_eq, decide_eq_false_iff_not, Nat.beq_eq, Nat.ble_eq] at hc
 obtain ⟨c1, c2, c3, rfl, c5, c6, c7⟩ := hc
 split at h
 case h_2 => cases h
 rename_i u hu
 rw [fN_eq, fN_eq, fN_eq, fN_eq] at h
 refine ⟨_, S, h, .refl _, fun M f w us hs hM hus => ?_⟩
 obtain ⟨u1, us1, hus1, ⟨cs, rfl, hcs⟩, hnil⟩ := hus
 cases hnil
 obtain ⟨x1, l1, e1, hx1, l2, l3, e2, hx2, hl⟩ := hcs
 obtain ⟨x3, l4, rfl, ⟨dig, rfl, hdig⟩, x4, l5, rfl, hx4, x5, l6, rfl, ⟨pay, rfl, hpay⟩, hnil⟩ := hl
 cases hnil
 subst e2
 cases hx1
 cases hx2
 cases hx4
 have hcs : cs = #[.int .i64 k, .int .i64 nn, .string dig, .int .i64 idx, .string pay] := Array.toList_inj.1 e1
 subst hcs
 have hus0 : us = #[.agg #[.int .i64 k, .int .i64 nn, .string dig, .int .i64 idx, .string pay]] := Array.toList_inj.1 hus1
 subst hus0
 have hdl : dig.data.toList.length = 32 := hdig.1
 have hpl : pay.data.toList.length = pn := hpay.1
 have hps : pay.size = pn := by rw [← hpl]; simp
 -- the name, as a text
 have name : ∀ w', Below w.heap.size w w' → ∃ nm, StrRel (nameLenN idx) (nameN 32 dx idx) nm ∧ Calls Tryz.prog 278 #[.string dig, .int .i64 idx] w' fun e w'' => e = .returned (.string nm) ∧ Below w'.heap.size w' w'' := by
   intro w' hb
   have hG : G ≤ w'.heap.size := Nat.le_trans hs.big_enough hb.size
   obtain ⟨v, S', hv, hgo⟩ := pure_calls (E := ⟨Tryz.prog, compC Tryz.prog G, G, w'⟩) (hC w') n hno hG hu
   have hv' : v = .str (nameLenN idx) (nameN 32 dx idx) := by
     unfold isStrK at hv
     split at hv
     · split at hv
       · rename_i hq
         simp only [Bool.and_eq_true, Nat.beq_eq] at hq
         rw [hq.1, hq.2]
       · cases hv
     · cases hv
   subst hv'
   have hcalls := hgo #[.string dig, .int .i64 idx] ⟨_, _, rfl, ⟨dig, rfl, hdig⟩, _, _, rfl, rfl, rfl⟩
   -- one text for all endings
   obtain ⟨nm, hnm⟩ : ∃ nm : ByteArray, StrRel (nameLenN idx) (nameN 32 dx idx) nm := by
     obtain ⟨e, w'', _, ⟨v', f', _, ⟨s, _, hs⟩, _⟩, _⟩ := hcalls []
     exact ⟨s, hs⟩
   refine ⟨nm, hnm, hcalls.mono ?_⟩
   rintro e w'' ⟨v', f', rfl, ⟨s, rfl, hs2⟩, hbl⟩
   have : s = nm := by
     have h1 : s.data.toList = nm.data.toList := packL_inj (by rw [hs2.1, hnm.1]) (by rw [hs2.2, hnm.2])
     cases s; cases nm
     simp only [ByteArray.mk.injEq]
     exact Array.toList_inj.1 h1
   subst this
   exact ⟨rfl, hbl⟩
 obtain ⟨nm, hnm, _⟩ := name w (.refl _ _)
 have name2 : ∀ w', Below w.heap.size w w' → Calls Tryz.prog 278 #[.string dig, .int .i64 idx] w' fun e w'' => e = .returned (.string nm) ∧ Below w'.heap.size w' w'' := by
   intro w' hb
   obtain ⟨nm2, hnm2, hcalls⟩ := name w' hb
   have : nm2 = nm := by
     have h1 : nm2.data.toList = nm.data.toList := packL_inj (by rw [hnm2.1, hnm.1]) (by rw [hnm2.2, hnm.2])
     cases nm2; cases nm
     simp only [ByteArray.mk.injEq]
     exact Array.toList_inj.1 h1
   rw [this] at hcalls
   exact hcalls
 refine goes_of_calls Tryz.func253 (by kernel_rfl) rfl ((Shd.make_by k nn idx dig pay nm ⟨by show 1 ≤ k; omega, by show k ≤ nn; omega, by show nn ≤ 12; omega, hdl, by show 0 ≤ idx; omega, by show idx < nn; omega⟩ (by omega) w name2).mono fun e w' ⟨he, hbl⟩ => ⟨_, he, f, Step.below hs hbl, ?_⟩)
 have hdat : StrRel (Nat.add 75 pn) (dataN k nn idx 32 dx pn px) ⟨((Shd.toS k nn dig idx pay).data Shd.sumL).toArray⟩ := by
   have h1 : Shd.toS k nn dig idx pay = ⟨k, nn, idx, bytesN 32 dx, bytesN pn px⟩ := by
     unfold Shd.toS
     rw [bytesN_eq hdig, bytesN_eq hpay]
   constructor
   · show ((Shd.toS k nn dig idx pay).data Shd.sumL).length = _
     rw [Shd.data_len (D := Shd.sumL) Shd.sumL_len _ hdl]
     show 75 + pay.data.toList.length = _
     rw [hpl]; rfl
   · show packL ((Shd.toS k nn dig idx pay).data Shd.sumL) = _
     rw [h1]; rfl
 exact ⟨_, rfl, _, _, rfl, ⟨_, rfl, _, _, rfl, ⟨nm, rfl, hnm⟩, _, _, rfl, ⟨_, rfl, hdat⟩, rfl⟩, _, _, rfl, rfl, rfl⟩
theorem makeOF_ok {W : World} {G : Nat} {C : Cfg Unit} {n : Nat} {F : Nat → Nat → Nat} (hF : F = sumN) (hC : ∀ W, CfgOk ⟨Tryz.prog, compC Tryz.prog G, G, W⟩ Unit C) (hno : C.orc.get 278 = none) :
   FuncOk ⟨Tryz.prog, compC Tryz.prog G, G, W⟩ Unit 253 (makeOF F (fcallF C (fexec C n)) G) := by
 rw [makeOF_eq hF]
 exact make_ok hC hno
end Abs
end Go.Proofs.YtonklkbgiidkgaaGreatDoor.Refl
