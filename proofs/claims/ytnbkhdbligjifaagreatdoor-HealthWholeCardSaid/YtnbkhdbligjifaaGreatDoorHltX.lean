/-
 The law HealthWhole: what its walk is told by.
-/
import Derived.Test.YtnbkhdbligjifaaGreatDoorHltW
import Derived.Test.YtnbkhdbligjifaaGreatDoorHltT
set_option linter.unusedVariables false
set_option linter.unusedSimpArgs false
namespace Go.Proofs.YtnbkhdbligjifaaGreatDoor
open Go Go.RowKit Vm
open scoped Classical
namespace Hlt
/-! ### objects of a store, whatever its number -/
noncomputable def objsZ (p : PW) (i : Int) : List POb := (p.keys i).map fun k => ((⟨k.toArray⟩ : ByteArray), gotB (p.st i.toNat).seen k)
theorem objsZ_has {p : PW} {i : Int} (h : p.has i = true) : objsZ p i = objsL p i.toNat := by
 have hi : ((i.toNat : Nat) : Int) = i := by
  simp only [PW.has, decide_eq_true_eq] at h
  omega
 unfold objsZ objsL
 rw [hi]
theorem objsZ_mem {p : PW} {i : Int} {o : POb} (h : o ∈ objsZ p i) : o ∈ (p.st i.toNat).seen := by
 unfold objsZ PW.keys at h
 split at h
 ·exact TMap.look_mem (mem_objs.1 h)
 ·simp at h
theorem objsZ_len {L n : Nat} {p : PW} (h : WFit L n p) (i : Int) : (objsZ p i).length ≤ L := by
 unfold objsZ PW.keys
 rw [List.length_map]
 split
 ·rw [keysOf_len]; exact (h.fits _).len
 ·exact Nat.zero_le _
theorem objsZ_ok {w : World} {b : Nat} {p : PW} {O : List Nat} (h : WAt w b p O) {L n : Nat} (hf : WFit L n p) (hL : L ≤ 1000) (i : Int) :
 Calls Tryz.prog 17 #[.pointer (some ⟨b, 0, none⟩), .int .i64 i] w fun e w' => ∃ v, e = .returned v ∧ ObjsAt w' 0 v (objsZ p i) ∧ Below w.heap.size w w' := by
 have hs := ((hf.fits i.toNat).ok hL).small
 refine (wobjects_any h i hs).mono ?_
 rintro e w' ⟨v, rfl, hv, hb⟩
 refine ⟨v, rfl, ?_, hb⟩
 rw [objsV_eq] at hv
 unfold ObjsAt
 have hl : (objsZ p i).length = (p.keys i).length := by unfold objsZ; simp
 rw [hl]
 refine ⟨hv.1, ?_⟩
 rcases hv.2 with h | ⟨g, cap, cur, fz, h1, h2, h3⟩
 ·exact .inl h
 ·exact .inr ⟨g, cap, cur, fz, h1, Nat.zero_le _, h3⟩
/-! ### while faults strike -/
structure WhP (k : Nat) (d s : ByteArray) (l : List Flt) (q : Nat) (rb : Bool) (p : PW) : Prop where
 safe : Safe k d s p
 room : rb = true → ∀ i, i < 3 → (p.st i).room = -1
 refuse : (∀ f ∈ l.take q, f.kind ≠ 6) → ∀ i, i < 3 → (p.st i).refuse = -1
section
variable {k : Nat} {d s : ByteArray} {l : List Flt} {q : Nat} {rb : Bool} {p : PW}
theorem WhP.zero (hN : Num k 3 d s) : WhP k d s l 0 true (filled (newP 3) k 3 d s 3) :=
 ⟨Safe.filled hN, fun _ i hi => by rw [filled_st _ _ _ _ _ hi]; rfl, fun _ i hi => by rw [filled_st _ _ _ _ _ hi]; rfl⟩
theorem WhP.skip (h : WhP k d s l q rb p) : WhP k d s l (q + 1) rb p := ⟨h.safe, h.room, fun hf => h.refuse fun f hm => hf f (List.mem_of_mem_take (by rw [List.take_take, Nat.min_eq_left (Nat.le_succ q)]; exact hm : f ∈ (l.take (q + 1)).take q))⟩
theorem WhP.struck (h : WhP k d s l q rb p) (hn : p.n = 3) (hq : q < l.length) {f : Flt} (hf : f = l[q]) (hF : forgedB (objsZ p f.store) (objsZ (p.struck f) f.store) = false) : WhP k d s l (q + 1) (rb && f.kind != 7) (p.struck f) := by
 have hhas : (p.struck f).has f.store = p.has f.store := by unfold PW.has; rw [struck_n]
 refine ⟨h.safe.struck hn f fun hh => by rw [objsZ_has hh, objsZ_has (hhas.trans hh)] at hF; exact hF, fun hr i hi => ?_, fun hl i hi => ?_⟩
 ·simp only [Bool.and_eq_true, bne_iff_ne, ne_eq] at hr
  rcases struck_st p f i with he | ⟨_, _, he⟩
  ·rw [he]; exact h.room hr.1 i hi
  ·rw [he, struck_room _ hr.2]; exact h.room hr.1 i hi
 ·rw [List.take_succ_eq_append_getElem hq] at hl
  have h1 := h.refuse (fun f hm => hl f (List.mem_append.2 (.inl hm))) i hi
  have h2 := hl f (List.mem_append.2 (.inr (by rw [hf]; simp)))
  rcases struck_st p f i with he | ⟨_, _, he⟩
  ·rw [he]; exact h1
  ·rw [he, struck_refuse _ h2]; exact h1
end
theorem cnt_marks (f : Nat → Bool) : (((List.range 3).map f).filter id).length = ((List.range 3).filter f).length := by
 rw [List.filter_map, List.length_map]
 rfl
structure WhF (k : Nat) (d : ByteArray) (l : List Flt) (rb : Bool) (p p7 : PW) (cb ca mm : Nat) (me : Int) : Prop where
 sum : ca = cb + mm
 le : ca ≤ 3
 ok : me = 0 ↔ ca = 3
 kept : ∀ i, i < 3 → snd p k 3 d i = true → snd p7 k 3 d i = true
 few : cb < k → me = 54 ∧ mm = 0
 errs : k ≤ cb → me = 0 ∨ me = 52 ∨ me = 53
 free : k ≤ cb → rb = true → (∀ i, i < 3 → (p.st i).down = false) → (∀ f ∈ l, f.kind ≠ 6) → me = 0
 last : me = 0 → k ≤ cb → ∀ (q : Nat) (ls : List (List Int)), cntS ((PW.adv p7 q).crashed ls) k 3 d = 3
theorem whole_facts {k : Nat} {d s : ByteArray} {l : List Flt} {rb : Bool} {p : PW} (h : WhP k d s l l.length rb p) (hN : Num k 3 d s) (hd : d = ⟨(Shd.sumL s.data.toList).toArray⟩) (hc : Calm p) (hn : p.n = 3) (m : Nat) :
 WhF k d l rb p (mendR (PW.adv p m) k 3 d).2.2 (cntS p k 3 d) (cntS (mendR (PW.adv p m) k 3 d).2.2 k 3 d) (mendR (PW.adv p m) k 3 d).1 (mendR (PW.adv p m) k 3 d).2.1 := by
 have ha := adv_calm hc m
 have han : (PW.adv p m).n = 3 := (adv_st p m).1.trans hn
 have hst := (adv_st p m).2.1
 have hS := h.safe.adv m
 have hcl := hS.clean ha han
 have hks := hN.ks
 have hsn : ∀ i, i < 3 → snd (PW.adv p m) k 3 d i = snd p k 3 d i := fun i hi => by
  unfold snd
  rw [gotAt_st ha (by omega), gotAt_st hc (by omega), hst]
 have hcn : cntS (PW.adv p m) k 3 d = cntS p k 3 d := cntS_adv hc m
 by_cases h0 : cntS p k 3 d < k
 ·have hm := mend_few hN (by rw [hcn]; exact h0)
  rw [hm]
  have h2 : cntS (PW.adv (PW.adv p m) 3) k 3 d = cntS p k 3 d := (cntS_adv ha 3).trans hcn
  have hs2 : ∀ i, i < 3 → snd (PW.adv (PW.adv p m) 3) k 3 d i = snd p k 3 d i := fun i hi => by
   rw [← hsn i hi]
   unfold snd
   rw [gotAt_st (adv_calm ha 3) (by rw [(adv_st _ 3).1]; omega), gotAt_st ha (by omega), (adv_st _ 3).2.1]
  exact ⟨h2, by rw [h2]; omega, by rw [h2]; simp; omega, fun i hi hs => by rw [hs2 i hi]; exact hs, fun _ => ⟨rfl, rfl⟩, fun h => by omega, fun h => by omega, fun h => by simp at h⟩
 ·have hm := mend_full hN hd (allTurn3 k hks.1) ha han hcl (by rw [hcn]; omega)
  generalize (mendR (PW.adv p m) k 3 d).1 = mm at *
  generalize (mendR (PW.adv p m) k 3 d).2.1 = me at *
  generalize (mendR (PW.adv p m) k 3 d).2.2 = p7 at *
  have hcnt := hm.cnt hN ha han
  rw [hcn] at hcnt
  have hgot := fun i (hi : i < 3) => (hm.got hN ha han hi).1
  refine ⟨hcnt, cntS_le, ?_, fun i hi hs => by rw [hgot i hi, hsn i hi, hs]; rfl, fun h => absurd h h0, fun _ => hm.e3, fun _ hr hu hf => ?_, fun he _ q ls => hm.crash hN hS ha han he ls⟩
  ·rw [hm.e_, cntS_all]
   constructor
   ·intro hx i hi
    rw [hgot i hi]
    cases hs : snd (PW.adv p m) k 3 d i
    ·simp [hx i hi hs]
    ·rfl
   ·intro hx i hi hs
    have := hx i hi
    rw [hgot i hi, hs] at this
    simpa using this
  ·rw [hm.e_]
   intro i hi hs
   refine eOf_well hN ha han hi ⟨?_, ?_, ?_⟩
   ·rw [hst]; exact hu i hi
   ·rw [hst]; exact h.refuse (fun f hm => hf f (List.mem_of_mem_take hm)) i hi
   ·rw [hst]; exact h.room hr i hi
end Hlt
end Go.Proofs.YtnbkhdbligjifaaGreatDoor
