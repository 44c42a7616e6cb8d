/-
 An oracle of the interpreter: where a byte stands in a text.
-/
import Derived.Test.YtonklkbgiidkgaaGreatDoorRfNat
import Derived.Lib.Bytealg
import Derived.Test.YtonklkbgiidkgaaGreatDoorShelf
namespace Go.Proofs.YtonklkbgiidkgaaGreatDoor.Refl
open Go Go.RowKit
namespace Abs
set_option linter.unusedVariables false
def IndexLaw (P : Program) (g : Nat) : Prop := ∀ (s : ByteArray) (c : Int) (w : World), Calls P g #[.string s, .int .u8 c] w fun e w' => e = .returned (.int .i64 (Lib.indexByte s.data.toList c.toNat.toUInt8)) ∧ w' = w
noncomputable def indexF (n x c : Nat) : Nat → Nat → Nat
 | 0, i => i
 | k + 1, i => match Nat.beq (byteAt n x i) c with
   | true => i
   | false => indexF n x c k (Nat.succ i)
theorem indexF_ok {n x c : Nat} {s : ByteArray} (hs : StrRel n x s) (hc : c ≤ 255) : ∀ (k i : Nat), i + k = n →
   (indexF n x c k i = n ∧ Lib.indexByte (s.data.toList.drop i) c.toUInt8 = -1) ∨ (i ≤ indexF n x c k i ∧ indexF n x c k i < n ∧ Lib.indexByte (s.data.toList.drop i) c.toUInt8 = ((indexF n x c k i - i : Nat) : Int))
 | 0, i, h => by
   left
   refine ⟨by rw [indexF]; omega, ?_⟩
   rw [List.drop_eq_nil_of_le (by rw [hs.1]; omega)]
   rfl
 | k + 1, i, h => by
   obtain ⟨b, hb, hba⟩ := byteAt_rel hs (i := i) (by omega)
   have hlt : i < s.data.toList.length := by rw [hs.1]; omega
   have hb' : s.data.toList[i] = b := by
     rw [List.getElem?_eq_getElem hlt] at hb
     exact Option.some.inj hb
   rw [List.drop_eq_getElem_cons hlt, hb', indexF, hba]
   have hcb : (b == c.toUInt8) = Nat.beq b.toNat c := by
     have h2 : c.toUInt8.toNat = c := by
       show (UInt8.ofNat c).toNat = c
       rw [UInt8.toNat_ofNat']
       omega
     rw [Bool.eq_iff_iff, Nat.beq_eq, beq_iff_eq, ← UInt8.toNat_inj, h2]
   rw [Lib.indexByte, hcb]
   cases hq : Nat.beq b.toNat c with
   | true =>
     right
     refine ⟨Nat.le_refl _, by show i < n; omega, ?_⟩
     simp
   | false =>
     show (indexF n x c k (Nat.succ i) = n ∧ _) ∨ (i ≤ indexF n x c k (Nat.succ i) ∧ indexF n x c k (Nat.succ i) < n ∧ _ = ((indexF n x c k (Nat.succ i) - i : Nat) : Int))
     rcases indexF_ok hs hc k (Nat.succ i) (by omega) with ⟨h1, h2⟩ | ⟨h1, h2, h3⟩
     · left
       refine ⟨h1, ?_⟩
       rw [h2]
       simp
     · right
       refine ⟨by omega, h2, ?_⟩
       rw [h3]
       have hne : (((indexF n x c k (Nat.succ i) - Nat.succ i : Nat) : Int) == -1) = false := by
         rw [beq_eq_false_iff_ne]
         omega
       rw [hne]
       simp only [Bool.false_eq_true, if_false]
       omega
noncomputable def indexO (args : List AVal) (S : AState) (K : KV Unit) : Option Unit := match args with
 | [.str n x, .int .u8 (.ofNat c)] => match Nat.ble c 255 with
   | true => fN (indexF n x c n 0) fun i => match Nat.ble n i with
     | true => K (.int .i64 (.negSucc 0)) S
     | false => K (.int .i64 (.ofNat i)) S
   | false => none
 | _ => none
theorem index_ok {E : Env} {g : Nat} {Fn : Func} {code : Code} (hf : E.P.funcs[g]? = some Fn) (hn : (Fn.name == "runtime.NumGoroutine") = false) (hb : Fn.body = some code) (hl : IndexLaw E.P g) : FuncOk E Unit g indexO := by
 intro args S K r h hok
 unfold indexO at h
 split at h
 case h_2 => cases h
 rename_i n x c
 split at h
 case h_2 => cases h
 rename_i hc
 rw [Nat.ble_eq] at hc
 rw [fN_eq] at h
 have key : ∃ m : Int, K (.int .i64 m) S = some r ∧ ∀ s : ByteArray, StrRel n x s → Lib.indexByte s.data.toList c.toUInt8 = m := by
   split at h
   · rename_i hle
     rw [Nat.ble_eq] at hle
     refine ⟨_, h, fun s hs => ?_⟩
     rcases indexF_ok hs hc n 0 (by omega) with ⟨h1, h2⟩ | ⟨h1, h2, h3⟩
     · exact h2
     · omega
   · rename_i hle
     refine ⟨_, h, fun s hs => ?_⟩
     rcases indexF_ok hs hc n 0 (by omega) with ⟨h1, h2⟩ | ⟨h1, h2, h3⟩
     · rw [h1, show Nat.ble n n = true from Nat.ble_eq.symm ▸ Nat.le_refl n] at hle
       cases hle
     · exact h3
 obtain ⟨m, hK, hm⟩ := key
 refine ⟨_, S, hK, .refl _, fun M f w us hs hM hus => ?_⟩
 obtain ⟨u1, us1, hus1, ⟨s, rfl, hss⟩, u2, us2, rfl, rfl, hnil⟩ := hus
 cases hnil
 have hus2 : us = #[.string s, .int .u8 (.ofNat c)] := by
   have := congrArg List.toArray hus1
   simpa using this
 subst hus2
 refine goes_of_calls hf hn hb ((hl s (.ofNat c) w).mono fun e w' ⟨he, hw⟩ => ⟨_, he, f, by rw [hw]; exact .refl hs, ?_⟩)
 show Value.int .i64 (Lib.indexByte s.data.toList c.toUInt8) = Value.int .i64 m
 rw [hm s hss]
theorem indexAt {W : World} {G : Nat} : FuncOk ⟨Tryz.prog, compC Tryz.prog G, G, W⟩ Unit 408 indexO := index_ok Tryz.func408 (by kernel_rfl) rfl fun s c w => Tryz.stringslite_IndexByte s c w
end Abs
end Go.Proofs.YtonklkbgiidkgaaGreatDoor.Refl
