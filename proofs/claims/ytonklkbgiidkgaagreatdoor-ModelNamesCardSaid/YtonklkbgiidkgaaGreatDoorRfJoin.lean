/-
 An oracle of the interpreter: strings.Join with nothing between the parts.
-/
import Derived.Test.YtonklkbgiidkgaaGreatDoorRfNat
import Derived.Lib.Join
import Derived.Test.YtonklkbgiidkgaaGreatDoorShelf
namespace Go.Proofs.YtonklkbgiidkgaaGreatDoor.Refl
open Go Go.RowKit
namespace Abs
set_option linter.unusedVariables false
def JoinLaw (P : Program) (g : Nat) : Prop := ∀ (bk o c : Nat) (xs : List ByteArray) (sep : ByteArray) (w : World)
   (hcells : ∀ (j : Nat) x, xs[j]? = some x → w.cell? ⟨bk, o + j, none⟩ = some (.string x))
   (hbk : bk < w.heap.size) (hN : xs.length ≤ 140737488355328) (hcap : xs.length ≤ c)
   (hlen : (Lib.join (xs.map (·.data.toList)) sep.data.toList).length ≤ 140737488355328),
   Calls P g #[.slice (some ⟨bk, o, none⟩) xs.length c, .string sep] w fun e w' => e = .returned (.string ⟨(Lib.join (xs.map (·.data.toList)) sep.data.toList).toArray⟩) ∧ Below w.heap.size w w'
theorem join_empty : ∀ xs : List (List UInt8), Lib.join xs [] = xs.flatten
 | [] => rfl
 | x :: r => by
   rw [Lib.join_cons]
   simp [Lib.joinTail]
noncomputable def joinF (c : T AVal) (d : AVal) : Nat → Nat → Nat → Nat → Option (Nat × Nat)
 | 0, _, n, x => some (n, x)
 | len + 1, o, n, x => match getCell c d o with
   | .str m y => joinF c d len (Nat.succ o) (Nat.add n m) (Nat.add (Nat.mul x (Nat.pow 256 m)) y)
   | _ => none
theorem joinF_ok {f : Inj} {w : World} {c : T AVal} {d : AVal} {Bw : Nat} : ∀ (len o p n x n' x' : Nat), joinF c d len o n x = some (n', x') →
   (∀ i, i < len → ∃ v, w.cell? ⟨Bw, p + i, none⟩ = some v ∧ VRel f (getCell c d (o + i)) v) →
   ∃ xs : List ByteArray, xs.length = len ∧ (∀ (j : Nat) x, xs[j]? = some x → w.cell? ⟨Bw, p + j, none⟩ = some (.string x)) ∧ n' = n + (xs.map (·.data.toList)).flatten.length ∧ x' = x * 256 ^ (xs.map (·.data.toList)).flatten.length + packL (xs.map (·.data.toList)).flatten
 | 0, o, p, n, x, n', x', h, hc => by
   cases h
   exact ⟨[], rfl, by simp, by simp, by simp [packL]⟩
 | len + 1, o, p, n, x, n', x', h, hc => by
   rw [joinF] at h
   split at h
   case h_2 => cases h
   rename_i m y hg
   obtain ⟨v, hv, hr⟩ := hc 0 (by omega)
   rw [Nat.add_zero] at hv hr
   rw [hg] at hr
   obtain ⟨s, rfl, hs⟩ := hr
   obtain ⟨xs, h1, h2, h3, h4⟩ := joinF_ok len (Nat.succ o) (p + 1) _ _ n' x' h fun i hi => by
     have := hc (i + 1) (by omega)
     rwa [show p + (i + 1) = p + 1 + i by omega, show o + (i + 1) = Nat.succ o + i by omega] at this
   refine ⟨s :: xs, by simp [h1], ?_, ?_, ?_⟩
   · intro j z hj
     cases j with
     | zero => simp at hj; subst hj; exact hv
     | succ j => rw [show p + (j + 1) = p + 1 + j by omega]; exact h2 j z (by simpa using hj)
   · rw [h3, List.map_cons, List.flatten_cons, List.length_append, hs.1]
     show n + m + _ = _
     omega
   · rw [h4, List.map_cons, List.flatten_cons, List.length_append, packL_append, hs.1, hs.2]
     show (x * 256 ^ m + y) * _ + _ = _
     rw [Nat.pow_add, Nat.add_mul, ← Nat.mul_assoc, Nat.add_assoc]
noncomputable def joinO (args : List AVal) (S : AState) (K : KV Unit) : Option Unit := match args with
 | [.slc b o len 1, .str 0 0] => match S.heap.get b with
   | some (.cells c d k _ _) => match and (Nat.ble (Nat.add o len) k) (Nat.ble len 1000) with
     | true => match joinF c d len o 0 0 with
       | some (n, x) => match Nat.ble n 140737488355328 with
         | true => fN n fun n => fN x fun x => K (.str n x) S
         | false => none
       | none => none
     | false => none
   | _ => none
 | _ => none
theorem join_ok {E : Env} {g : Nat} {Fn : Func} {code : Code} (hf : E.P.funcs[g]? = some Fn) (hn : (Fn.name == "runtime.NumGoroutine") = false) (hb : Fn.body = some code) (hl : JoinLaw E.P g) : FuncOk E Unit g joinO := by
 intro args S K r h hok
 unfold joinO at h
 split at h
 case h_2 => cases h
 rename_i b o len
 split at h
 case h_2 => cases h
 rename_i c d k wr e hgm
 split at h
 case h_2 => cases h
 rename_i hc
 rw [Bool.and_eq_true, Nat.ble_eq, Nat.ble_eq] at hc
 obtain ⟨hk, hle⟩ := hc
 have hk : o + len ≤ k := hk
 split at h
 case h_2 => cases h
 rename_i n x hj
 split at h
 case h_2 => cases h
 rename_i hn2
 rw [Nat.ble_eq] at hn2
 rw [fN_eq, fN_eq] at h
 refine ⟨.str n x, S, h, .refl _, fun M f w us hs hM hus => ?_⟩
 obtain ⟨u1, us1, hus1, ⟨B, N, cap, p, hfb, hcap, hroom, hpo, rfl⟩, u2, us2, rfl, ⟨s, rfl, hss⟩, hnil⟩ := hus
 cases hnil
 have hus2 : us = #[.slice (some ⟨B, p, none⟩) len cap, .string s] := by
   have := congrArg List.toArray hus1
   simpa using this
 subst hus2
 obtain ⟨om, hom, cs, lo, hi, rfl, hsz, hn3, hfz, hcell⟩ := hs.blk b _ hgm B N hfb
 have hp : ∀ i, i < len → p = o := fun i hi => by
   rcases hpo with h1 | h1
   · exact h1
   · omega
 obtain ⟨xs, h1, h2, h3, h4⟩ := joinF_ok (f := f) (w := w) (Bw := B) len o p 0 0 n x hj fun i hi => by
   have := hp i hi
   subst this
   obtain ⟨v, hv, hr⟩ := hcell (p + i) (by omega)
   exact ⟨v, cell_at hom hv, hr⟩
 have hs0 : s.data.toList = [] := List.eq_nil_of_length_eq_zero hss.1
 subst h1
 rw [Nat.zero_add] at h3
 rw [Nat.zero_mul, Nat.zero_add] at h4
 have hjn : Lib.join (xs.map (·.data.toList)) s.data.toList = (xs.map (·.data.toList)).flatten := by rw [hs0, join_empty]
 have hcall := hl B p cap xs s w h2 (hs.lt b B N hfb) (by omega) hcap (by rw [hjn]; omega)
 rw [hjn] at hcall
 refine goes_of_calls hf hn hb (hcall.mono fun e w' ⟨he, hbl⟩ => ⟨_, he, f, Step.below hs hbl, ⟨_, rfl, ?_, ?_⟩⟩)
 · simp [h3]
 · rw [← h4]
theorem joinAt {W : World} {G : Nat} : FuncOk ⟨Tryz.prog, compC Tryz.prog G, G, W⟩ Unit 226 joinO := join_ok Tryz.func226 (by kernel_rfl) rfl fun bk o c xs sep w h1 h2 h3 h4 h5 => Tryz.strings_Join bk o c xs sep w h1 h2 h3 h4 h5
end Abs
end Go.Proofs.YtonklkbgiidkgaaGreatDoor.Refl
