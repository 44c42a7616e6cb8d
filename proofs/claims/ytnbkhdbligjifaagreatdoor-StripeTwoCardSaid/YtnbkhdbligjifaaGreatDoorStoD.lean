/-
 A store in memory: a fault strikes; is it up; its objects.
-/
import Derived.Test.YtnbkhdbligjifaaGreatDoorStoC
import Derived.Deep.WholeRow
set_option linter.unusedVariables false
set_option linter.unusedSimpArgs false
set_option maxRecDepth 100000
set_option maxHeartbeats 40000000
namespace Go.Proofs.YtnbkhdbligjifaaGreatDoor
open Go Go.RowKit
namespace Vm
theorem upB_any {w : World} {B : Nat} {s : PSt} {O : List Nat} (h : SAt w B s O) :
 Calls Tryz.prog 53 #[.pointer (some ⟨B, 0, none⟩)] w fun e w' => e = .returned (.bool (!s.down)) ∧ w = w' := by
 obtain ⟨g, m, ws, h, rfl⟩ := h
 have c3 := h.c3
 clear h
 cases hd : s.down <;> rw [hd] at c3 <;> clear hd <;>
 go_enter Tryz.func53, Tryz.ntmps53 <;>
 go_wp2_with fail
 all_goals
  go_ret
  exact ⟨rfl, rfl⟩
def Flt.okB (f : Flt) : Bool := decide (1 ≤ f.kind ∧ f.kind ≤ 7 ∧ 0 ≤ f.n ∧ 0 ≤ f.at_ ∧ 0 ≤ f.c ∧ f.c ≤ 255)
def hitS (s : PSt) (f : Flt) : PSt :=
 if f.kind = 1 then ({ s with seen := [] } : PSt).settled else if f.kind = 2 then ({ s with seen := lostM s.seen f.n } : PSt).settled else if f.kind = 3 then ({ s with seen := bentM s.seen f } : PSt).settled
 else if f.kind = 4 then { s with down := true } else if f.kind = 5 then { s with down := false } else if f.kind = 6 then { s with refuse := f.n } else { s with room := f.n }
def hitE (f : Flt) : Int := if f.okB then 0 else 1
def struckS (s : PSt) (f : Flt) : PSt := if f.okB then hitS s f else s
structure Flt.fits (f : Flt) : Prop where
 kind : 0 ≤ f.kind ∧ f.kind ≤ 255
 n : -9223372036854775808 ≤ f.n ∧ f.n ≤ 9223372036854775807
 at_ : -9223372036854775808 ≤ f.at_ ∧ f.at_ ≤ 9223372036854775807
 c : -9223372036854775808 ≤ f.c ∧ f.c ≤ 9223372036854775807
def faultsV : Value := .agg #[.nilFunc, .func (.func 112) #[] #[], .func (.func 113) #[] #[], .func (.func 114) #[] #[], .func (.func 115) #[] #[], .func (.func 116) #[] #[], .func (.func 117) #[] #[], .func (.func 118) #[] #[]]
def st8 (ty : TypeId) (p v : Value) : Sem Unit := Instr.storeAt ty p v
theorem st8_eq (p v : Value) : Instr.storeAt 150 p v = st8 150 p v := rfl
def faultsC : Array Value := match faultsV with | .agg c => c | _ => #[]
theorem size8 : (Tryz.prog.info? 150).map (·.size) = some 8 := by kernel_rfl
theorem run_st8 (w : World) (c c' : Array Value) (ho : c.size = 8) (hs : c'.size = 8) (h1 : c'.all (·.oneCell') = true) :
 (st8 150 (.pointer (some ⟨w.heap.size, 0, none⟩)) (.agg c')).run Tryz.prog (w.alloc (.cells c 150)) = .ok () (w.alloc (.cells c' 150)) := by
 unfold st8
 exact run_storeAt_new w _ c c' (by rw [hs]; exact size8) (by rw [ho, hs]) h1
section
attribute [local go_sem ↓] st8_eq
theorem faults_any (w : World) : Calls Tryz.prog 82 #[] w fun e w' => e = .returned faultsV ∧ Below w.heap.size w w' := by
 go_enter Tryz.func82, Tryz.ntmps82
 have hst := run_st8 w #[.nilFunc, .nilFunc, .nilFunc, .nilFunc, .nilFunc, .nilFunc, .nilFunc, .nilFunc] faultsC rfl rfl (by simp [faultsC, faultsV, Value.oneCell'])
 unfold faultsC faultsV at hst
 go_wp2_with fail
 refine bodyPost_ret (results_cell_row rfl _ _ w.heap.size 150 faultsC (0, 0) _ rfl (heap_alloc_new w _) Tryz.underlying150 rfl size8) rfl ?_
 exact ⟨rfl, (Below.refl _ _).alloc (Nat.le_refl _) _⟩
end
end Vm
end Go.Proofs.YtnbkhdbligjifaaGreatDoor
