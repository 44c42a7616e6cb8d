/-
 'StripeKept' returns true for every input, and each argument reads behind the call as it read before; the listed variables hold what the program's text lays.
-/
import Derived.Test.YtnbkhdbligjifaaGreatDoorRows
import Derived.Test.YtnbkhdbligjifaaGreatDoorCards
import Derived.Test.YtnbkhdbligjifaaGreatDoorTie
import Derived.Lib.SmallJoins
import Derived.LaidMore
import Derived.ProofKit
import Derived.OpenShut
import Derived.ShutString
import Derived.Stop.LaidErr
import Derived.Lib.LaidTab
import Derived.Handed
import Derived.HandedShaped
import Derived.SevenTiedAt
import Derived.MakeChecks
import Derived.Carry
import Derived.Lay
import Derived.Test.YtnbkhdbligjifaaGreatDoorStripeKeptLift
import Derived.Test.YtnbkhdbligjifaaGreatDoorStripeKeptFacts
import Derived.Test.YtnbkhdbligjifaaGreatDoorStripeKeptTold
import Derived.Test.YtnbkhdbligjifaaGreatDoorStripeKeptGoes
import Derived.Test.YtnbkhdbligjifaaGreatDoorStripeKeptReach
import Derived.Test.YtnbkhdbligjifaaGreatDoorStripeKeptNamed
set_option linter.unusedVariables false
set_option linter.unusedSimpArgs false
set_option maxHeartbeats 40000000
namespace Go.Proofs.YtnbkhdbligjifaaGreatDoor.stripeKept
open Go.ChangeShapes Go.WideShapes Go.ChangeAt Go.RowKit
theorem over : Rows.StripeKeptSaid :=
 OpenClaim.holds_of_wide 9 Tryz.f9 rfl rfl rfl rfl rfl rfl rfl ⟨rfl, rfl, rfl, rfl, rfl⟩ rfl rfl rfl rfl rfl fk Tryz.func9 (closed_of ja jb jc jd)
  (of_decide_eq_true (by as_aux_lemma => kernel_rfl)) (by unfold Func.isWrapper; rw [if_neg (by decide +kernel)]; exact ⟨rfl, rfl⟩)
  (fun os started H enc _ => lifted os started H enc)
theorem proved : Rows.StripeKeptCardSaid :=
 Claim7.holds_tied_plain_at .later [] [.data, .data, .data, .data, .pinned] true (true, "3e1932589fcbcfb0a52f1579b57471fcdc36b3d33cac1578ecd760897d29356f") true
  over (fun _ h => by cases h) fw (fun _ h => by cases h) stripeKept_row_tie rfl ⟨rfl, rfl⟩ fm rfl
  (fun f fn hf hfn => by
   obtain rfl : f = 9 := Option.some.inj ((show Tryz.prog.funcNamed "strongbox/strongboxlaw09.StripeKept" = some 9 from fk).symm.trans hf) |>.symm
   obtain rfl : fn = Tryz.f9 := (Option.some.inj (Tryz.func9.symm.trans hfn)).symm
   exact ⟨fl, fun j t ht => by
    rw [Tryz.params9] at ht
    have hm : t ∈ [25, 9, 22, 53, 4] := by have := Array.mem_of_getElem? ht; simp at this ⊢; first | exact this | omega
    have hall : ([25, 9, 22, 53, 4].all fun u => !Tryz.prog.wantsStandIn u) = true := by kernel_rfl
    exact (show Tryz.prog.wantsStandIn t = false by simpa using List.all_eq_true.1 hall t hm)⟩)
  fg
#print axioms proved
end Go.Proofs.YtnbkhdbligjifaaGreatDoor.stripeKept
