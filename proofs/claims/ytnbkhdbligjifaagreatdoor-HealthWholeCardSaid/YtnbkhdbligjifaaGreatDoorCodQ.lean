/-
 A range over a function whose round lays its variable into a box of its own and writes maps: the rounds keep the loop's two blocks, told by themselves. The field of 256 numbers: its laws (sums, products). The code: what is decoded of the first rows is what was encoded (plain). The health package: Mend, its model and what its rounds keep. The code of three stores: any rows of its matrix can be turned about (plain).
-/
import Derived.Test.YtnbkhdbligjifaaGreatDoorCodA
import Derived.Test.YtnbkhdbligjifaaGreatDoorRow
import Derived.Test.YtnbkhdbligjifaaGreatDoorRangeB
import Derived.Test.YtnbkhdbligjifaaGreatDoorCodC
import Derived.Test.YtnbkhdbligjifaaGreatDoorHltG
import Derived.Test.YtnbkhdbligjifaaGreatDoorHltM
set_option linter.unusedVariables false
set_option linter.unusedSimpArgs false
namespace Go.Proofs.YtnbkhdbligjifaaGreatDoor
open Go.RowKit Go.Shelf
variable {n : Nat} {P : Program}
def SeqExt {α : Type} (n : Nat) (P : Program) (g : Nat) (lb : Array Value) (encs : α → Array Value) (Kp : World → World → Prop) (S Sp : List α → Prop) (ok : List α → α → Prop) (w : World) : Prop :=
 ∀ (l : Nat) (J Jx : List α → World → Prop) (W : World), Below w.heap.size w W → (∀ pre W1 W2, J pre W1 → Stab.Ext W1 W2 → J pre W2) →
  (∀ pre x W1, J pre W1 → ok pre x → YieldAt Fence.wide (n - 1) P l (encs x) W1 fun e W' =>
   (e = .returned (.bool true) ∧ J (pre ++ [x]) W' ∧ Kp W1 W') ∨ (e = .returned (.bool false) ∧ Jx (pre ++ [x]) W')) →
  J [] W →
  CallsIn Fence.wide n P g (#[.func (.yield l) #[] #[]] ++ lb) W fun e W' => (∃ v, e = .returned v) ∧ ((∃ xs, S xs ∧ J xs W') ∨ (∃ pre, Sp pre ∧ Jx pre W'))
def roundPost {α : Type} (D : Nat) (Kp : World → World → Prop) (I : List α → World → Prop) (Ix : Code → List α → World → Prop) (xs : List α) (W : World) : Exit → Act → World → Prop
 | .normal, _, W' => (W'.heap[D]? = W.heap[D]? ∧ W'.heap[D + 1]? = W.heap[D + 1]?) ∧ Kp W W' ∧ I xs W'
 | .ret, _, W' => (W'.heap[D]? = W.heap[D]? ∧ W'.heap[D + 1]? = W.heap[D + 1]?) ∧ Ix .ret xs W'
 | .exit id, _, W' => (W'.heap[D]? = W.heap[D]? ∧ W'.heap[D + 1]? = W.heap[D + 1]?) ∧ Ix (.exit id) xs W'
 | .goto t, _, W' => (W'.heap[D]? = W.heap[D]? ∧ W'.heap[D + 1]? = W.heap[D + 1]?) ∧ Ix (.goto t) xs W'
 | .panic _, _, _ => False
 | .outgrown, _, _ => False
theorem round_end2 {fn : FuncId} {a : Act} {ps : Array Tmp} {assign body : Code} {w W W3 : World} (jump : Option Code)
 (hl : W.heap[w.heap.size + 1]? = some (.loop (recOf fn a ps assign body w.heap.size .ready none))) (hk : W.heap[w.heap.size]? = some (.deferred (some [])))
 (hk3 : W3.heap[w.heap.size]? = (W.putObj (w.heap.size + 1) (.loop { recOf fn a ps assign body w.heap.size .ready none with state := .busy })).heap[w.heap.size]? ∧ W3.heap[w.heap.size + 1]? = (W.putObj (w.heap.size + 1) (.loop { recOf fn a ps assign body w.heap.size .ready none with state := .busy })).heap[w.heap.size + 1]?) :
 (Instr.endRound (w.heap.size + 1) jump).run P W3 = .ok (.bool jump.isNone) (W3.putObj (w.heap.size + 1) (.loop (recOf fn a ps assign body w.heap.size (if jump.isNone then .ready else .done) jump))) ∧
 W3.heap[w.heap.size + 1]? = some (.loop { recOf fn a ps assign body w.heap.size .ready none with state := .busy }) ∧
 (W3.putObj (w.heap.size + 1) (.loop (recOf fn a ps assign body w.heap.size (if jump.isNone then .ready else .done) jump))).heap[w.heap.size + 1]? = some (.loop (recOf fn a ps assign body w.heap.size (if jump.isNone then .ready else .done) jump)) ∧
 (W3.putObj (w.heap.size + 1) (.loop (recOf fn a ps assign body w.heap.size (if jump.isNone then .ready else .done) jump))).heap[w.heap.size]? = some (.deferred (some [])) := by
 have hlt : w.heap.size + 1 < W.heap.size := (Array.getElem?_eq_some_iff.1 hl).1
 have hl2 : (W.putObj (w.heap.size + 1) (.loop { recOf fn a ps assign body w.heap.size .ready none with state := .busy })).heap[w.heap.size + 1]? = some (.loop { recOf fn a ps assign body w.heap.size .ready none with state := .busy }) := World.putObj_heap_same hlt
 have hk2 : (W.putObj (w.heap.size + 1) (.loop { recOf fn a ps assign body w.heap.size .ready none with state := .busy })).heap[w.heap.size]? = some (.deferred (some [])) := (World.putObj_heap_other (by omega)).trans hk
 have hl3 := hk3.2.trans hl2
 have hr := run_endRound (P := P) jump hl3
 refine ⟨?_, hl3, World.putObj_heap_same (Array.getElem?_eq_some_iff.1 hl3).1, (World.putObj_heap_other (by omega)).trans (hk3.1.trans hk2)⟩
 simpa [recOf] using hr
theorem range_ext {α : Type} {g : Operand} {ps : Array Tmp} {assign body : Code} {Q : Exit → Act → World → Prop} {a : Act} {w : World}
 (h1 : 1 ≤ n) {gf : Nat} {lb : Array Value} (hg : a.eval g = .func (.func gf) #[] lb) (eg : ∀ args w, (callFunc gf args).run P w = .ok (.enter gf args) w)
 {encs : α → Array Value} {Kp : World → World → Prop} {S Sp : List α → Prop} {ok : List α → α → Prop} {w0 : World} (hseq : SeqExt (n - 1) P gf lb encs Kp S Sp ok w0)
 (hKt : ∀ {A B C : World}, Kp A B → Kp B C → Kp A C) (hKb : ∀ (W : World) (l : Nat) (o o' : Obj), w.heap.size ≤ l → W.heap[l]? = some o → o.isCells = false → o.isWalk = false → Kp W (W.putObj l o')) (hb0 : Below w0.heap.size w0 w) (hps : ∀ x, (encs x).size = ps.size)
 (I : List α → World → Prop) (Ix : Code → List α → World → Prop) (hI : ∀ pre W W', I pre W → Stab.Ext W W' → I pre W') (hIp : ∀ pre W l o', I pre W → l = w.heap.size ∨ l = w.heap.size + 1 → I pre (W.putObj l o')) (hIx : ∀ c pre W l o', Ix c pre W → l = w.heap.size ∨ l = w.heap.size + 1 → Ix c pre (W.putObj l o')) (h0 : I [] w) (a₁ : α → Nat → Act) (Bx : α → Nat → World → Prop) (hBx : ∀ x r W l o', Bx x r W → (∃ o : Obj, W.heap[l]? = some o ∧ o.isCells = false) → Bx x r (W.putObj l o')) (hKa : ∀ pre W Wa, I pre W → Stab.Ext W Wa → Kp W Wa)
 (hassign : ∀ (l : Nat) (pre : List α) (x : α) (W : World) (K : Act → World → Prop), I pre W → (∀ r Wa, Stab.Ext W Wa → I pre Wa → Bx x r Wa → K (a₁ x r) Wa) →
  assign.wpIn (Fence.wide.inRound l) (n - 1 - 1) P (Exit.then K (fun _ _ _ => False)) { tmps := (ps.zip (encs x)).foldl (fun t (p, v) => t.setIfInBounds p v) a.tmps, defers := [] } W)
 (hbody : ∀ (l : Nat) (pre : List α) (x : α) (r : Nat) (W : World), I pre W → Bx x r W → ok pre x → w.heap.size + 2 ≤ W.heap.size → body.wpIn (Fence.wide.inRound l) (n - 1 - 1) P (roundPost w.heap.size Kp I Ix (pre ++ [x]) W) (a₁ x r) W)
 (hdone : ∀ (D : Nat) (xs : List α) (W : World), D = w.heap.size → S xs → I xs W → W.heap[D]? = some (.deferred (some [])) → Q .normal { a with defers := { target := .collected D, args := #[] } :: a.defers } W)
 (hstop : ∀ (D : Nat) (c : Code) (pre : List α) (W : World), D = w.heap.size → Sp pre → Ix c pre W → W.heap[D]? = some (.deferred (some [])) → c.wpIn Fence.wide n P Q { a with defers := { target := .collected D, args := #[] } :: a.defers } W) :
 (Code.rangeFunc g ps assign body).wpIn Fence.wide n P Q a w := by
 refine wpIn_rangeFunc ?_
 intro fn hfn
 obtain ⟨W1, hW1⟩ : ∃ W1, (w.alloc (.deferred (some []))).alloc (.loop (recOf fn a ps assign body w.heap.size .ready none)) = W1 := ⟨_, rfl⟩
 have hL1 : W1.heap[w.heap.size + 1]? = some (.loop (recOf fn a ps assign body w.heap.size .ready none)) := by
  rw [← hW1]; have := World.alloc_heap_new (w.alloc (.deferred (some []))) (.loop (recOf fn a ps assign body w.heap.size .ready none)); rwa [World.size_alloc] at this
 have hK1 : W1.heap[w.heap.size]? = some (.deferred (some [])) := by
  rw [← hW1]; exact (Below.heap_alloc _ _ _ (by simp)).trans (World.alloc_heap_new w _)
 have hI1 : I [] W1 := by rw [← hW1]; exact hI _ _ _ (hI _ _ _ h0 (Stab.Ext.alloc _ _)) (Stab.Ext.alloc _ _)
 have hb1 : Below w0.heap.size w0 W1 := by
  rw [← hW1]; exact hb0.trans ((((Below.refl _ w).alloc (Nat.le_refl _) _).alloc (by simp) _).mono hb0.size)
 have hs1 : W1.heap.size = w.heap.size + 2 := by rw [← hW1]; simp
 refine ⟨w.heap.size + 1, [{ target := .collected w.heap.size, args := #[] }], W1, { target := .fn (.func gf) lb, args := #[.func (.yield (w.heap.size + 1)) #[] #[]] }, W1, gf,
  #[.func (.yield (w.heap.size + 1)) #[] #[]] ++ lb, W1, ?_, ?_, ?_, ?_, fun _ => h1, ?_⟩
 ·rw [← hW1]; exact run_enterLoop_outer _ _ _ _ _
 ·simp only [resolve, hg]
  simp [go_sem]
 ·intro f' hf'; trivial
 ·simp [invoke, go_sem, eg]
 ·refine (hseq (w.heap.size + 1)
   (fun pre W => I pre W ∧ W.heap[w.heap.size + 1]? = some (.loop (recOf fn a ps assign body w.heap.size .ready none)) ∧ W.heap[w.heap.size]? = some (.deferred (some [])))
   (fun pre W => ∃ c, Ix c pre W ∧ W.heap[w.heap.size + 1]? = some (.loop (recOf fn a ps assign body w.heap.size .done (some c))) ∧ W.heap[w.heap.size]? = some (.deferred (some [])))
   W1 hb1
   (fun s A B hs hE => ⟨hI s A B hs.1 hE, (hE.block _ (Array.getElem?_eq_some_iff.1 hs.2.1).1).trans hs.2.1, (hE.block _ (Array.getElem?_eq_some_iff.1 hs.2.2).1).trans hs.2.2⟩)
   ?_ ⟨hI1, hL1, hK1⟩).mono ?_
  ·rintro pre x W ⟨hi, hl, hk⟩ hx
   have hy := run_yield (P := P) (args := encs x) hl (hps x)
   refine ⟨fn, _, assign, body, hy, roundIn_of_wpIn hfn (hassign _ pre x W _ hi fun r W0 hE0 hi0 hB0 => ?_)⟩
   have hka := hKa pre W W0 hi hE0
   replace hl := (Below.block hE0 _ (Array.getElem?_eq_some_iff.1 hl).1).trans hl
   replace hk := (Below.block hE0 _ (Array.getElem?_eq_some_iff.1 hk).1).trans hk
   refine ⟨_, run_beginRound hl rfl, ?_⟩
   have hw2 : Kp W0 (W0.putObj (w.heap.size + 1) (.loop { recOf fn a ps assign body w.heap.size .ready none with state := .busy })) := hKb _ _ _ _ (by omega) hl rfl rfl
   refine wpIn_mono (hbody _ pre x r _ (hIp _ _ _ _ hi0 (.inr rfl)) (hBx x r _ _ _ hB0 ⟨_, hl, rfl⟩) hx (by have := (Array.getElem?_eq_some_iff.1 hl).1; rw [World.putObj_size]; omega)) ?_
   rintro e a3 W3 hp
   cases e with
   | normal =>
     obtain ⟨hk3, hkp3, hi3⟩ := hp
     obtain ⟨hr, hl3, hl4, hk4⟩ := round_end2 (P := P) none hl hk hk3
     exact ⟨_, _, hr, .inl ⟨rfl, ⟨hIp _ _ _ _ hi3 (.inr rfl), hl4, hk4⟩, hKt (hKt (hKt hka hw2) hkp3) (hKb _ _ _ _ (by omega) hl3 rfl rfl)⟩⟩
   | ret =>
     obtain ⟨hk3, hi3⟩ := hp
     obtain ⟨hr, hl3, hl4, hk4⟩ := round_end2 (P := P) (some .ret) hl hk hk3
     exact ⟨_, _, hr, .inr ⟨rfl, .ret, hIx _ _ _ _ _ hi3 (.inr rfl), hl4, hk4⟩⟩
   | exit id =>
     obtain ⟨hk3, hi3⟩ := hp
     obtain ⟨hr, hl3, hl4, hk4⟩ := round_end2 (P := P) (some (.exit id)) hl hk hk3
     exact ⟨_, _, hr, .inr ⟨rfl, .exit id, hIx _ _ _ _ _ hi3 (.inr rfl), hl4, hk4⟩⟩
   | goto t =>
     obtain ⟨hk3, hi3⟩ := hp
     obtain ⟨hr, hl3, hl4, hk4⟩ := round_end2 (P := P) (some (.goto t)) hl hk hk3
     exact ⟨_, _, hr, .inr ⟨rfl, .goto t, hIx _ _ _ _ _ hi3 (.inr rfl), hl4, hk4⟩⟩
   | panic ch => exact hp.elim
   | outgrown => exact hp.elim
  ·rintro e W2 ⟨⟨v, rfl⟩, (⟨xs, hS, hi, hl, hk⟩ | ⟨pre, hSp, c, hi, hl, hk⟩)⟩
   ·have hr := run_endLoop (P := P) hl (by simp [recOf])
    exact ⟨none, _, hr, hdone _ xs _ rfl hS (hIp _ _ _ _ hi (.inr rfl)) ((World.putObj_heap_other (by omega)).trans hk)⟩
   ·have hr := run_endLoop (P := P) hl (by simp [recOf])
    exact ⟨some c, _, hr, hstop _ c pre _ rfl hSp (hIx _ _ _ _ _ hi (.inr rfl)) ((World.putObj_heap_other (by omega)).trans hk)⟩
end Go.Proofs.YtnbkhdbligjifaaGreatDoor
namespace Go.Proofs.YtnbkhdbligjifaaGreatDoor
namespace Gf
open Fld
/-! ### the field's laws -/
def linR (g : Nat → Nat) (b : Nat) : Nat → Nat
 | 0 => 0
 | k + 1 => Nat.xor (linR g b k) (if b.testBit k then g k else 0)
theorem xor_c (a b : Nat) : Nat.xor a b = Nat.xor b a := Nat.xor_comm a b
theorem xor_a (a b c : Nat) : Nat.xor (Nat.xor a b) c = Nat.xor a (Nat.xor b c) := Nat.xor_assoc a b c
theorem xor_4 (a b c d : Nat) : Nat.xor (Nat.xor a b) (Nat.xor c d) = Nat.xor (Nat.xor a c) (Nat.xor b d) := by
 rw [xor_a, xor_a, ← xor_a b c d, ← xor_a c b d, xor_c b c]
theorem xor_s (a : Nat) : Nat.xor a a = 0 := Nat.xor_self a
theorem xor_0 (a : Nat) : Nat.xor a 0 = a := Nat.xor_zero a
theorem zero_x (a : Nat) : Nat.xor 0 a = a := Nat.zero_xor a
theorem linR_xor (g : Nat → Nat) (b c : Nat) : ∀ k, linR g (Nat.xor b c) k = Nat.xor (linR g b k) (linR g c k)
 | 0 => (xor_s 0).symm
 | k + 1 => by
   rw [linR, linR, linR, linR_xor g b c k, xor_4]
   congr 1
   rw [show (Nat.xor b c).testBit k = (b.testBit k ^^ c.testBit k) from Nat.testBit_xor b c k]
   cases b.testBit k <;> cases c.testBit k <;> simp [xor_0, xor_s]
theorem xor_lt8 {a b : Nat} (ha : a < 256) (hb : b < 256) : Nat.xor a b < 256 := Nat.xor_lt_two_pow (n := 8) ha hb
theorem gm_comm (a b : Nat) : gm a b = gm b a := by
 unfold gm
 rw [Nat.add_comm (lg a)]
 by_cases h : a = 0 ∨ b = 0
 ·rw [if_pos h, if_pos h.symm]
 ·rw [if_neg h, if_neg fun h2 => h h2.symm]
theorem pw_ne {i : Nat} (h : i < 510) : pw i ≠ 0 := (by decide +kernel : ∀ i : Fin 510, pw i.1 ≠ 0) ⟨i, h⟩
theorem pw_lg {x : Nat} (h : x < 256) (h0 : x ≠ 0) : pw (lg x) = x := (by decide +kernel : ∀ x : Fin 256, x.1 ≠ 0 → pw (lg x.1) = x.1) ⟨x, h⟩ h0
theorem lg_pw {i : Nat} (h : i < 510) : lg (pw i) = i % 255 := (by decide +kernel : ∀ i : Fin 510, lg (pw i.1) = i.1 % 255) ⟨i, h⟩
theorem pw_mod {i : Nat} (h : i < 510) : pw i = pw (i % 255) := (by decide +kernel : ∀ i : Fin 510, pw i.1 = pw (i.1 % 255)) ⟨i, h⟩
theorem lg_lt {x : Nat} (h : x < 256) : lg x < 255 := by have := lg_le x h; omega
theorem gm_zr (a : Nat) : gm a 0 = 0 := by simp [gm]
theorem gm_zl (a : Nat) : gm 0 a = 0 := by simp [gm]
theorem gm_nz {a b : Nat} (ha : a ≠ 0) (hb : b ≠ 0) : gm a b = pw (lg a + lg b) := by unfold gm; rw [if_neg (by simp [ha, hb])]
theorem gm_ne {a b : Nat} (ha : a < 256) (hb : b < 256) (ha0 : a ≠ 0) (hb0 : b ≠ 0) : gm a b ≠ 0 := by
 rw [gm_nz ha0 hb0]; have := lg_lt ha; have := lg_lt hb; exact pw_ne (by omega)
theorem gm_assoc {a b c : Nat} (ha : a < 256) (hb : b < 256) (hc : c < 256) : gm (gm a b) c = gm a (gm b c) := by
 by_cases a0 : a = 0
 ·subst a0; rw [gm_zl, gm_zl, gm_zl]
 by_cases b0 : b = 0
 ·subst b0; rw [gm_zr, gm_zl, gm_zr]
 by_cases c0 : c = 0
 ·subst c0; rw [gm_zr, gm_zr, gm_zr]
 have la := lg_lt ha
 have lb := lg_lt hb
 have lc := lg_lt hc
 rw [gm_nz (gm_ne ha hb a0 b0) c0, gm_nz a0 (gm_ne hb hc b0 c0), gm_nz a0 b0, gm_nz b0 c0, lg_pw (by omega), lg_pw (by omega), pw_mod (by omega), pw_mod (i := lg a + _) (by omega)]
 congr 1
 omega
theorem gm_one {a : Nat} (ha : a < 256) : gm 1 a = a := by
 by_cases a0 : a = 0
 ·subst a0; exact gm_zr 1
 rw [gm_nz (by decide) a0, show lg 1 = 0 by decide +kernel, Nat.zero_add, pw_lg ha a0]
theorem gm_lin : ∀ b : Fin 256, gm 2 b.1 = linR (fun i => gm 2 (2 ^ i)) b.1 8 := by decide +kernel
theorem gm_xor_pw : ∀ (i : Nat), i < 255 → ∀ b c, b < 256 → c < 256 → gm (pw i) (Nat.xor b c) = Nat.xor (gm (pw i) b) (gm (pw i) c)
 | 0, _, b, c, hb, hc => by rw [show pw 0 = 1 by decide +kernel, gm_one hb, gm_one hc, gm_one (xor_lt8 hb hc)]
 | i + 1, h, b, c, hb, hc => by
   rw [(by decide +kernel : ∀ i : Fin 254, pw (i.1 + 1) = gm 2 (pw i.1)) ⟨i, by omega⟩]
   rw [gm_assoc (by decide) (pw_lt i) hb, gm_assoc (by decide) (pw_lt i) hc, gm_assoc (by decide) (pw_lt i) (xor_lt8 hb hc), gm_xor_pw i (by omega) b c hb hc]
   rw [gm_lin ⟨_, gm_lt (pw i) b⟩, gm_lin ⟨_, gm_lt (pw i) c⟩, gm_lin ⟨_, xor_lt8 (gm_lt (pw i) b) (gm_lt (pw i) c)⟩, linR_xor]
theorem gm_xor {a b c : Nat} (ha : a < 256) (hb : b < 256) (hc : c < 256) : gm a (Nat.xor b c) = Nat.xor (gm a b) (gm a c) := by
 by_cases a0 : a = 0
 ·subst a0; rw [gm_zl, gm_zl, gm_zl]; rfl
 ·have := gm_xor_pw (lg a) (lg_lt ha) b c hb hc
  rwa [pw_lg ha a0] at this
/-! ### sums -/
def sm (f : Nat → Nat) : Nat → Nat
 | 0 => 0
 | m + 1 => Nat.xor (sm f m) (f m)
theorem sm_lt {f : Nat → Nat} : ∀ {m : Nat}, (∀ j, j < m → f j < 256) → sm f m < 256
 | 0, _ => by simp [sm]
 | m + 1, h => xor_lt8 (sm_lt fun j hj => h j (by omega)) (h m (by omega))
theorem sm_congr {f g : Nat → Nat} : ∀ {m : Nat}, (∀ j, j < m → f j = g j) → sm f m = sm g m
 | 0, _ => rfl
 | m + 1, h => by rw [sm, sm, sm_congr fun j hj => h j (by omega), h m (by omega)]
theorem sm_zero : ∀ (m : Nat), sm (fun _ => 0) m = 0
 | 0 => rfl
 | m + 1 => by rw [sm, sm_zero m, xor_0]
theorem sm_xor (f g : Nat → Nat) : ∀ m, sm (fun j => Nat.xor (f j) (g j)) m = Nat.xor (sm f m) (sm g m)
 | 0 => by simp [sm]
 | m + 1 => by rw [sm, sm, sm, sm_xor f g m, xor_4]
theorem sm_swap (f : Nat → Nat → Nat) (k : Nat) : ∀ m, sm (fun j => sm (f j) k) m = sm (fun l => sm (fun j => f j l) m) k
 | 0 => (sm_zero k).symm
 | m + 1 => by rw [sm, sm_swap f k m, ← sm_xor]; rfl
theorem gm_sm {a : Nat} (ha : a < 256) {f : Nat → Nat} : ∀ {m : Nat}, (∀ j, j < m → f j < 256) → gm a (sm f m) = sm (fun j => gm a (f j)) m
 | 0, _ => gm_zr a
 | m + 1, h => by rw [sm, sm, gm_xor ha (sm_lt fun j hj => h j (by omega)) (h m (by omega)), gm_sm ha fun j hj => h j (by omega)]
theorem sm_gm {a : Nat} (ha : a < 256) {f : Nat → Nat} {m : Nat} (h : ∀ j, j < m → f j < 256) : gm (sm f m) a = sm (fun j => gm (f j) a) m := by
 rw [gm_comm, gm_sm ha h]; exact sm_congr fun j _ => gm_comm _ _
theorem sm_one {g : Nat → Nat} {i : Nat} : ∀ {m : Nat}, i < m → sm (fun l => gm (if i = l then 1 else 0) (g l)) m = gm 1 (g i)
 | 0, h => absurd h (by omega)
 | m + 1, h => by
   by_cases hi : i < m
   ·rw [sm, sm_one hi, if_neg (by omega), gm_zl, xor_0]
   ·have : i = m := by omega
    subst this
    rw [sm, if_pos rfl]
    rw [sm_congr (g := fun _ => 0) fun j hj => by rw [if_neg (by omega), gm_zl], sm_zero, zero_x]
theorem sm_mul {T D : Nat → Nat} {M : Nat → Nat → Nat} {k m : Nat} (hT : ∀ j, j < m → T j < 256) (hM : ∀ j l, M j l < 256) (hD : ∀ l, D l < 256) :
 sm (fun j => gm (T j) (sm (fun l => gm (M j l) (D l)) k)) m = sm (fun l => gm (sm (fun j => gm (T j) (M j l)) m) (D l)) k := by
 rw [sm_congr (g := fun j => sm (fun l => gm (gm (T j) (M j l)) (D l)) k) fun j hj => ?_, sm_swap]
 ·exact sm_congr fun l _ => (sm_gm (hD l) fun j _ => gm_lt _ _).symm
 ·rw [gm_sm (hT j hj) fun l _ => gm_lt _ _]
  exact sm_congr fun l _ => (gm_assoc (hT j hj) (hM j l) (hD l)).symm
end Gf
end Go.Proofs.YtnbkhdbligjifaaGreatDoor
namespace Go.Proofs.YtnbkhdbligjifaaGreatDoor
open Go Go.RowKit
namespace Cod
theorem acc_sm (row : List Nat) (ls : List (List Nat)) (k : Nat) : ∀ j, Spr.acc row ls j k = Gf.sm (fun l => Fld.gm (row.getD l 0) ((ls.getD l []).getD k 0)) j
 | 0 => rfl
 | j + 1 => by
   rw [Spr.acc, Gf.sm, acc_sm row ls k j]
   split
   ·rename_i h
    have : Fld.gm (row.getD j 0) ((ls.getD j []).getD k 0) = 0 := by
     rcases h with h | h
     ·rw [h, Gf.gm_zl]
     ·rw [show (ls.getD j []).getD k 0 = 0 by rw [List.getD, List.getElem?_eq_none h]; rfl, Gf.gm_zr]
    rw [this, Gf.xor_0]
   ·rfl
theorem out_sm (ms ls : List (List Nat)) (i k : Nat) : Spr.out ms ls i k = Gf.sm (fun l => Fld.gm ((ms.getD i []).getD l 0) ((ls.getD l []).getD k 0)) (ms.getD i []).length := acc_sm _ _ _ _
theorem getD_map_range {α : Type} {n i : Nat} (f : Nat → α) (d : α) (h : i < n) : ((List.range n).map f).getD i d = f i := by
 rw [List.getD, List.getElem?_map, List.getElem?_range h]; rfl
theorem mat_out {k n i b : Nat} {s : ByteArray} {z : Nat} (hi : i < n) (hb : b < z) : Spr.out (matL k n) (dataL s k z) i b = Gf.sm (fun l => Fld.gm (entN k i l) (dataF s (l * z + b))) k := by
 rw [out_sm, matL, getD_map_range _ _ hi, List.length_map, List.length_range]
 refine Gf.sm_congr fun l hl => ?_
 rw [getD_map_range _ _ hl, dataL, getD_map_range _ _ hl, getD_map_range _ _ hb]
structure Turns (K N : Nat) (hs : List Nat) : Prop where
 full : (Sol.turnD K (Sol.pick (matL K N) hs)).1 = K
 inv : ∀ i, i < K → ∀ l, l < K → Gf.sm (fun j => Fld.gm ((Sol.turnW K (Sol.pick (matL K N) hs)).2 i (K + j)) (Sol.pick (matL K N) hs j l)) K = if i = l then 1 else 0
theorem nsOf_get {ps : List (List UInt8)} {j b : Nat} : ((nsOf ps).getD j []).getD b 0 = ((ps.getD j []).getD b 0).toNat := by
 simp only [nsOf, List.getD, List.getElem?_map]
 cases ps[j]? with
 | none => simp
 | some s => simp only [Option.map_some, Option.getD_some, List.getElem?_map]; cases s[b]? <;> rfl
theorem payL_get {ms ls : List (List Nat)} {i b : Nat} (hb : b < Spr.wide ls) : ((payL ms ls i).getD b 0).toNat = Spr.out ms ls i b := by
 rw [payL, getD_map_range _ _ hb]
 have := out_lt ms ls i b
 simp [UInt8.toNat_ofNat', Nat.mod_eq_of_lt this]
theorem pick_mat {K N : Nat} {hs : List Nat} {j l : Nat} (hj : hs.getD j 0 < N) (hl : l < K) : Sol.pick (matL K N) hs j l = entN K (hs.getD j 0) l := by
 rw [Sol.pick, matL, getD_map_range _ _ hj, getD_map_range _ _ hl]
theorem pick_byt {K N : Nat} {hs : List Nat} (hlen : hs.length = K) (hlt : ∀ x ∈ hs, x < N) : Sol.Byt (Sol.pick (matL K N) hs) K K := fun i hi j hj => by
 have hh : hs.getD i 0 < N := by
  rw [List.getD, List.getElem?_eq_getElem (by omega), Option.getD_some]
  exact hlt _ (List.getElem_mem _)
 rw [pick_mat hh hj]
 exact entN_lt _ _ _
section
variable {K N : Nat} {hs : List Nat} {s : ByteArray}
theorem outs_eq (hK : 0 < K) (hlen : hs.length = K) (hlt : ∀ x ∈ hs, x < N) (hT : Turns K N hs) :
 outL (Sol.turnL K (Sol.pick (matL K N) hs)) (nsOf (hs.map fun i => Hlt.payB K N s i)) = dataL s K (sizeZ K s.size) := by
 have hw : Spr.wide (nsOf (hs.map fun i => Hlt.payB K N s i)) = sizeZ K s.size := by
  cases hs with
  | nil => simp at hlen; omega
  | cons a r =>
    show ((Hlt.payB K N s a).map UInt8.toNat).length = _
    rw [List.length_map, Hlt.payB_len N s a hK]
 unfold outL
 rw [hw, show (Sol.turnL K (Sol.pick (matL K N) hs)).length = K by simp [Sol.turnL], dataL]
 refine List.map_congr_left fun i hi => List.map_congr_left fun b hb => ?_
 rw [List.mem_range] at hi hb
 have hB := pick_byt hlen hlt
 rw [out_sm, Sol.turnL, getD_map_range _ _ hi, List.length_map, List.length_range]
 rw [Gf.sm_congr (g := fun j => Fld.gm ((Sol.turnW K (Sol.pick (matL K N) hs)).2 i (K + j)) (Gf.sm (fun l => Fld.gm (entN K (hs.getD j 0) l) (dataF s (l * sizeZ K s.size + b))) K)) fun j hj => ?_]
 ·rw [Gf.sm_mul (T := fun j => (Sol.turnW K (Sol.pick (matL K N) hs)).2 i (K + j)) (M := fun j l => entN K (hs.getD j 0) l) (D := fun l => dataF s (l * sizeZ K s.size + b)) (fun j hj => Sol.downs_byt (L := K + K) (Sol.one_byt hB) (K + K) i hi (K + j) (by omega)) (fun j l => entN_lt _ _ _) (fun l => dataF_lt s _)]
  rw [Gf.sm_congr (g := fun l => Fld.gm (if i = l then 1 else 0) (dataF s (l * sizeZ K s.size + b))) fun l hl => ?_, Gf.sm_one hi, Gf.gm_one (dataF_lt _ _)]
  rw [← hT.inv i hi l hl]
  congr 1
  refine Gf.sm_congr fun j hj => ?_
  have hh : hs.getD j 0 < N := by
   rw [List.getD, List.getElem?_eq_getElem (by omega), Option.getD_some]
   exact hlt _ (List.getElem_mem _)
  rw [pick_mat hh hl]
 ·rw [getD_map_range _ _ hj, nsOf_get]
  have hj2 : j < hs.length := by omega
  rw [show (hs.map fun i => Hlt.payB K N s i).getD j [] = Hlt.payB K N s (hs.getD j 0) by simp [List.getD, List.getElem?_eq_getElem hj2]]
  have hh : hs.getD j 0 < N := by
   rw [List.getD, List.getElem?_eq_getElem (by omega), Option.getD_some]
   exact hlt _ (List.getElem_mem _)
  rw [Hlt.payB, payL_get (by rw [dataL_wide _ _ _ hK]; exact hb), mat_out hh hb]
/-! ### the blob out of the rows -/
theorem flat_range {α : Type} (g : Nat → α) (z : Nat) : ∀ k, ((List.range k).map fun i => (List.range z).map fun j => g (i * z + j)).flatten = (List.range (k * z)).map g
 | 0 => by simp
 | k + 1 => by
   rw [List.range_succ, List.map_append, List.flatten_append, flat_range g z k, Nat.succ_mul, List.range_add, List.map_append]
   simp
theorem whole_data (k z : Nat) : wholeL (dataL s k z) = (List.range (k * z)).map fun j => UInt8.ofNat (dataF s j) := by
 unfold wholeL dataL
 rw [flat_range (dataF s) z k, List.map_map]; rfl
theorem beN_head (m : Nat) (hm : m < 256 ^ 8) : beN ((List.range 8).map fun i => UInt8.ofNat (headB m i)) = m := by
 have h8 : List.range 8 = [0, 1, 2, 3, 4, 5, 6, 7] := rfl
 have hh : ∀ i, (UInt8.ofNat (headB m i)).toNat = headB m i := fun i => by
  have : headB m i < 256 := Nat.mod_lt _ (by decide)
  simp [UInt8.toNat_ofNat', Nat.mod_eq_of_lt this]
 rw [h8]
 simp only [List.map_cons, List.map_nil, beN, List.foldl_cons, List.foldl_nil, hh]
 simp only [headB, Nat.reduceSub, Nat.reducePow] at hm ⊢
 omega
theorem trim_zeros (n : Nat) : Lib.trimB (List.replicate n 0) 0 = [] := by
 have h : ∀ m, (List.replicate m (0 : UInt8)).dropWhile (· == 0) = [] := by
  intro m
  induction m with
  | zero => rfl
  | succ m ih => rw [List.replicate_succ, List.dropWhile_cons]; simp
 unfold Lib.trimB Lib.trimRightB
 rw [List.reverse_replicate, h]
 rfl
theorem blob_data (hK : 0 < K) (hs2 : s.size ≤ 32768) : blobF K (sizeZ K s.size) (wholeL (dataL s K (sizeZ K s.size))) = some s.data.toList := by
 have hz := sizeZ_mul K s.size hK
 rw [Nat.mul_comm] at hz
 have hsz : s.data.toList.length = s.size := by simp
 generalize hzz : sizeZ K s.size = z at *
 have hw : wholeL (dataL s K z) = ((List.range 8).map fun i => UInt8.ofNat (headB s.size i)) ++ (s.data.toList ++ List.replicate (K * z - 8 - s.size) 0) := by
  rw [whole_data]
  apply List.ext_getElem?
  intro i
  rw [List.getElem?_map]
  by_cases h1 : i < 8
  ·rw [List.getElem?_append_left (by simp; omega), List.getElem?_range (by omega), List.getElem?_map, List.getElem?_range h1]
   simp [dataF, h1]
  ·rw [List.getElem?_append_right (by simp; omega)]
   simp only [List.length_map, List.length_range]
   by_cases h2 : i < 8 + s.size
   ·rw [List.getElem?_range (by omega), List.getElem?_append_left (by omega)]
    simp only [Option.map_some, dataF, if_neg h1, List.getD]
    rw [List.getElem?_eq_getElem (by omega)]
    simp
   ·rw [List.getElem?_append_right (by omega)]
    by_cases h3 : i < K * z
    ·rw [List.getElem?_range h3, List.getElem?_replicate, if_pos (by omega)]
     have hz0 : s.data.toList[i - 8]? = none := List.getElem?_eq_none (by omega)
     simp only [Option.map_some, dataF, if_neg h1, List.getD, hz0]
     rfl
    ·rw [List.getElem?_eq_none (by simp; omega), List.getElem?_replicate, if_neg (by omega)]
     rfl
 have hb := beN_head s.size (by omega)
 rw [hw]
 generalize hhd : ((List.range 8).map fun i => UInt8.ofNat (headB s.size i)) = hd at *
 have hl : hd.length = 8 := by rw [← hhd]; simp
 have ht : (hd ++ (s.data.toList ++ List.replicate (K * z - 8 - s.size) 0)).take 8 = hd := by rw [← hl, List.take_left']; rfl
 have hdr : (hd ++ (s.data.toList ++ List.replicate (K * z - 8 - s.size) 0)).drop 8 = s.data.toList ++ List.replicate (K * z - 8 - s.size) 0 := by rw [← hl, List.drop_left']; rfl
 unfold blobF
 rw [ht, hb, if_neg (by simp; omega), if_neg (by omega), hzz, if_neg (by simp), ← List.drop_drop, hdr]
 rw [show (s.data.toList ++ List.replicate (K * z - 8 - s.size) (0 : UInt8)).drop s.size = List.replicate (K * z - 8 - s.size) 0 by rw [← hsz, List.drop_left']; rfl, trim_zeros, if_neg (by simp)]
 rw [show (s.data.toList ++ List.replicate (K * z - 8 - s.size) (0 : UInt8)).take s.size = s.data.toList by rw [← hsz, List.take_left']; rfl]
theorem found_ok (hK : 0 < K) (hlen : hs.length = K) (hlt : ∀ x ∈ hs, x < N) (hT : Turns K N hs) (hs2 : s.size ≤ 32768) :
 foundF K N hs (hs.map fun i => Hlt.payB K N s i) = .inr (s.data.toList, dataL s K (sizeZ K s.size)) := by
 have hz := sizeZ_mul K s.size hK
 have hz0 : sizeZ K s.size ≠ 0 := fun h => by rw [h] at hz; omega
 have hlp : lenP (hs.map fun i => Hlt.payB K N s i) = sizeZ K s.size := by
  cases hs with
  | nil => simp at hlen; omega
  | cons a r => exact Hlt.payB_len N s a hK
 unfold foundF firstF
 rw [if_neg (by omega), hlp, if_pos (fun p hp => by
  obtain ⟨i, _, rfl⟩ := List.mem_map.1 hp
  exact Hlt.payB_len N s i hK), if_neg (by rw [hT.full]; omega), outs_eq hK hlen hlt hT]
 simp only
 rw [blob_data hK hs2]
 simp only
 rw [if_pos]
 intro p hp
 obtain ⟨i, hi, rfl⟩ : ∃ i, i ∈ hs ∧ p = (i, Hlt.payB K N s i) := by
  clear hlen hlt hT hlp
  induction hs with
  | nil => cases hp
  | cons a r ih =>
    rw [List.map_cons, List.zip_cons_cons] at hp
    rcases List.mem_cons.1 hp with h | h
    ·exact ⟨a, by simp, h⟩
    ·obtain ⟨i, h1, h2⟩ := ih h
     exact ⟨i, by simp [h1], h2⟩
 rfl
end
end Cod
end Go.Proofs.YtnbkhdbligjifaaGreatDoor
namespace Go.Proofs.YtnbkhdbligjifaaGreatDoor
open Go Go.RowKit Go.Shelf Vm
namespace Hlt
def rowsF : Sum Nat (List UInt8 × List (List Nat)) → List (List Nat)
 | .inl _ => []
 | .inr p => p.2
def mStep (k n : Nat) (d : ByteArray) (rows : List (List Nat)) (s : Nat × Int × PW) (x : Nat × Got) : Nat × Int × PW :=
 let r : Int × PW := if x.2.there then writeR s.2.2 x.1 (nmB d x.1) (datP k n d x.1 (Cod.payL (Cod.matL k n) rows x.1)) else (53, s.2.2)
 if r.1 = 0 then (s.1 + 1, s.2.1, r.2) else (s.1, if r.1 = 52 ∨ s.2.1 = 0 then r.1 else s.2.1, r.2)
def mAll (k n : Nat) (d : ByteArray) (rows : List (List Nat)) (p : PW) (xs : List (Nat × Got)) : Nat × Int × PW := xs.foldl (mStep k n d rows) (0, 0, p)
theorem mAll_snoc (k n : Nat) (d : ByteArray) (rows : List (List Nat)) (p : PW) (xs : List (Nat × Got)) (x : Nat × Got) : mAll k n d rows p (xs ++ [x]) = mStep k n d rows (mAll k n d rows p xs) x := by simp [mAll]
def mEnd (e : Int) : Int := if e ≠ 0 ∧ e ≠ 52 then 53 else e
noncomputable def mendR (p : PW) (k n : Nat) (d : ByteArray) : Nat × Int × PW :=
 let l := lookL p d k n n
 if toldL k n d l then
  let s := mAll k n d (rowsF (Cod.foundF k n (haveL l k) (paysOf l k))) (PW.adv p n) (sel false 0 l)
  (s.1, mEnd s.2.1, s.2.2)
 else if sel false 0 l = [] then (0, 0, PW.adv p n) else (0, 54, PW.adv p n)
/-! ### calm worlds stay so -/
theorem callP_st {p : PW} (hc : Calm p) {i : Nat} (hi : i < p.n) (s' : PSt) : Calm (callP p i s') ∧ (callP p i s').n = p.n ∧ (callP p i s').st = upd p.st i s' := by
 rw [(callP_calm hc hi s' 0).1]
 exact ⟨hc, rfl, rfl⟩
theorem putE_not (s : PSt) (x y : ByteArray) : putE s x y ≠ 56 := by
 unfold putE
 repeat' split
 all_goals omega
theorem syncV_not (s : PSt) : syncV s ≠ 56 := by
 unfold syncV
 split <;> omega
theorem writeR_calm {p : PW} (hc : Calm p) {i : Nat} (hi : i < p.n) (x y : ByteArray) : Calm (writeR p i x y).2 ∧ (writeR p i x y).2.n = p.n ∧ (∀ j, j ≠ i → (writeR p i x y).2.st j = p.st j) ∧ (writeR p i x y).1 ≠ 56 := by
 obtain ⟨h1, h2, h3⟩ := callP_st hc hi (putS (p.st i) x y)
 have e1 : ∀ e, callE p i e = e := fun e => (callP_calm hc hi (p.st i) e).2
 have hi2 : i < (callP p i (putS (p.st i) x y)).n := by rw [h2]; exact hi
 have e2 : ∀ e, callE (callP p i (putS (p.st i) x y)) i e = e := fun e => (callP_calm h1 hi2 (p.st i) e).2
 obtain ⟨g1, g2, g3⟩ := callP_st h1 hi2 (syncS ((callP p i (putS (p.st i) x y)).st i))
 unfold writeR
 split
 ·refine ⟨h1, h2, fun j hj => ?_, ?_⟩
  ·show (callP p i (putS (p.st i) x y)).st j = _
   rw [h3, upd_ne _ _ hj]
  ·show callE p i _ ≠ 56
   rw [e1]; exact putE_not _ _ _
 ·refine ⟨g1, g2.trans h2, fun j hj => ?_, ?_⟩
  ·show (callP (callP p i (putS (p.st i) x y)) i _).st j = _
   rw [g3, upd_ne _ _ hj, h3, upd_ne _ _ hj]
  ·show callE (callP p i (putS (p.st i) x y)) i _ ≠ 56
   rw [e2]; exact syncV_not _
theorem mStep_calm {k n : Nat} {d : ByteArray} {rows : List (List Nat)} {s : Nat × Int × PW} (hc : Calm s.2.2) {x : Nat × Got} (hi : x.1 < s.2.2.n) : Calm (mStep k n d rows s x).2.2 ∧ (mStep k n d rows s x).2.2.n = s.2.2.n ∧ (∀ j, j ≠ x.1 → (mStep k n d rows s x).2.2.st j = s.2.2.st j) ∧ (mStep k n d rows s x).1 ≤ s.1 + 1 := by
 unfold mStep
 have hw := writeR_calm hc hi (nmB d x.1) (datP k n d x.1 (Cod.payL (Cod.matL k n) rows x.1))
 cases x.2.there
 ·simp only [Bool.false_eq_true, if_false]
  split
  ·rename_i h; cases h
  ·exact ⟨hc, rfl, fun _ _ => rfl, Nat.le_succ _⟩
 ·simp only [if_true]
  split
  ·exact ⟨hw.1, hw.2.1, hw.2.2.1, Nat.le_refl _⟩
  ·exact ⟨hw.1, hw.2.1, hw.2.2.1, Nat.le_succ _⟩
theorem mAll_calm {k n : Nat} {d : ByteArray} {rows : List (List Nat)} {p : PW} (hc : Calm p) : ∀ xs : List (Nat × Got), (∀ x ∈ xs, x.1 < p.n) →
 Calm (mAll k n d rows p xs).2.2 ∧ (mAll k n d rows p xs).2.2.n = p.n ∧ (∀ j, j ∉ xs.map (·.1) → (mAll k n d rows p xs).2.2.st j = p.st j) ∧ (mAll k n d rows p xs).1 ≤ xs.length := by
 suffices H : ∀ (xs : List (Nat × Got)) (s : Nat × Int × PW), Calm s.2.2 → (∀ x ∈ xs, x.1 < s.2.2.n) → Calm (xs.foldl (mStep k n d rows) s).2.2 ∧ (xs.foldl (mStep k n d rows) s).2.2.n = s.2.2.n ∧ (∀ j, j ∉ xs.map (·.1) → (xs.foldl (mStep k n d rows) s).2.2.st j = s.2.2.st j) ∧ (xs.foldl (mStep k n d rows) s).1 ≤ s.1 + xs.length from fun xs hx => by
  have := H xs (0, 0, p) hc hx
  rwa [Nat.zero_add] at this
 intro xs
 induction xs with
 | nil => exact fun s hc _ => ⟨hc, rfl, fun _ _ => rfl, Nat.le_refl _⟩
 | cons x xs ih =>
   intro s hc hx
   obtain ⟨g1, g2, g3, g4⟩ := mStep_calm (k := k) (n := n) (d := d) (rows := rows) hc (hx x (by simp))
   obtain ⟨h1, h2, h3, h4⟩ := ih (mStep k n d rows s x) g1 fun y hy => by rw [g2]; exact hx y (by simp [hy])
   rw [List.foldl_cons]
   refine ⟨h1, h2.trans g2, fun j hj => ?_, ?_⟩
   ·simp only [List.map_cons, List.mem_cons, not_or] at hj
    rw [h3 j hj.2, g3 j hj.1]
   ·rw [List.length_cons]
    omega
theorem sel_fresh {s : Bool} {l : List Got} {pre : List (Nat × Got)} {x : Nat × Got} (h : pre ++ [x] <+: sel s 0 l) : x.1 ∉ pre.map (·.1) := by
 have h1 := (sel_rise s l 0).sublist (h.sublist.map (·.1))
 rw [List.map_append, List.pairwise_append] at h1
 intro hm
 have := h1.2.2 x.1 hm x.1 (by simp)
 omega
theorem sel_len (s : Bool) : ∀ (l : List Got) (i : Nat), (sel s i l).length ≤ l.length
 | [], _ => Nat.le_refl _
 | a :: l, i => by
   have := sel_len s l (i + 1)
   unfold sel
   split
   ·rw [List.length_cons, List.length_cons]; omega
   ·rw [List.length_cons]; omega
theorem sel_in {s : Bool} {l : List Got} {pre : List (Nat × Got)} (h : pre <+: sel s 0 l) : ∀ x ∈ pre, x.1 < l.length := fun x hx => by
 have := (sel_mem s l 0 x.1 x.2).1 (h.subset hx)
 exact (List.getElem?_eq_some_iff.1 this.2.1).1
theorem found_wide {K N : Nat} {hs : List Nat} {ps : List (List UInt8)} {p : List UInt8 × List (List Nat)} (h : Cod.foundF K N hs ps = .inr p) (hK : 0 < K) : Spr.wide p.2 = Cod.lenP ps := by
 unfold Cod.foundF at h
 split at h
 ·cases h
 ·split at h
  ·cases h
  ·rename_i ls hls
   split at h
   ·cases h
   ·split at h
    ·cases h
     unfold Cod.firstF at hls
     split at hls
     ·split at hls
      ·cases hls
      ·cases hls
       unfold Cod.outL
       have hl : (Sol.turnL K (Sol.pick (Cod.matL K N) hs)).length = K := by simp [Sol.turnL]
       rw [hl, Spr.wide, Cod.getD_map_range _ _ hK, List.length_map, List.length_range]
       unfold Spr.wide Cod.nsOf Cod.lenP
       cases ps <;> simp
     ·cases hls
    ·cases h
/-! ### what stands while the rounds go -/
theorem IntsN.fr {W W' : World} {v : Value} {l : List Nat} {X : List Nat} (h : Cod.IntsN W v l) (hf : Fr X W W') (hX : ∀ g, v.ownBlock = some g → 0 < l.length → g ∉ X) : Cod.IntsN W' v l := by
 obtain ⟨A, c, rfl, h5, h2⟩ := h
 refine ⟨A, c, rfl, h5, fun i x hi => ?_⟩
 obtain ⟨b, q, rfl, h4⟩ := h2 i x hi
 exact ⟨b, q, rfl, (World.cell?_of_block (hf.block b (lt_cell h4) (hX b rfl (by have := (List.getElem?_eq_some_iff.1 hi).1; omega)))).trans h4⟩
theorem StrsN.fr {W W' : World} {v : Value} {l : List (List UInt8)} {X : List Nat} (h : Cod.StrsN W v l) (hf : Fr X W W') (hX : ∀ g, v.ownBlock = some g → 0 < l.length → g ∉ X) : Cod.StrsN W' v l := by
 obtain ⟨A, c, rfl, h5, h2⟩ := h
 refine ⟨A, c, rfl, h5, fun i x hi => ?_⟩
 obtain ⟨b, q, rfl, h4⟩ := h2 i x hi
 exact ⟨b, q, rfl, (World.cell?_of_block (hf.block b (lt_cell h4) (hX b rfl (by have := (List.getElem?_eq_some_iff.1 hi).1; omega)))).trans h4⟩
structure MC (x4 x6 x7 x8 x10 x11 x12 bb bs B b : Nat) (k n : Nat) (d : ByteArray) (gv v1 v2 : Value) (l : List Got) (t : Bool) (W : World) : Prop where
 code : Blk W x4 25 #[.int .i64 (k : Int), .int .i64 (n : Int)]
 r6 : Boxed W x6 3 (.int .i64 0)
 r7 : Boxed W x7 27 (.int .i64 0)
 b8 : Boxed W x8 88 (.pointer (some ⟨B, 0, none⟩))
 h10 : Boxed W x10 54 v1
 p11 : Boxed W x11 60 v2
 t12 : Boxed W x12 4 (.bool t)
 wch : Wch bb bs B b k n d gv l false W
 ints : Cod.IntsN W v1 (haveL l k)
 strs : Cod.StrsN W v2 (paysOf l k)
 vars : Shd.Vars W
def mcO (x4 x6 x7 x8 x10 x11 x12 bb bs B : Nat) (gv : Value) : List Nat := [x4, x6, x7, x8, x10, x11, x12] ++ wchO bb bs B gv
section
variable {x4 x6 x7 x8 x10 x11 x12 bb bs B b : Nat} {k n : Nat} {d : ByteArray} {gv v1 v2 : Value} {l : List Got} {t : Bool} {W W' : World}
theorem MC.keep (h : MC x4 x6 x7 x8 x10 x11 x12 bb bs B b k n d gv v1 v2 l t W) {X : List Nat} (hf : Fr X W W') (hX : ∀ y, y ∈ mcO x4 x6 x7 x8 x10 x11 x12 bb bs B gv → y ∉ X) (hXi : ∀ g, v1.ownBlock = some g → 0 < (haveL l k).length → g ∉ X) (hXs : ∀ g, v2.ownBlock = some g → 0 < (paysOf l k).length → g ∉ X) (hv : Far X) : MC x4 x6 x7 x8 x10 x11 x12 bb bs B b k n d gv v1 v2 l t W' := by
 have hx : ∀ y, y ∈ mcO x4 x6 x7 x8 x10 x11 x12 bb bs B gv → y < W.heap.size → W'.heap[y]? = W.heap[y]? := fun y hy hl => hf.block y hl (hX y hy)
 refine ⟨(hx _ (by simp [mcO]) h.code.lt).trans h.code, (hx _ (by simp [mcO]) h.r6.lt).trans h.r6, (hx _ (by simp [mcO]) h.r7.lt).trans h.r7, (hx _ (by simp [mcO]) h.b8.lt).trans h.b8, (hx _ (by simp [mcO]) h.h10.lt).trans h.h10, (hx _ (by simp [mcO]) h.p11.lt).trans h.p11, (hx _ (by simp [mcO]) h.t12.lt).trans h.t12,
  h.wch.keep fun y hy => hx y (by simp [mcO, hy]) (h.wch.lt y hy), IntsN.fr h.ints hf hXi, StrsN.fr h.strs hf hXs, vars_fr h.vars hf hv⟩
end
def MI (w5 : World) (x13 x14 b : Nat) (O5 : List Nat) (s : Nat × Int × PW) (W : World) : Prop :=
 Boxed W x13 3 (.int .i64 (s.1 : Nat)) ∧ Boxed W x14 27 (.int .i64 s.2.1) ∧ ∃ O', WAt W b s.2.2 O' ∧ Fr (x13 :: x14 :: O5) w5 W ∧ ∀ y, y ∈ O' → y ∈ O5 ∨ w5.heap.size + 2 ≤ y
section
variable {w5 W W' : World} {x13 x14 b : Nat} {O5 : List Nat} {s : Nat × Int × PW}
theorem MI.ext (h : MI w5 x13 x14 b O5 s W) (hE : Stab.Ext W W') : MI w5 x13 x14 b O5 s W' := by
 obtain ⟨h1, h2, O', h3, h4, h5⟩ := h
 exact ⟨(hE.block _ h1.lt).trans h1, (hE.block _ h2.lt).trans h2, O', h3.keep (Fr.of_below (O := []) hE) (by simp), h4.trans (Fr.of_below (O := []) hE) (by simp), h5⟩
theorem MI.put (h : MI w5 x13 x14 b O5 s W) (h13 : x13 < w5.heap.size) (h14 : x14 < w5.heap.size) (hO : ∀ y, y ∈ O5 → y < w5.heap.size) {q : Nat} (hq : q = w5.heap.size ∨ q = w5.heap.size + 1) (o : Obj) : MI w5 x13 x14 b O5 s (W.putObj q o) := by
 obtain ⟨h1, h2, O', h3, h4, h5⟩ := h
 have hf : Fr [q] W (W.putObj q o) := ⟨rfl, rfl, rfl, by simp [World.putObj], fun y hy hn => World.putObj_heap_other (by simpa using hn)⟩
 refine ⟨(World.putObj_heap_other (by omega)).trans h1, (World.putObj_heap_other (by omega)).trans h2, O', h3.keep hf fun y hy hm => ?_, h4.trans hf fun y hy hl => ?_, h5⟩
 ·simp only [List.mem_singleton] at hm
  subst hm
  rcases h5 _ hy with h6 | h6
  ·have := hO _ h6; omega
  ·omega
 ·simp only [List.mem_singleton] at hy
  omega
end
def MendPost (w : World) (O : List Nat) (b : Nat) (p : PW) (k n : Nat) (d : ByteArray) : Ending → World → Prop :=
 WPost w b O (.tuple #[.int .i64 ((mendR p k n d).1 : Nat), .int .i64 (mendR p k n d).2.1]) (mendR p k n d).2.2
theorem which_ext (m : Nat) (hm : 2 ≤ m) {bb bs B b : Nat} {k n : Int} {d : ByteArray} {gv : Value} {l : List Got} {s : Bool} (hll : l.length ≤ 1000) (Kp : World → World → Prop) (hKp : ∀ W W', Kp W W' → ∀ x, x ∈ wchO bb bs B gv → W'.heap[x]? = W.heap[x]?)
 (w : World) (hw : Wch bb bs B b k n d gv l s w) :
 SeqExt m Tryz.prog 86 #[.pointer (some ⟨bb, 0, none⟩), .pointer (some ⟨bs, 0, none⟩)] encG Kp (fun ys => ys = sel s 0 l) (fun pre => pre <+: sel s 0 l) (fun pre x => pre ++ [x] <+: sel s 0 l) w :=
 fun lp J Jx W hW hA hY h0 => which1_in m hm lp hll Kp hKp J Jx hA hY W (hw.keep fun x hx => hW.block x (hw.lt x hx)) h0
end Hlt
end Go.Proofs.YtnbkhdbligjifaaGreatDoor
namespace Go.Proofs.YtnbkhdbligjifaaGreatDoor
open Go Go.RowKit
namespace Cod
def turnsB (K N : Nat) (hs : List Nat) : Bool := (Sol.turnD K (Sol.pick (matL K N) hs)).1 == K && (List.range K).all fun i => (List.range K).all fun l => Gf.sm (fun j => Fld.gm ((Sol.turnW K (Sol.pick (matL K N) hs)).2 i (K + j)) (Sol.pick (matL K N) hs j l)) K == if i = l then 1 else 0
theorem turns_of {K N : Nat} {hs : List Nat} (h : turnsB K N hs = true) : Turns K N hs := by
 unfold turnsB at h
 rw [Bool.and_eq_true] at h
 refine ⟨by simpa using h.1, fun i hi l hl => ?_⟩
 have := List.all_eq_true.1 (List.all_eq_true.1 h.2 i (List.mem_range.2 hi)) l (List.mem_range.2 hl)
 simpa using this
def rows3 : Nat → List (List Nat)
 | 1 => [[0], [1], [2]]
 | 2 => [[0, 1], [0, 2], [1, 2]]
 | 3 => [[0, 1, 2]]
 | _ => []
theorem turns3 {K : Nat} {hs : List Nat} (h : hs ∈ rows3 K) : Turns K 3 hs := by
 match K, h with
 | 1, h =>
   simp only [rows3, List.mem_cons, List.not_mem_nil, or_false] at h
   rcases h with rfl | rfl | rfl <;> exact turns_of (by decide +kernel)
 | 2, h =>
   simp only [rows3, List.mem_cons, List.not_mem_nil, or_false] at h
   rcases h with rfl | rfl | rfl <;> exact turns_of (by decide +kernel)
 | 3, h =>
   simp only [rows3, List.mem_cons, List.not_mem_nil, or_false] at h
   subst h; exact turns_of (by decide +kernel)
 | 0, h => simp [rows3] at h
 | K + 4, h => simp [rows3] at h
theorem rows3_of {hs : List Nat} (hr : hs.Pairwise (· < ·)) (hlt : ∀ x ∈ hs, x < 3) (h0 : 0 < hs.length) : hs ∈ rows3 hs.length := by
 match hs, hr, hlt, h0 with
 | [a], hr, hlt, _ =>
   have := hlt a (by simp)
   have h3 : a = 0 ∨ a = 1 ∨ a = 2 := by omega
   rcases h3 with rfl | rfl | rfl <;> simp [rows3]
 | [a, b], hr, hlt, _ =>
   have h1 := hlt a (by simp)
   have h2 := hlt b (by simp)
   simp only [List.pairwise_cons, List.mem_cons, List.not_mem_nil, or_false, forall_eq] at hr
   have h3 : (a = 0 ∧ b = 1) ∨ (a = 0 ∧ b = 2) ∨ (a = 1 ∧ b = 2) := by omega
   rcases h3 with ⟨rfl, rfl⟩ | ⟨rfl, rfl⟩ | ⟨rfl, rfl⟩ <;> simp [rows3]
 | [a, b, c], hr, hlt, _ =>
   have h1 := hlt a (by simp)
   have h2 := hlt b (by simp)
   have h3 := hlt c (by simp)
   simp only [List.pairwise_cons, List.mem_cons, List.not_mem_nil, or_false, forall_eq_or_imp, forall_eq] at hr
   have h4 : a = 0 ∧ b = 1 ∧ c = 2 := by omega
   obtain ⟨rfl, rfl, rfl⟩ := h4
   simp [rows3]
 | a :: b :: c :: e :: r, hr, hlt, _ =>
   have h1 := hlt a (by simp)
   have h4 := hlt e (by simp)
   simp only [List.pairwise_cons, List.mem_cons, forall_eq_or_imp] at hr
   omega
end Cod
end Go.Proofs.YtnbkhdbligjifaaGreatDoor
