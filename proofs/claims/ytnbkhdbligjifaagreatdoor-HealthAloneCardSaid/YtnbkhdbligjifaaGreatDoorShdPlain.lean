/-
 A world in memory: a call of a store. A world in memory: Put, Sync, Get. Plain words for names and hexes: what a hex is, what a name is, that names tell apart. No program is named.
-/
import Derived.Test.YtnbkhdbligjifaaGreatDoorWldA
import Derived.Test.YtnbkhdbligjifaaGreatDoorStoC
import Derived.WalkKit
import Derived.Lib.ItoaMem
import Derived.Lib.AtoiAll
import Derived.Lib.IndexMore
set_option linter.unusedVariables false
set_option linter.unusedSimpArgs false
namespace Go.Proofs.YtnbkhdbligjifaaGreatDoor
open Go Go.RowKit
namespace Vm
set_option linter.unusedVariables false
def PW.stepd (p : PW) : Bool := p.dark || decide (p.left = 0)
def PW.step (p : PW) : PW := { p with calls := wrap64 (p.calls + 1), dark := p.stepd, left := if p.stepd then p.left else if 0 < p.left then wrap64 (p.left - 1) else p.left }
def callV (p : PW) (i : Int) (z v : Value) : Value := if p.has i then if p.stepd then .tuple #[z, .int .i64 56] else v else .tuple #[z, .int .i64 1]
def callP (p : PW) (i : Int) (s' : PSt) : PW := if p.has i then if p.stepd then p.step else { p.step with st := upd p.st i.toNat s' } else p
theorem WIs.dark2 {w : World} {b : Nat} {p : PW} {v : Value} {Bf : Nat → Nat} {Of : Nat → List Nat} (h : WIs w b p v Bf Of) {D : Bool} (hd : p.stepd = D) (hn : D = true ∨ ¬ 0 < p.left) :
   WIs ((w.setCell ⟨b, 1, none⟩ (.int .i64 (wrap64 (p.calls + 1)))).setCell ⟨b, 3, none⟩ (.bool D)) b p.step v Bf Of ∧ Fr [b] w ((w.setCell ⟨b, 1, none⟩ (.int .i64 (wrap64 (p.calls + 1)))).setCell ⟨b, 3, none⟩ (.bool D)) := by
 have f1 := Fr.cell w ⟨b, 1, none⟩ (.int .i64 (wrap64 (p.calls + 1)))
 have f2 := f1.trans (Fr.cell (w.setCell ⟨b, 1, none⟩ (.int .i64 (wrap64 (p.calls + 1)))) ⟨b, 3, none⟩ (.bool D)) (fun k hk _ => hk)
 have he : p.step = { p with calls := wrap64 (p.calls + 1), dark := D } := by
   unfold PW.step
   rw [hd]
   rcases hn with rfl | hn
   · rfl
   · cases D
     · simp [hn]
     · rfl
 rw [he]
 exact ⟨h.head ((h.blk.set_ 1 _).set_ 3 _) f2 rfl rfl rfl, f2⟩
theorem WIs.dark3 {w : World} {b : Nat} {p : PW} {v : Value} {Bf : Nat → Nat} {Of : Nat → List Nat} (h : WIs w b p v Bf Of) (hd : p.stepd = false) (hn : 0 < p.left) :
   WIs (((w.setCell ⟨b, 1, none⟩ (.int .i64 (wrap64 (p.calls + 1)))).setCell ⟨b, 3, none⟩ (.bool false)).setCell ⟨b, 2, none⟩ (.int .i64 (wrap64 (p.left - 1)))) b p.step v Bf Of ∧ Fr [b] w (((w.setCell ⟨b, 1, none⟩ (.int .i64 (wrap64 (p.calls + 1)))).setCell ⟨b, 3, none⟩ (.bool false)).setCell ⟨b, 2, none⟩ (.int .i64 (wrap64 (p.left - 1)))) := by
 have f1 := Fr.cell w ⟨b, 1, none⟩ (.int .i64 (wrap64 (p.calls + 1)))
 have f2 := f1.trans (Fr.cell (w.setCell ⟨b, 1, none⟩ (.int .i64 (wrap64 (p.calls + 1)))) ⟨b, 3, none⟩ (.bool false)) (fun k hk _ => hk)
 have f3 := f2.trans (Fr.cell ((w.setCell ⟨b, 1, none⟩ (.int .i64 (wrap64 (p.calls + 1)))).setCell ⟨b, 3, none⟩ (.bool false)) ⟨b, 2, none⟩ (.int .i64 (wrap64 (p.left - 1)))) (fun k hk _ => hk)
 have he : p.step = { p with calls := wrap64 (p.calls + 1), dark := false, left := wrap64 (p.left - 1) } := by
   unfold PW.step
   rw [hd]
   simp [hn]
 rw [he]
 exact ⟨h.head (((h.blk.set_ 1 _).set_ 3 _).set_ 2 _) f3 rfl rfl rfl, f3⟩
theorem WIs.done {w w1 w2 : World} {b : Nat} {p : PW} {v : Value} {Bf : Nat → Nat} {Of : Nat → List Nat} {i : Int} {x z : Value} {s' : PSt} {e : Ending} (h1 : WIs w1 b p.step v Bf Of) (hf : Fr [b] w w1) (hi0 : 0 ≤ i) (hi1 : i < (p.n : Int)) (hh : p.has i = true) (hd : p.stepd = false)
   (hp : StPost w1 (Bf i.toNat) (Of i.toNat) x s' e w2) : WPost w b (wOwn b v p.n Of) (callV p i z x) (callP p i s') (.returned x) w2 := by
 obtain ⟨_, O', q1, q2, q3⟩ := hp
 have hn : p.step.n = p.n := rfl
 have hs : p.step.st = p.st := rfl
 have h2 := h1.store (i := i.toNat) (by rw [hn]; omega) q1 q2 q3
 have he : callP p i s' = { p.step with st := upd p.step.st i.toNat s' } := by simp [callP, hh, hd, hs]
 have hv : callV p i z x = x := by simp [callV, hh, hd]
 rw [he, hv]
 refine ⟨rfl, _, ⟨v, Bf, _, h2, rfl⟩, ?_, ?_⟩
 · refine (hf.sub (O' := wOwn b v p.n Of) fun k hk => ?_).trans q2 fun k hk _ => ?_
   · simp only [List.mem_singleton] at hk; exact mem_wOwn.2 (.inl hk)
   · exact mem_wOwn.2 (.inr (.inr ⟨i.toNat, by omega, hk⟩))
 · intro k hk
   rcases mem_wOwn.1 hk with rfl | hg | ⟨j, hj, hk⟩
   · exact .inl (mem_wOwn.2 (.inl rfl))
   · exact .inl (mem_wOwn.2 (.inr (.inl hg)))
   · by_cases hji : j = i.toNat
     · subst hji
       rw [upd_same] at hk
       rcases q3 k hk with h | h
       · exact .inl (mem_wOwn.2 (.inr (.inr ⟨i.toNat, by omega, h⟩)))
       · exact .inr (Nat.le_trans hf.size h)
     · rw [upd_ne _ _ hji] at hk
       exact .inl (mem_wOwn.2 (.inr (.inr ⟨j, hj, hk⟩)))
theorem WIs.told {w w1 : World} {b : Nat} {p : PW} {v : Value} {Bf : Nat → Nat} {Of : Nat → List Nat} {i : Int} {x z : Value} {s' : PSt} (h1 : WIs w1 b p.step v Bf Of) (hf : Fr [b] w w1) (hh : p.has i = true) (hd : p.stepd = true) :
   WPost w b (wOwn b v p.n Of) (callV p i z x) (callP p i s') (.returned (.tuple #[z, .int .i64 56])) w1 := by
 have he : callP p i s' = p.step := by simp [callP, hh, hd]
 have hv : callV p i z x = .tuple #[z, .int .i64 56] := by simp [callV, hh, hd]
 rw [he, hv]
 exact ⟨rfl, _, ⟨v, Bf, Of, h1, rfl⟩, hf.sub fun k hk => by simp only [List.mem_singleton] at hk; exact mem_wOwn.2 (.inl hk), fun k hk => .inl hk⟩
set_option maxRecDepth 100000 in
set_option maxHeartbeats 4000000 in
theorem callB_any {w : World} {b : Nat} {p : PW} {v : Value} {Bf : Nat → Nat} {Of : Nat → List Nat} (h : WIs w b p v Bf Of) (i : Int) (c1 : Nat) (x1 x2 : Value) (s' : PSt)
   (hdo : ∀ w1, Fr [b] w w1 → SAt w1 (Bf i.toNat) (p.st i.toNat) (Of i.toNat) → Calls Tryz.prog 107 #[.pointer (some ⟨Bf i.toNat, 0, none⟩), .pointer (some ⟨c1, 0, none⟩)] w1 (StPost w1 (Bf i.toNat) (Of i.toNat) (.tuple #[x1, x2]) s')) :
   Calls Tryz.prog 106 #[.pointer (some ⟨b, 0, none⟩), .int .i64 i, .func (.func 107) #[] #[.pointer (some ⟨c1, 0, none⟩)]] w (WPost w b (wOwn b v p.n Of) (callV p i (.bool false) (.tuple #[x1, x2])) (callP p i s')) := by
 have HHAS := Lib.hid (has_any ⟨v, Bf, Of, h, rfl⟩ i)
 cases hh : p.has i with
 | false =>
   have HE := Lib.hid (show callV p i (.bool false) (.tuple #[x1, x2]) = .tuple #[.bool false, .int .i64 1] ∧ callP p i s' = p from ⟨by simp [callV, hh], by simp [callP, hh]⟩)
   have H := Lib.hid h
   rw [hh] at HHAS
   clear h hdo
   go_enter Tryz.func106, Tryz.ntmps106
   go_wp2_with (go_at_call 41; with_reducible refine HHAS.out.mono ?_)
   rintro e w1 ⟨rfl, rfl⟩
   go_wp2_with fail
   go_ret2
   rw [HE.out.1, HE.out.2]
   exact ⟨rfl, _, ⟨v, Bf, Of, H.out, rfl⟩, Fr.refl _ _, fun k hk => .inl hk⟩
 | true =>
   have hi : 0 ≤ i ∧ i < (p.n : Int) := of_decide_eq_true hh
   obtain ⟨hi0, hi1⟩ := hi
   obtain ⟨g, cap, rfl, hc1, -⟩ := h.rowc (i := i.toNat) (by omega)
   have c0 := h.c0
   have c1' := h.c1
   have c2 := h.c2
   have c3 := h.c3
   have z1 := h.blk.frozen 1
   have z2 := h.blk.frozen 2
   have z3 := h.blk.frozen 3
   have hgb : g ≠ b := fun he => h.ne (by rw [he]; rfl)
   have HH := Lib.hid hh
   have H := Lib.hid h
   have HDO := Lib.hid hdo
   rw [hh] at HHAS
   clear h hdo hh
   cases hd : p.dark with
   | true =>
     rw [hd] at c3
     obtain ⟨h1, hf1⟩ := H.out.dark2 (D := true) (by simp [PW.stepd, hd]) (.inl rfl)
     have HX := Lib.hid (h1.told (i := i) (z := .bool false) (x := .tuple #[x1, x2]) (s' := s') hf1 HH.out (by simp [PW.stepd, hd]))
     clear h1 hf1
     go_enter Tryz.func106, Tryz.ntmps106
     go_wp2_with (go_at_call 41; with_reducible refine HHAS.out.mono ?_)
     intro e w1 hq
     obtain ⟨rfl, rfl⟩ := hq
     go_wp2_with fail
     go_ret2
     exact HX.out
   | false =>
     rw [hd] at c3
     by_cases hl : p.left = 0
     · have hle : (p.left == 0) = true := by simp [hl]
       obtain ⟨h1, hf1⟩ := H.out.dark2 (D := true) (by simp [PW.stepd, hl]) (.inl rfl)
       have HX := Lib.hid (h1.told (i := i) (z := .bool false) (x := .tuple #[x1, x2]) (s' := s') hf1 HH.out (by simp [PW.stepd, hl]))
       clear h1 hf1
       go_enter Tryz.func106, Tryz.ntmps106
       go_wp2_with (go_at_call 41; with_reducible refine HHAS.out.mono ?_)
       intro e w1 hq
       obtain ⟨rfl, rfl⟩ := hq
       go_wp2_with fail
       go_ret2
       exact HX.out
     · have hle : (p.left == 0) = false := by simp [hl]
       by_cases hp : 0 < p.left
       · obtain ⟨h1, hf1⟩ := H.out.dark3 (by simp [PW.stepd, hd, hl]) hp
         have HX := Lib.hid (fun x e w2 hq => h1.done (z := .bool false) (x := x) (s' := s') (w2 := w2) (e := e) hf1 hi0 hi1 HH.out (by simp [PW.stepd, hd, hl]) hq)
         have HQ := Lib.hid (HDO.out _ hf1 (h1.st i.toNat (by show i.toNat < p.n; omega)))
         clear h1 hf1
         go_enter Tryz.func106, Tryz.ntmps106
         go_wp2_with (go_at_call 41; with_reducible refine HHAS.out.mono ?_)
         intro e w1 hq
         obtain ⟨rfl, rfl⟩ := hq
         go_wp2_with (go_at_call 107; with_reducible refine HQ.out.mono ?_)
         intro e w9 hq
         have HY := Lib.hid (HX.out _ _ _ hq)
         obtain ⟨rfl, -⟩ := hq
         go_wp2_with fail
         go_ret2
         exact HY.out
       · obtain ⟨h1, hf1⟩ := H.out.dark2 (D := false) (by simp [PW.stepd, hd, hl]) (.inr hp)
         have HX := Lib.hid (fun x e w2 hq => h1.done (z := .bool false) (x := x) (s' := s') (w2 := w2) (e := e) hf1 hi0 hi1 HH.out (by simp [PW.stepd, hd, hl]) hq)
         have HQ := Lib.hid (HDO.out _ hf1 (h1.st i.toNat (by show i.toNat < p.n; omega)))
         clear h1 hf1
         have hp2 : p.left < 0 := by omega
         clear hp
         go_enter Tryz.func106, Tryz.ntmps106
         go_wp2_with (go_at_call 41; with_reducible refine HHAS.out.mono ?_)
         intro e w1 hq
         obtain ⟨rfl, rfl⟩ := hq
         go_wp2_with (go_at_call 107; with_reducible refine HQ.out.mono ?_)
         intro e w9 hq
         have HY := Lib.hid (HX.out _ _ _ hq)
         obtain ⟨rfl, -⟩ := hq
         go_wp2_with fail
         go_ret2
         exact HY.out
set_option maxRecDepth 100000 in
set_option maxHeartbeats 4000000 in
theorem callS_any {w : World} {b : Nat} {p : PW} {v : Value} {Bf : Nat → Nat} {Of : Nat → List Nat} (h : WIs w b p v Bf Of) (i : Int) (c1 : Nat) (x1 x2 : Value) (s' : PSt)
   (hdo : ∀ w1, Fr [b] w w1 → SAt w1 (Bf i.toNat) (p.st i.toNat) (Of i.toNat) → Calls Tryz.prog 121 #[.pointer (some ⟨Bf i.toNat, 0, none⟩), .pointer (some ⟨c1, 0, none⟩)] w1 (StPost w1 (Bf i.toNat) (Of i.toNat) (.tuple #[x1, x2]) s')) :
   Calls Tryz.prog 120 #[.pointer (some ⟨b, 0, none⟩), .int .i64 i, .func (.func 121) #[] #[.pointer (some ⟨c1, 0, none⟩)]] w (WPost w b (wOwn b v p.n Of) (callV p i (.string ⟨#[]⟩) (.tuple #[x1, x2])) (callP p i s')) := by
 have HHAS := Lib.hid (has_any ⟨v, Bf, Of, h, rfl⟩ i)
 cases hh : p.has i with
 | false =>
   have HE := Lib.hid (show callV p i (.string ⟨#[]⟩) (.tuple #[x1, x2]) = .tuple #[.string ⟨#[]⟩, .int .i64 1] ∧ callP p i s' = p from ⟨by simp [callV, hh], by simp [callP, hh]⟩)
   have H := Lib.hid h
   rw [hh] at HHAS
   clear h hdo
   go_enter Tryz.func120, Tryz.ntmps120
   go_wp2_with (go_at_call 41; with_reducible refine HHAS.out.mono ?_)
   rintro e w1 ⟨rfl, rfl⟩
   go_wp2_with fail
   go_ret2
   rw [HE.out.1, HE.out.2]
   exact ⟨rfl, _, ⟨v, Bf, Of, H.out, rfl⟩, Fr.refl _ _, fun k hk => .inl hk⟩
 | true =>
   have hi : 0 ≤ i ∧ i < (p.n : Int) := of_decide_eq_true hh
   obtain ⟨hi0, hi1⟩ := hi
   obtain ⟨g, cap, rfl, hc1, -⟩ := h.rowc (i := i.toNat) (by omega)
   have c0 := h.c0
   have c1' := h.c1
   have c2 := h.c2
   have c3 := h.c3
   have z1 := h.blk.frozen 1
   have z2 := h.blk.frozen 2
   have z3 := h.blk.frozen 3
   have hgb : g ≠ b := fun he => h.ne (by rw [he]; rfl)
   have HH := Lib.hid hh
   have H := Lib.hid h
   have HDO := Lib.hid hdo
   rw [hh] at HHAS
   clear h hdo hh
   cases hd : p.dark with
   | true =>
     rw [hd] at c3
     obtain ⟨h1, hf1⟩ := H.out.dark2 (D := true) (by simp [PW.stepd, hd]) (.inl rfl)
     have HX := Lib.hid (h1.told (i := i) (z := .string ⟨#[]⟩) (x := .tuple #[x1, x2]) (s' := s') hf1 HH.out (by simp [PW.stepd, hd]))
     clear h1 hf1
     go_enter Tryz.func120, Tryz.ntmps120
     go_wp2_with (go_at_call 41; with_reducible refine HHAS.out.mono ?_)
     intro e w1 hq
     obtain ⟨rfl, rfl⟩ := hq
     go_wp2_with fail
     go_ret2
     exact HX.out
   | false =>
     rw [hd] at c3
     by_cases hl : p.left = 0
     · have hle : (p.left == 0) = true := by simp [hl]
       obtain ⟨h1, hf1⟩ := H.out.dark2 (D := true) (by simp [PW.stepd, hl]) (.inl rfl)
       have HX := Lib.hid (h1.told (i := i) (z := .string ⟨#[]⟩) (x := .tuple #[x1, x2]) (s' := s') hf1 HH.out (by simp [PW.stepd, hl]))
       clear h1 hf1
       go_enter Tryz.func120, Tryz.ntmps120
       go_wp2_with (go_at_call 41; with_reducible refine HHAS.out.mono ?_)
       intro e w1 hq
       obtain ⟨rfl, rfl⟩ := hq
       go_wp2_with fail
       go_ret2
       exact HX.out
     · have hle : (p.left == 0) = false := by simp [hl]
       by_cases hp : 0 < p.left
       · obtain ⟨h1, hf1⟩ := H.out.dark3 (by simp [PW.stepd, hd, hl]) hp
         have HX := Lib.hid (fun x e w2 hq => h1.done (z := .string ⟨#[]⟩) (x := x) (s' := s') (w2 := w2) (e := e) hf1 hi0 hi1 HH.out (by simp [PW.stepd, hd, hl]) hq)
         have HQ := Lib.hid (HDO.out _ hf1 (h1.st i.toNat (by show i.toNat < p.n; omega)))
         clear h1 hf1
         go_enter Tryz.func120, Tryz.ntmps120
         go_wp2_with (go_at_call 41; with_reducible refine HHAS.out.mono ?_)
         intro e w1 hq
         obtain ⟨rfl, rfl⟩ := hq
         go_wp2_with (go_at_call 121; with_reducible refine HQ.out.mono ?_)
         intro e w9 hq
         have HY := Lib.hid (HX.out _ _ _ hq)
         obtain ⟨rfl, -⟩ := hq
         go_wp2_with fail
         go_ret2
         exact HY.out
       · obtain ⟨h1, hf1⟩ := H.out.dark2 (D := false) (by simp [PW.stepd, hd, hl]) (.inr hp)
         have HX := Lib.hid (fun x e w2 hq => h1.done (z := .string ⟨#[]⟩) (x := x) (s' := s') (w2 := w2) (e := e) hf1 hi0 hi1 HH.out (by simp [PW.stepd, hd, hl]) hq)
         have HQ := Lib.hid (HDO.out _ hf1 (h1.st i.toNat (by show i.toNat < p.n; omega)))
         clear h1 hf1
         have hp2 : p.left < 0 := by omega
         clear hp
         go_enter Tryz.func120, Tryz.ntmps120
         go_wp2_with (go_at_call 41; with_reducible refine HHAS.out.mono ?_)
         intro e w1 hq
         obtain ⟨rfl, rfl⟩ := hq
         go_wp2_with (go_at_call 121; with_reducible refine HQ.out.mono ?_)
         intro e w9 hq
         have HY := Lib.hid (HX.out _ _ _ hq)
         obtain ⟨rfl, -⟩ := hq
         go_wp2_with fail
         go_ret2
         exact HY.out
end Vm
end Go.Proofs.YtnbkhdbligjifaaGreatDoor
namespace Go.Proofs.YtnbkhdbligjifaaGreatDoor
open Go Go.RowKit
namespace Vm
set_option linter.unusedVariables false
def callE (p : PW) (i : Int) (e : Int) : Int := if p.has i then if p.stepd then 56 else e else 1
def callOk (p : PW) (i : Int) : Bool := p.has i && !p.stepd
theorem callV_b (p : PW) (i e : Int) : callV p i (.bool false) (.tuple #[.bool true, .int .i64 e]) = .tuple #[.bool (callOk p i), .int .i64 (callE p i e)] := by
 unfold callV callOk callE
 cases p.has i <;> cases p.stepd <;> rfl
theorem WPost.front {w w1 w2 : World} {b : Nat} {O : List Nat} {x : Value} {p' : PW} {e : Ending} (hp : WPost w1 b O x p' e w2) (hf : Fr O w w1) : WPost w b O x p' e w2 := by
 obtain ⟨h, O', h1, h2, h3⟩ := hp
 exact ⟨h, O', h1, hf.next h2, fun k hk => (h3 k hk).imp id fun h => Nat.le_trans hf.size h⟩
theorem WPost.told {w w2 : World} {b : Nat} {O : List Nat} {x : Value} {p' : PW} {e : Ending} (hp : WPost w b O x p' e w2) (y : Value) : WPost w b O y p' (.returned y) w2 := by
 obtain ⟨h, O', h1, h2, h3⟩ := hp
 exact ⟨rfl, O', h1, h2, h3⟩
theorem StPost.told {w w2 : World} {b : Nat} {O : List Nat} {x : Value} {p' : PSt} {e : Ending} (hp : StPost w b O x p' e w2) (y : Value) : StPost w b O y p' (.returned y) w2 := by
 obtain ⟨h, O', h1, h2, h3⟩ := hp
 exact ⟨rfl, O', h1, h2, h3⟩
structure PSt.Ok (s : PSt) : Prop where
 small : Small s.seen
 writes : s.writes.length ≤ 1000000
 room : -9223372036854775808 ≤ s.room ∧ s.room ≤ 9223372036854775807
set_option maxHeartbeats 1000000 in
theorem put1_any {w : World} {B : Nat} {s : PSt} {O : List Nat} (h : SAt w B s O) (hs : s.Ok) (N D : List UInt8) (hN : N.length ≤ 1000000) (hD : D.length ≤ 1000000) (c2 : Nat) (k0 : w.cell? ⟨c2, 0, none⟩ = some (.string ⟨N.toArray⟩)) (k1 : w.cell? ⟨c2, 1, none⟩ = some (.string ⟨D.toArray⟩)) :
   Calls Tryz.prog 79 #[.pointer (some ⟨B, 0, none⟩), .pointer (some ⟨c2, 0, none⟩)] w (StPost w B O (.int .i64 (putE s ⟨N.toArray⟩ ⟨D.toArray⟩)) (putS s ⟨N.toArray⟩ ⟨D.toArray⟩)) := by
 have HC := Lib.hid (put_any h hs.small hs.writes hs.room N D hN hD)
 clear h
 go_enter Tryz.func79, Tryz.ntmps79
 go_wp2_with (go_at_call 80; with_reducible refine HC.out.mono ?_)
 intro e w1 hq
 have HQ := Lib.hid hq
 obtain ⟨rfl, -⟩ := hq
 go_wp2_with fail
 go_ret
 exact HQ.out
set_option maxHeartbeats 1000000 in
theorem writeP1_any {w : World} {B : Nat} {s : PSt} {O : List Nat} (h : SAt w B s O) (hs : s.Ok) (N D : List UInt8) (hN : N.length ≤ 1000000) (hD : D.length ≤ 1000000) (c1 c2 : Nat) (k0 : w.cell? ⟨c2, 0, none⟩ = some (.string ⟨N.toArray⟩)) (k1 : w.cell? ⟨c2, 1, none⟩ = some (.string ⟨D.toArray⟩))
   (k2 : w.cell? ⟨c1, 0, none⟩ = some (.func (.func 79) #[] #[.pointer (some ⟨c2, 0, none⟩)])) :
   Calls Tryz.prog 107 #[.pointer (some ⟨B, 0, none⟩), .pointer (some ⟨c1, 0, none⟩)] w (StPost w B O (.tuple #[.bool true, .int .i64 (putE s ⟨N.toArray⟩ ⟨D.toArray⟩)]) (putS s ⟨N.toArray⟩ ⟨D.toArray⟩)) := by
 have HC := Lib.hid (put1_any h hs N D hN hD c2 k0 k1)
 clear h k0 k1
 go_enter Tryz.func107, Tryz.ntmps107
 go_wp2_with (go_at_call 79; with_reducible refine HC.out.mono ?_)
 intro e w1 hq
 have HQ := Lib.hid hq
 obtain ⟨rfl, -⟩ := hq
 go_wp2_with fail
 go_ret2
 exact HQ.out.told _
set_option maxHeartbeats 1000000 in
theorem writeS1_any {w : World} {B : Nat} {s : PSt} {O : List Nat} (h : SAt w B s O) (c1 : Nat) (k2 : w.cell? ⟨c1, 0, none⟩ = some (.func (.func 81) #[] #[])) :
   Calls Tryz.prog 107 #[.pointer (some ⟨B, 0, none⟩), .pointer (some ⟨c1, 0, none⟩)] w (StPost w B O (.tuple #[.bool true, .int .i64 (syncV s)]) (syncS s)) := by
 have HC := Lib.hid (sync_any h)
 clear h
 go_enter Tryz.func107, Tryz.ntmps107
 go_wp2_with (go_at_call 81; with_reducible refine HC.out.mono ?_)
 intro e w1 hq
 have HQ := Lib.hid hq
 obtain ⟨rfl, -⟩ := hq
 go_wp2_with fail
 go_ret2
 exact HQ.out.told _
set_option maxHeartbeats 1000000 in
theorem get1_any {w : World} {B : Nat} {s : PSt} {O : List Nat} (h : SAt w B s O) (name : ByteArray) (c1 : Nat) (k0 : w.cell? ⟨c1, 0, none⟩ = some (.string name)) (x : ByteArray) (y : Int) (hv : gotV s name = .tuple #[.string x, .int .i64 y]) :
   Calls Tryz.prog 121 #[.pointer (some ⟨B, 0, none⟩), .pointer (some ⟨c1, 0, none⟩)] w (StPost w B O (.tuple #[.string x, .int .i64 y]) s) := by
 have HC := Lib.hid (get_any h name)
 have H := Lib.hid h
 clear h
 unfold GetPost at HC
 rw [hv] at HC
 clear hv
 go_enter Tryz.func121, Tryz.ntmps121
 go_wp2_with (go_at_call 122; with_reducible refine HC.out.mono ?_)
 rintro e w1 ⟨rfl, rfl⟩
 go_wp2_with fail
 go_ret2
 exact ⟨rfl, O, H.out, Fr.refl _ _, fun k hk => .inl hk⟩
set_option maxHeartbeats 1000000 in
theorem writeP_any {w : World} {b : Nat} {p : PW} {O : List Nat} (h : WAt w b p O) (i : Int) (N D : List UInt8) (hN : N.length ≤ 1000000) (hD : D.length ≤ 1000000) (hs : (p.st i.toNat).Ok) (c2 : Nat) (hc : c2 ≠ b) (k0 : w.cell? ⟨c2, 0, none⟩ = some (.string ⟨N.toArray⟩)) (k1 : w.cell? ⟨c2, 1, none⟩ = some (.string ⟨D.toArray⟩)) :
   Calls Tryz.prog 78 #[.pointer (some ⟨b, 0, none⟩), .int .i64 i, .func (.func 79) #[] #[.pointer (some ⟨c2, 0, none⟩)]] w
     (WPost w b O (.int .i64 (callE p i (putE (p.st i.toNat) ⟨N.toArray⟩ ⟨D.toArray⟩))) (callP p i (putS (p.st i.toNat) ⟨N.toArray⟩ ⟨D.toArray⟩))) := by
 obtain ⟨v, Bf, Of, h, rfl⟩ := h
 have hlt := h.blk.lt
 have hl2 : c2 < w.heap.size := lt_cell k0
 have hw0 : Fr [] w (w.alloc (.cells #[.func (.func 79) #[] #[.pointer (some ⟨c2, 0, none⟩)]] 147)) := Fr.alloc _ _
 have nb := Blk.new w 147 #[.func (.func 79) #[] #[.pointer (some ⟨c2, 0, none⟩)]]
 have m0 := (hw0.below.cell (p := ⟨c2, 0, none⟩) hl2).trans k0
 have m1 := (hw0.below.cell (p := ⟨c2, 1, none⟩) hl2).trans k1
 have HC := Lib.hid (callB_any (h.keep hw0 (by simp)) i w.heap.size (.bool true) (.int .i64 (putE (p.st i.toNat) ⟨N.toArray⟩ ⟨D.toArray⟩)) (putS (p.st i.toNat) ⟨N.toArray⟩ ⟨D.toArray⟩)
   (fun w1 hf hst => writeP1_any hst hs N D hN hD _ c2 ((World.cell?_of_block (hf.block c2 (lt_cell m0) (by simpa using hc))).trans m0) ((World.cell?_of_block (hf.block c2 (lt_cell m0) (by simpa using hc))).trans m1) ((hf.blk nb (by simp only [List.mem_singleton]; omega)).cell 0)))
 have HF := Lib.hid (hw0.nil (O := wOwn b v p.n Of))
 rw [callV_b] at HC
 clear h nb m0 m1 k0 k1 hw0
 go_enter Tryz.func78, Tryz.ntmps78
 go_wp2_with (go_at_call 106; with_reducible refine HC.out.mono ?_)
 intro e w1 hq
 have HQ := Lib.hid (hq.front HF.out)
 obtain ⟨rfl, -⟩ := hq
 go_wp2_with fail
 go_ret
 exact HQ.out.told _
set_option maxHeartbeats 1000000 in
theorem writeS_any {w : World} {b : Nat} {p : PW} {O : List Nat} (h : WAt w b p O) (i : Int) :
   Calls Tryz.prog 78 #[.pointer (some ⟨b, 0, none⟩), .int .i64 i, .func (.func 81) #[] #[]] w
     (WPost w b O (.int .i64 (callE p i (syncV (p.st i.toNat)))) (callP p i (syncS (p.st i.toNat)))) := by
 obtain ⟨v, Bf, Of, h, rfl⟩ := h
 have hlt := h.blk.lt
 have hw0 : Fr [] w (w.alloc (.cells #[.func (.func 81) #[] #[]] 147)) := Fr.alloc _ _
 have nb := Blk.new w 147 #[.func (.func 81) #[] #[]]
 have HC := Lib.hid (callB_any (h.keep hw0 (by simp)) i w.heap.size (.bool true) (.int .i64 (syncV (p.st i.toNat))) (syncS (p.st i.toNat))
   (fun w1 hf hst => writeS1_any hst _ ((hf.blk nb (by simp only [List.mem_singleton]; omega)).cell 0)))
 have HF := Lib.hid (hw0.nil (O := wOwn b v p.n Of))
 rw [callV_b] at HC
 clear h nb hw0
 go_enter Tryz.func78, Tryz.ntmps78
 go_wp2_with (go_at_call 106; with_reducible refine HC.out.mono ?_)
 intro e w1 hq
 have HQ := Lib.hid (hq.front HF.out)
 obtain ⟨rfl, -⟩ := hq
 go_wp2_with fail
 go_ret
 exact HQ.out.told _
set_option maxHeartbeats 1000000 in
theorem wput_any {w : World} {b : Nat} {p : PW} {O : List Nat} (h : WAt w b p O) (i : Int) (N D : List UInt8) (hN : N.length ≤ 1000000) (hD : D.length ≤ 1000000) (hs : (p.st i.toNat).Ok) :
   Calls Tryz.prog 39 #[.pointer (some ⟨b, 0, none⟩), .int .i64 i, .agg #[.string ⟨N.toArray⟩, .string ⟨D.toArray⟩]] w
     (WPost w b O (.int .i64 (callE p i (putE (p.st i.toNat) ⟨N.toArray⟩ ⟨D.toArray⟩))) (callP p i (putS (p.st i.toNat) ⟨N.toArray⟩ ⟨D.toArray⟩))) := by
 have hlt : b < w.heap.size := by obtain ⟨v, Bf, Of, h, rfl⟩ := h; exact h.blk.lt
 have hw0 : Fr [] w (w.alloc (.cells #[.string ⟨N.toArray⟩, .string ⟨D.toArray⟩] 45)) := Fr.alloc _ _
 have nb := Blk.new w 45 #[.string ⟨N.toArray⟩, .string ⟨D.toArray⟩]
 have HC := Lib.hid (writeP_any (h.keep hw0 (by simp)) i N D hN hD hs w.heap.size (by omega) (nb.cell 0) (nb.cell 1))
 have HF := Lib.hid (hw0.nil (O := O))
 clear h nb hw0
 go_enter Tryz.func39, Tryz.ntmps39
 go_wp2_with (go_at_call 78; with_reducible refine HC.out.mono ?_)
 intro e w1 hq
 have HQ := Lib.hid (hq.front HF.out)
 obtain ⟨rfl, -⟩ := hq
 go_wp2_with fail
 go_ret
 exact HQ.out
set_option maxHeartbeats 1000000 in
theorem wsync_any {w : World} {b : Nat} {p : PW} {O : List Nat} (h : WAt w b p O) (i : Int) :
   Calls Tryz.prog 40 #[.pointer (some ⟨b, 0, none⟩), .int .i64 i] w (WPost w b O (.int .i64 (callE p i (syncV (p.st i.toNat)))) (callP p i (syncS (p.st i.toNat)))) := by
 have HC := Lib.hid (writeS_any h i)
 clear h
 go_enter Tryz.func40, Tryz.ntmps40
 go_wp2_with (go_at_call 78; with_reducible refine HC.out.mono ?_)
 intro e w1 hq
 have HQ := Lib.hid hq
 obtain ⟨rfl, -⟩ := hq
 go_wp2_with fail
 go_ret
 exact HQ.out
def getO (s : PSt) (name : ByteArray) : ByteArray × Int := if s.down then (⟨#[]⟩, 51) else match TMap.look s.seen name with | some d => (d, 0) | none => (⟨#[]⟩, 5)
def wgetO (p : PW) (i : Int) (name : ByteArray) : ByteArray × Int := if p.has i then if p.stepd then (⟨#[]⟩, 56) else getO (p.st i.toNat) name else (⟨#[]⟩, 1)
theorem gotV_eq (s : PSt) (name : ByteArray) : gotV s name = .tuple #[.string (getO s name).1, .int .i64 (getO s name).2] := by
 unfold gotV getO
 cases s.down
 · cases TMap.look s.seen name <;> rfl
 · rfl
theorem callV_s (p : PW) (i : Int) (name : ByteArray) : callV p i (.string ⟨#[]⟩) (.tuple #[.string (getO (p.st i.toNat) name).1, .int .i64 (getO (p.st i.toNat) name).2]) = .tuple #[.string (wgetO p i name).1, .int .i64 (wgetO p i name).2] := by
 unfold callV wgetO
 cases p.has i <;> cases p.stepd <;> rfl
theorem upd_self {α : Type} (f : Nat → α) (i : Nat) : upd f i (f i) = f := by
 funext j
 unfold upd
 split
 · next h => rw [h]
 · rfl
def getP (p : PW) (i : Int) : PW := if p.has i then p.step else p
theorem callP_self (p : PW) (i : Int) : callP p i (p.st i.toNat) = getP p i := by
 unfold callP getP
 split
 · split
   · rfl
   · rw [upd_self]; rfl
 · rfl
set_option maxHeartbeats 1000000 in
theorem wget_any {w : World} {b : Nat} {p : PW} {O : List Nat} (h : WAt w b p O) (i : Int) (name : ByteArray) :
   Calls Tryz.prog 85 #[.pointer (some ⟨b, 0, none⟩), .int .i64 i, .string name] w
     (WPost w b O (.tuple #[.string (wgetO p i name).1, .int .i64 (wgetO p i name).2]) (getP p i)) := by
 obtain ⟨v, Bf, Of, h, rfl⟩ := h
 have hlt := h.blk.lt
 have hw0 : Fr [] w (w.alloc (.cells #[.string name] 9)) := Fr.alloc _ _
 have nb := Blk.new w 9 #[.string name]
 have HC := Lib.hid (callS_any (h.keep hw0 (by simp)) i w.heap.size (.string (getO (p.st i.toNat) name).1) (.int .i64 (getO (p.st i.toNat) name).2) (p.st i.toNat)
   (fun w1 hf hst => get1_any hst name _ ((hf.blk nb (by simp only [List.mem_singleton]; omega)).cell 0) _ _ (gotV_eq _ _)))
 have HF := Lib.hid (hw0.nil (O := wOwn b v p.n Of))
 rw [callV_s, callP_self] at HC
 clear h nb hw0
 go_enter Tryz.func85, Tryz.ntmps85
 go_wp2_with (go_at_call 120; with_reducible refine HC.out.mono ?_)
 intro e w1 hq
 have HQ := Lib.hid (hq.front HF.out)
 obtain ⟨rfl, -⟩ := hq
 go_wp2_with fail
 go_ret2
 exact HQ.out.told _
end Vm
end Go.Proofs.YtnbkhdbligjifaaGreatDoor
namespace Go.Proofs.YtnbkhdbligjifaaGreatDoor
namespace Shd
open Go.Lib
def hexd (n : Nat) : UInt8 := if n < 10 then UInt8.ofNat (48 + n) else UInt8.ofNat (87 + n)
def hexL : List UInt8 → List UInt8
 | [] => []
 | b :: r => hexd (b.toNat / 16) :: hexd (b.toNat % 16) :: hexL r
def hexn (c : UInt8) : Option Nat := if 48 ≤ c.toNat ∧ c.toNat ≤ 57 then some (c.toNat - 48) else if 97 ≤ c.toNat ∧ c.toNat ≤ 102 then some (c.toNat - 87) else none
def unhexL : List UInt8 → Option (List UInt8)
 | [] => some []
 | [_] => none
 | a :: b :: r =>
   match hexn a, hexn b, unhexL r with
   | some x, some y, some l => some (UInt8.ofNat (x * 16 + y) :: l)
   | _, _, _ => none
theorem hexd_toNat (n : Nat) (h : n < 16) : (hexd n).toNat = if n < 10 then 48 + n else 87 + n := by
 unfold hexd
 by_cases h' : n < 10
 · rw [if_pos h', if_pos h', UInt8.toNat_ofNat']; omega
 · rw [if_neg h', if_neg h', UInt8.toNat_ofNat']; omega
theorem hexn_hexd (n : Nat) (h : n < 16) : hexn (hexd n) = some n := by
 unfold hexn
 rw [hexd_toNat n h]
 by_cases h' : n < 10
 · rw [if_pos h', if_pos (by omega)]; congr 1; omega
 · rw [if_neg h', if_neg (by omega), if_pos (by omega)]; congr 1; omega
theorem hexd_ne (n : Nat) (h : n < 16) : hexd n ≠ 46 := by
 intro e
 have h1 := hexd_toNat n h
 rw [e] at h1
 have h2 : (46 : UInt8).toNat = 46 := rfl
 rw [h2] at h1
 by_cases h' : n < 10
 · rw [if_pos h'] at h1; omega
 · rw [if_neg h'] at h1; omega
theorem b_div (b : UInt8) : b.toNat / 16 < 16 := by have := b.toNat_lt; omega
theorem b_mod (b : UInt8) : b.toNat % 16 < 16 := by omega
theorem unhex_hex (l : List UInt8) : unhexL (hexL l) = some l := by
 induction l with
 | nil => rfl
 | cons b r ih =>
   rw [hexL, unhexL, hexn_hexd _ (b_div b), hexn_hexd _ (b_mod b), ih]
   simp only [Option.some.injEq, List.cons.injEq, and_true]
   apply UInt8.toNat_inj.1
   rw [UInt8.toNat_ofNat']
   have := b.toNat_lt
   omega
theorem hex_inj (a b : List UInt8) (h : hexL a = hexL b) : a = b := by
 have h1 := unhex_hex a
 rw [h, unhex_hex b] at h1
 exact (Option.some.inj h1).symm
theorem hex_len (l : List UInt8) : (hexL l).length = 2 * l.length := by
 induction l with
 | nil => rfl
 | cons b r ih => rw [hexL, List.length_cons, List.length_cons, List.length_cons, ih]; omega
theorem hex_no46 (l : List UInt8) : (46 : UInt8) ∉ hexL l := by
 induction l with
 | nil => simp [hexL]
 | cons b r ih =>
   rw [hexL]
   simp only [List.mem_cons, not_or]
   exact ⟨fun e => hexd_ne _ (b_div b) e.symm, fun e => hexd_ne _ (b_mod b) e.symm, ih⟩
theorem hex_append (a b : List UInt8) : hexL (a ++ b) = hexL a ++ hexL b := by
 induction a with
 | nil => rfl
 | cons x r ih => rw [List.cons_append, hexL, hexL, ih]; rfl
/-! numerals -/
def val (l : List UInt8) : Nat := l.foldl (fun a c => a * 10 + (c.toNat - 48)) 0
theorem val_snoc (l : List UInt8) (c : UInt8) : val (l ++ [c]) = val l * 10 + (c.toNat - 48) := by
 unfold val; rw [List.foldl_append]; rfl
theorem val_dec (u : Nat) : val (decDigits u) = u := by
 induction u using Nat.strongRecOn with
 | _ u ih =>
   rw [decDigits]
   by_cases h : u < 10
   · rw [dif_pos h]
     show 0 * 10 + ((UInt8.ofNat (48 + u)).toNat - 48) = u
     rw [UInt8.toNat_ofNat']; omega
   · rw [dif_neg h, val_snoc, ih (u / 10) (by omega), UInt8.toNat_ofNat']; omega
theorem dec_inj (a b : Nat) (h : decDigits a = decDigits b) : a = b := by rw [← val_dec a, h, val_dec]
theorem dec_digit (u : Nat) : ∀ c ∈ decDigits u, 48 ≤ c.toNat ∧ c.toNat ≤ 57 := by
 induction u using Nat.strongRecOn with
 | _ u ih =>
   intro c hc
   rw [decDigits] at hc
   by_cases h : u < 10
   · rw [dif_pos h, List.mem_singleton] at hc
     rw [hc, UInt8.toNat_ofNat']; omega
   · rw [dif_neg h, List.mem_append, List.mem_singleton] at hc
     rcases hc with hc | hc
     · exact ih (u / 10) (by omega) c hc
     · rw [hc, UInt8.toNat_ofNat']; omega
theorem itoa_inj (a b : Int) (h : itoa a = itoa b) : a = b := by
 unfold itoa at h
 have hd : ∀ (u : Nat) (r : List UInt8), decDigits u ≠ 45 :: r := fun u r e => by
   have := dec_digit u 45 (by rw [e]; exact List.mem_cons_self ..)
   have h2 : (45 : UInt8).toNat = 45 := rfl
   omega
 by_cases ha : a < 0
 · by_cases hb : b < 0
   · rw [if_pos ha, if_pos hb, List.cons.injEq] at h
     have := dec_inj _ _ h.2; omega
   · rw [if_pos ha, if_neg hb] at h
     exact absurd h.symm (hd _ _)
 · by_cases hb : b < 0
   · rw [if_neg ha, if_pos hb] at h
     exact absurd h (hd _ _)
   · rw [if_neg ha, if_neg hb] at h
     have := dec_inj _ _ h; omega
def nameL (d : List UInt8) (i : Int) : List UInt8 := hexL d ++ 46 :: itoa i
theorem split46 : ∀ (a b x y : List UInt8), (46 : UInt8) ∉ a → (46 : UInt8) ∉ b → a ++ 46 :: x = b ++ 46 :: y → a = b ∧ x = y
 | [], [], x, y, _, _, h => ⟨rfl, by simpa using h⟩
 | [], c :: b, x, y, _, hb, h => by
   simp only [List.nil_append, List.cons_append, List.cons.injEq] at h
   exact absurd (h.1 ▸ List.mem_cons_self ..) hb
 | c :: a, [], x, y, ha, _, h => by
   simp only [List.nil_append, List.cons_append, List.cons.injEq] at h
   exact absurd (h.1 ▸ List.mem_cons_self ..) ha
 | c :: a, d :: b, x, y, ha, hb, h => by
   simp only [List.cons_append, List.cons.injEq] at h
   obtain ⟨h1, h2⟩ := split46 a b x y (fun e => ha (List.mem_cons_of_mem _ e)) (fun e => hb (List.mem_cons_of_mem _ e)) h.2
   exact ⟨by rw [h.1, h1], h2⟩
theorem name_inj (d e : List UInt8) (i j : Int) (h : nameL d i = nameL e j) : d = e ∧ i = j := by
 obtain ⟨h1, h2⟩ := split46 _ _ _ _ (hex_no46 d) (hex_no46 e) h
 exact ⟨hex_inj _ _ h1, itoa_inj _ _ h2⟩
theorem itoa_len (n : Nat) (h : n < 12) : (itoa (n : Int)).length = 1 + n / 10 := by
 rw [itoa_nonneg]
 by_cases h1 : n < 10
 · rw [decDigits_one h1]; simp; omega
 · rw [decDigits_two h1 (by omega)]; simp; omega
theorem dec_le (u : Nat) (k : Nat) (h : u < 10 ^ (k + 1)) : (decDigits u).length ≤ k + 1 := by
 induction k generalizing u with
 | zero => rw [decDigits, dif_pos (by simpa using h)]; exact Nat.le_refl _
 | succ k ih =>
   rw [decDigits]
   by_cases h1 : u < 10
   · rw [dif_pos h1]; simp
   · rw [dif_neg h1, List.length_append]
     have := ih (u / 10) (by rw [Nat.pow_succ] at h; omega)
     simp; omega
theorem itoa_le (n : Int) (h0 : -9223372036854775808 ≤ n) (h1 : n ≤ 9223372036854775807) : (itoa n).length ≤ 20 := by
 unfold itoa
 by_cases h : n < 0
 · rw [if_pos h, List.length_cons]
   have := dec_le n.natAbs 18 (by omega)
   omega
 · rw [if_neg h]
   have := dec_le n.toNat 18 (by omega)
   omega
def Parsed (name d : List UInt8) (n : Nat) : Prop := d.length = 32 ∧ n < 12 ∧ name = nameL d n
theorem Parsed.one {name d e : List UInt8} {n m : Nat} (h : Parsed name d n) (k : Parsed name e m) : d = e ∧ n = m := by
 obtain ⟨_, _, h⟩ := h
 obtain ⟨_, _, k⟩ := k
 rw [h] at k
 obtain ⟨h1, h2⟩ := name_inj _ _ _ _ k
 exact ⟨h1, by omega⟩
end Shd
end Go.Proofs.YtnbkhdbligjifaaGreatDoor
