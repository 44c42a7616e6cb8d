/-
 A world in memory: its copy. The law HealthLooks: its walk. A row of faults as an argument, opened; numbers and texts; what the listed variables give the walks. A store in memory: its crash.
-/
import Derived.Test.YtnbkhdbligjifaaGreatDoorStoH
import Derived.Test.YtnbkhdbligjifaaGreatDoorRows
import Derived.Lib.SmallJoins
import Derived.LaidMore
import Derived.ProofKit
import Derived.OpenShut
import Derived.ShutString
import Derived.Stop.LaidErr
import Derived.Lib.LaidTab
import Derived.Handed
import Derived.HandedShaped
import Derived.Deep.Slices
import Derived.Deep.Fields
import Derived.ChangeSame
import Derived.Test.YtnbkhdbligjifaaGreatDoorWldB
set_option linter.unusedVariables false
set_option linter.unusedSimpArgs false
set_option maxRecDepth 100000
set_option maxHeartbeats 40000000
namespace Go.Proofs.YtnbkhdbligjifaaGreatDoor
open Go Go.RowKit
namespace Vm
attribute [local go_sem ↓] appSem_eq
theorem cloneO_any {w : World} {base n : Nat} {v : Value} {xs : List Value} (h : w.ownsRow base 78 2 v n xs) (h1 : ∀ u ∈ xs, u.oneCell' = true) (hn : n ≤ 1000000) :
 Calls Tryz.prog 43 #[v] w (ClonePost w 78 2 n xs) := by
 rcases h.2 with ⟨rfl, rfl⟩ | ⟨g, cap, cur, rfl, hb, hg, hnc, hc, hs, hk⟩
 ·have hx : xs = [] := List.eq_nil_of_length_eq_zero (by have := h.1; simpa using this)
  subst hx
  have hq := fun w => eq_nil Tryz.underlying72 w
  clear h h1
  go_enter Tryz.func43, Tryz.ntmps43
  go_wp2_with fail
  go_ret
  exact ⟨_, rfl, row_nil _ _ _ _, Below.refl _ _⟩
 ·have hE : (w.alloc (.cells #[] 78)).ownsRow w.heap.size 78 2 (.slice (some ⟨w.heap.size, 0, none⟩) 0 0) 0 [] :=
   ⟨rfl, .inr ⟨w.heap.size, 0, #[], rfl, Nat.le_refl _, heap_alloc_new w _, Nat.le_refl _, by unfold maxLen; omega, rfl, rfl⟩⟩
  obtain ⟨v', w', hrun, hown, hb'⟩ := app_row Tryz.underlying72 info_one rfl (by omega) (by omega) hE (own_ext h (Stab.Ext.alloc w (.cells #[] 78))) h1 (by omega) (by simp)
  have HO := Lib.hid hown
  have HB := Lib.hid (((Below.refl w.heap.size w).alloc (Nat.le_refl _) (.cells #[] 78)).trans hb')
  have hq := fun w => ne_nil Tryz.underlying72 ⟨g, 0, none⟩ n cap w
  clear h h1 hg hk hown hb' hE
  go_enter Tryz.func43, Tryz.ntmps43
  go_wp2_with fail
  go_ret
  exact ⟨_, rfl, by simpa using HO.out, HB.out⟩
theorem ones_one (n : Nat) (Bf : Nat → Nat) (u : Nat → Bool) : ∀ x ∈ ones n Bf u, x.oneCell' = true := by
 intro x hx
 simp only [ones, List.mem_flatMap] at hx
 obtain ⟨i, _, hi⟩ := hx
 simp at hi
 rcases hi with rfl | rfl <;> rfl
structure CWI (w0 : World) (C : Nat) (p : PW) (v' : Value) (Bf0 : Nat → Nat) (k : Nat) (Bf : Nat → Nat) (Of : Nat → List Nat) (W : World) : Prop where
 blk : Blk W C 74 (wCells p v')
 row : W.ownsRow 0 78 2 v' p.n (ones p.n (fun j => if j < k then Bf j else Bf0 j) p.sus)
 st : ∀ j, j < k → SAt W (Bf j) (p.st j) (Of j)
 apart : ∀ i j, i < k → j < k → i ≠ j → ∀ x, x ∈ Of i → x ∉ Of j
 off : ∀ i, i < k → C ∉ Of i ∧ ∀ g, v'.ownBlock = some g → g ∉ Of i
 ne : v'.ownBlock ≠ some C
 lowC : w0.heap.size ≤ C
 lowV : ∀ g, v'.ownBlock = some g → w0.heap.size ≤ g
 low : ∀ j, j < k → ∀ x, x ∈ Of j → w0.heap.size ≤ x
 bel : Below w0.heap.size w0 W
section
variable {w0 W W2 : World} {C k : Nat} {p : PW} {v' : Value} {Bf0 Bf : Nat → Nat} {Of : Nat → List Nat}
theorem CWI.ext (h : CWI w0 C p v' Bf0 k Bf Of W) (hE : Stab.Ext W W2) : CWI w0 C p v' Bf0 k Bf Of W2 where
 blk := (Fr.of_below (O := []) hE).blk h.blk (by simp)
 row := own_ext h.row hE
 st := fun j hj => (h.st j hj).keep (Fr.of_below (O := []) hE) (by simp)
 apart := h.apart
 off := h.off
 ne := h.ne
 lowC := h.lowC
 lowV := h.lowV
 low := h.low
 bel := h.bel.trans (Below.mono hE h.bel.size)
theorem CWI.all (h : CWI w0 C p v' Bf0 p.n Bf Of W) : WIs W C p v' Bf Of where
 blk := h.blk
 row := by
  have := h.row
  rwa [ones_congr (Bf' := Bf) (u' := p.sus) fun i hi => ⟨if_pos hi, rfl⟩] at this
 st := h.st
 apart := h.apart
 off := h.off
 ne := h.ne
theorem CWI.lows (h : CWI w0 C p v' Bf0 p.n Bf Of W) : ∀ x, x ∈ wOwn C v' p.n Of → w0.heap.size ≤ x := by
 intro x hx
 rcases mem_wOwn.1 hx with rfl | hg | ⟨i, hi, hx⟩
 ·exact h.lowC
 ·exact h.lowV x hg
 ·exact h.low i hi x hx
theorem CWI.step {g cap B : Nat} {O : List Nat} (h : CWI w0 C p (.slice (some ⟨g, 0, none⟩) p.n cap) Bf0 k Bf Of W) (hk : k < p.n) (hE : Stab.Ext W W2) (hO : ∀ x, x ∈ O → W.heap.size ≤ x) (hs : SAt W2 B (p.st k) O) :
 CWI w0 C p (.slice (some ⟨g, 0, none⟩) p.n cap) Bf0 (k + 1) (upd Bf k B) (upd Of k O) (W2.setCell ⟨g, k * 2, none⟩ (.pointer (some ⟨B, 0, none⟩))) := by
 have h2 := h.ext hE
 have hf := Fr.cell W2 ⟨g, k * 2, none⟩ (.pointer (some ⟨B, 0, none⟩))
 have hgC : g ≠ C := fun he => h.ne (by rw [he]; rfl)
 have hgl : g < W.heap.size := row_lt h.row rfl
 have hCl : C < W.heap.size := h.blk.lt
 refine ⟨hf.blk h2.blk (by simp only [List.mem_singleton]; exact Ne.symm hgC), ?_, ?_, ?_, ?_, h.ne, h.lowC, h.lowV, ?_, h2.bel.setCell (p := ⟨g, k * 2, none⟩) (h.lowV g rfl) _⟩
 ·have := row_set h2.row (k * 2) (by omega) (.pointer (some ⟨B, 0, none⟩))
  rw [ones_set0 _ _ _ _ _ hk] at this
  rw [ones_congr (Bf' := upd (fun j => if j < k then Bf j else Bf0 j) k B) (u' := p.sus) fun j hj => ⟨?_, rfl⟩]
  ·exact this
  ·unfold upd
   by_cases hjk : j = k
   ·subst hjk; simp
   ·by_cases hl : j < k
    ·simp [hl, hjk, Nat.lt_succ_of_lt hl]
    ·simp [hl, hjk, show ¬ j < k + 1 by omega]
 ·intro j hj
  by_cases he : j = k
  ·subst he
   rw [upd_same, upd_same]
   refine hs.keep hf fun x hx hm => ?_
   simp only [List.mem_singleton] at hm
   have := hO x hx
   omega
  ·rw [upd_ne _ _ he, upd_ne _ _ he]
   refine (h2.st j (by omega)).keep hf fun x hx hm => ?_
   simp only [List.mem_singleton] at hm
   subst hm
   exact (h.off j (by omega)).2 _ rfl hx
 ·intro i j hi hj hij x h3 h4
  by_cases he : i = k
  ·subst he
   rw [upd_same] at h3
   rw [upd_ne _ _ (Ne.symm hij)] at h4
   have := hO x h3
   have := (h.st j (by omega)).lt x h4
   omega
  ·rw [upd_ne _ _ he] at h3
   by_cases he2 : j = k
   ·subst he2
    rw [upd_same] at h4
    have := hO x h4
    have := (h.st i (by omega)).lt x h3
    omega
   ·rw [upd_ne _ _ he2] at h4
    exact h.apart i j (by omega) (by omega) hij x h3 h4
 ·intro i hi
  by_cases he : i = k
  ·subst he
   rw [upd_same]
   refine ⟨fun hm => ?_, fun x hx hm => ?_⟩
   ·have := hO C hm; omega
   ·have hxg : x = g := by simpa [Value.ownBlock] using hx.symm
    have := hO x hm
    omega
  ·rw [upd_ne _ _ he]
   exact h.off i (by omega)
 ·intro j hj x hx
  by_cases he : j = k
  ·subst he
   rw [upd_same] at hx
   exact Nat.le_trans h.bel.size (hO x hx)
  ·rw [upd_ne _ _ he] at hx
   exact h.low j (by omega) x hx
theorem CWI.cellg {g cap : Nat} (h : CWI w0 C p (.slice (some ⟨g, 0, none⟩) p.n cap) Bf0 k Bf Of W) (hk : k < p.n) : ∃ u, W.cell? ⟨g, k * 2, none⟩ = some u ∧ W.frozen? ⟨g, k * 2, none⟩ = false := by
 rcases h.row.2 with ⟨h1, _⟩ | ⟨g', cap', cur, h1, _, hg, hn, _, hs, _⟩
 ·cases h1
 ·cases h1
  have hb : Blk W g 78 cur := hg
  exact ⟨_, (hb.cell _).trans (Array.getElem?_eq_getElem (by omega)), hb.frozen _⟩
end
def WCopyPost (w : World) (p : PW) (e : Ending) (w' : World) : Prop := ∃ C O, e = .returned (.pointer (some ⟨C, 0, none⟩)) ∧ (∀ k, k ∈ O → w.heap.size ≤ k) ∧ WAt w' C p O ∧ Below w.heap.size w w'
def copied (base : Nat) (s : PSt) : Stab.SVal := ⟨fun v W => ∃ B O, v = .pointer (some ⟨B, 0, none⟩) ∧ (∀ k, k ∈ O → base ≤ k) ∧ SAt W B s O, fun _ _ _ ⟨B, O, h1, h2, h3⟩ hE => ⟨B, O, h1, h2, h3.keep (Fr.of_below (O := []) hE) (by simp)⟩⟩
structure CRd (b5 C g k B : Nat) (v' : Value) (s : PSt) (O : List Nat) (W : World) : Prop where
 c0 : W.cell? ⟨C, 0, none⟩ = some v'
 c5 : W.cell? ⟨b5, 0, none⟩ = some (.pointer (some ⟨B, 0, none⟩))
 st : SAt W B s O
theorem CRd.ext {b5 C g k B : Nat} {v' : Value} {s : PSt} {O : List Nat} {W W' : World} (h : CRd b5 C g k B v' s O W) (hE : Stab.Ext W W') : CRd b5 C g k B v' s O W' := ⟨hE.cell h.c0, hE.cell h.c5, h.st.keep (Fr.of_below (O := []) hE) (by simp)⟩
theorem wcopy_any {w : World} {b : Nat} {p : PW} {O : List Nat} (h : WAt w b p O) (hn : p.n ≤ 1000) (hw : ∀ i, i < p.n → (p.st i).writes.length ≤ 1000000) :
 Calls Tryz.prog 14 #[.pointer (some ⟨b, 0, none⟩)] w (WCopyPost w p) := by
 obtain ⟨v, Bf0, Of0, h, rfl⟩ := h
 obtain ⟨A, cap, rfl⟩ := h.form
 have c0 := h.c0
 have c1 := h.c1
 have c2 := h.c2
 have c3 := h.c3
 have hblt := h.blk.lt
 have hE0 := Stab.Ext.alloc w (.cells (wCells p (.slice A p.n cap)) 74)
 have HCL := Lib.hid (cloneO_any (own_ext h.row hE0) (ones_one _ _ _) (by omega))
 have HE0 := Lib.hid hE0
 have nb := Lib.hid (Blk.new w 74 (wCells p (.slice A p.n cap)))
 have H := Lib.hid h
 simp only [wCells] at HCL
 clear h hE0
 go_enter Tryz.func14, Tryz.ntmps14
 go_wp2_with (go_at_call 43; with_reducible refine HCL.out.mono ?_)
 rintro e w2 ⟨v', rfl, hrow, hb⟩
 obtain ⟨A', cap', rfl⟩ := row_shape hrow
 have hE2 : Below w.heap.size w w2 := Below.trans HE0.out (Below.mono hb (by simp))
 have hs2 := hb.size
 have hC2 := (Fr.of_below (O := []) hb).blk nb.out (by simp)
 have hCW : CWI w w.heap.size p (.slice A' p.n cap') Bf0 0 Bf0 (fun _ => []) (w2.setCell ⟨w.heap.size, 0, none⟩ (.slice A' p.n cap')) := by
  have hne : (Value.slice A' p.n cap').ownBlock ≠ some w.heap.size := fun he => by
   have := (hrow.lt _ he).1
   simp at this
   omega
  refine ⟨hC2.set_ 0 _, ?_, fun j hj => absurd hj (Nat.not_lt_zero _), fun i j hi => absurd hi (Nat.not_lt_zero _), fun i hi => absurd hi (Nat.not_lt_zero _), hne, Nat.le_refl _, fun g hg => ?_, fun j hj => absurd hj (Nat.not_lt_zero _), hE2.setCell (p := ⟨w.heap.size, 0, none⟩) (Nat.le_refl _) _⟩
  ·rw [ones_congr (Bf' := Bf0) (u' := p.sus) fun i hi => ⟨if_neg (Nat.not_lt_zero _), rfl⟩]
   refine row_heap ⟨hrow.1, ?_⟩ fun k hk => Below.heap_setCell w2 ⟨w.heap.size, 0, none⟩ _ k (by rintro rfl; exact hne hk)
   rcases hrow.2 with h | ⟨g', c', cur, h1, h2, h3⟩
   ·exact .inl h
   ·exact .inr ⟨g', c', cur, h1, Nat.zero_le _, h3⟩
  ·have := (hrow.lt _ hg).1
   simp at this
   omega
 have d0 := hC2.cell 0
 have y0 := hC2.frozen 0
 have H2 := H.out.keep (Fr.of_below (O := []) hE2) (by simp)
 have e0 := H2.c0
 have HCW := Lib.hid hCW
 have hbl2 : b < w2.heap.size := H2.blk.lt
 clear hrow hb hE2 hs2 hC2 hCW H2 c0 c1 c2 c3
 go_wp2_with fail
 go_loopw [22] (fun i wr => ∃ (k : Nat) (Bf : Nat → Nat) (Of : Nat → List Nat), k ≤ p.n ∧ i = .int .i64 (k : Int) ∧ CWI w w.heap.size p (.slice A' p.n cap') Bf0 k Bf Of wr) (fun i _ => p.n - (intOf i).toNat)
 case atStart => exact ⟨0, _, _, by omega, rfl, HCW.out⟩
 case round =>
  obtain ⟨k, Bf, Of, hk, rfl, hcw⟩ := hrel
  by_cases hlt : k < p.n
  ·have hlt2 : (k : Int) < (p.n : Int) := by omega
   obtain ⟨g, rfl⟩ : ∃ g, A' = some ⟨g, 0, none⟩ := by
    rcases hcw.row.2 with ⟨_, h0⟩ | ⟨g, c', cur, h1, _⟩
    ·omega
    ·cases h1; exact ⟨g, rfl⟩
   have hsrc := H.out.keep (Fr.of_below (O := []) hcw.bel) (by simp)
   obtain ⟨g0, cap0, hve, r0, r1⟩ := hsrc.rowc (i := k) hlt
   obtain ⟨rfl, rfl⟩ : A = some ⟨g0, 0, none⟩ ∧ cap = cap0 := by cases hve; exact ⟨rfl, rfl⟩
   have hst := hsrc.st k hlt
   have hx1 := Stab.Ext.alloc wr (.cells #[.pointer (some ⟨Bf0 k, 0, none⟩), .bool (p.sus k)] 78)
   have b5 := Blk.new wr 78 #[.pointer (some ⟨Bf0 k, 0, none⟩), .bool (p.sus k)]
   have hcw1 := hcw.ext hx1
   have HR := Lib.hid (show CRd wr.heap.size w.heap.size g k (Bf0 k) (.slice (some ⟨g, 0, none⟩) p.n cap') (p.st k) (Of0 k) (wr.alloc (.cells #[.pointer (some ⟨Bf0 k, 0, none⟩), .bool (p.sus k)] 78)) from ⟨hcw1.blk.cell 0, b5.cell 0, hst.keep (Fr.of_below (O := []) hx1) (by simp)⟩)
   have HCW1 := Lib.hid hcw1
   have HWL := Lib.hid (hw k hlt)
   clear hcw hsrc hve hst hx1 b5 hcw1
   go_wp2_with fail
   refine Stab.rg 8 [[], [0], [], [], [3], [4], [1, 2], [6]] [5, 7] (CRd wr.heap.size w.heap.size g k (Bf0 k) (.slice (some ⟨g, 0, none⟩) p.n cap') (p.st k) (Of0 k)) [Stab.eqv ?_, Stab.eqv ?_, Stab.eqv ?_, Stab.eqv ?_, Stab.eqv ?_, copied (wr.heap.size + 1) (p.st k), Stab.eqv ?_, Stab.eqv ?_] (HR.out.ext (Stab.Ext.drew _)) (fun _ _ h hE => h.ext hE) ?goals8 ?last8
   case goals8 =>
    simp only [List.take_succ_cons, List.take_zero]
    iterate 5
     refine Stab.gp (fun us w _ hE hS hp hK => ?_) ?_
     ·((try have e0 : _ = _ := hp.1); (try have e1 : _ = _ := hp.2.1); (try have e2 : _ = _ := hp.2.2.1); obtain ⟨s0, s5, s6⟩ := hS; go_simp; exact hK _ _ (by show _ = _; with_reducible rfl) (Stab.Ext.refl _))
    refine Stab.Goals.plain rfl rfl (fun us w cK hE hS hp hK => ?_) ?_
    ·obtain ⟨h4, -⟩ := hp
     replace h4 : us 4 = _ := h4
     go_simp
     go_wp2_with (go_at_call 44; ((with_reducible refine (copy_any hS.st HWL.out).mono ?_); rintro e w9 ⟨B9, O9, rfl, hO9, hs9, hb9⟩))
     exact hK _ _ ⟨B9, O9, rfl, fun x hx => Nat.le_trans (Nat.le_trans (by simp) hE.size) (hO9 x hx), hs9⟩ hb9
    iterate 2
     refine Stab.gp (fun us w _ hE hS hp hK => ?_) ?_
     ·((try have e0 : _ = _ := hp.1); (try have e1 : _ = _ := hp.2.1); (try have e2 : _ = _ := hp.2.2.1); obtain ⟨s0, s5, s6⟩ := hS; go_simp; exact hK _ _ (by show _ = _; with_reducible rfl) (Stab.Ext.refl _))
    exact Stab.Goals.nil
   case last8 =>
    intro us w9 hE hS hp
    obtain ⟨h5, h7, -⟩ := hp
    obtain ⟨B9, O9, q1, q2, q3⟩ : ∃ B O, us 5 = .pointer (some ⟨B, 0, none⟩) ∧ (∀ x, x ∈ O → wr.heap.size + 1 ≤ x) ∧ SAt w9 B (p.st k) O := h5
    replace h7 : us 7 = _ := h7
    simp only [List.drop_succ_cons, List.drop_zero, q1, h7]
    have hE2 : Stab.Ext (wr.alloc (.cells #[.pointer (some ⟨Bf0 k, 0, none⟩), .bool (p.sus k)] 78)) w9 := (Stab.Ext.drew _).trans hE
    obtain ⟨u, d9, z9⟩ := (HCW1.out.ext hE2).cellg hlt
    have HST := Lib.hid (HCW1.out.step hlt hE2 (by simpa using q2) q3)
    clear hE hS h7 q2 q3 hE2
    go_wp2_with fail
    go_roundw
    case rel => exact ⟨k + 1, _, _, by omega, by go_num, HST.out⟩
    case measure => simp [intOf]; omega
  ·have hke : k = p.n := by omega
   subst hke
   have HX := Lib.hid hcw
   have d1 : ¬ ((p.n : Int) < (p.n : Int)) := by omega
   clear hcw
   go_wp2_with fail
   go_ret
   exact ⟨w.heap.size, _, rfl, HX.out.lows, ⟨_, Bf, Of, HX.out.all, rfl⟩, HX.out.bel⟩
end Vm
end Go.Proofs.YtnbkhdbligjifaaGreatDoor
namespace Go.Proofs.YtnbkhdbligjifaaGreatDoor
open Go Go.RowKit Vm
open scoped Classical
namespace Hlt
structure FaultsAt (w : World) (v : Value) (l : List Flt) : Prop where
 shape : ∃ A c, v = .slice A l.length c ∧ l.length ≤ c ∧ (0 < l.length → ∃ g o, A = some ⟨g, o, none⟩ ∧ g < w.heap.size ∧ ∀ i f, l[i]? = some f → w.cell? ⟨g, o + i * 5, none⟩ = some (.int .u8 f.kind) ∧ w.cell? ⟨g, o + i * 5 + 1, none⟩ = some (.int .i64 f.store) ∧
  w.cell? ⟨g, o + i * 5 + 2, none⟩ = some (.int .i64 f.n) ∧ w.cell? ⟨g, o + i * 5 + 3, none⟩ = some (.int .i64 f.at_) ∧ w.cell? ⟨g, o + i * 5 + 4, none⟩ = some (.int .i64 f.c))
 fits : ∀ f ∈ l, f.fits
end Hlt
end Go.Proofs.YtnbkhdbligjifaaGreatDoor
namespace Go.Proofs.YtnbkhdbligjifaaGreatDoor
open Go.ChangeShapes Go.WideShapes Go.ChangeAt Go.RowKit Go.Joins Go.Deep
namespace Shd
section
variable {H : Type} {enc : TypeId × Value → H} {P : Program} {w : World} {base : Nat} {spare : Nat → Bool} {held : Bool}
theorem open_slice_fields {t e : TypeId} {fs : Array Field} {fuel : Nat} {cs : List Value} {x : DataW H × List MemPlace} (ht : P.underlying t = some (.slice e)) (he : P.underlying e = some (.struct fs))
 (hone : oneCellFields P fs = true) (hC : P.cellsOf e = fs.size) (h : DataW.trod enc P w base spare held fuel t cs = some x) :
 (cs = [.slice none 0 0] ∧ x = (.nil, [])) ∨
 ∃ (a : Addr) (len cap m : Nat) (D : Nat → DataW H) (Pl : Nat → List MemPlace), cs = [.slice (some a) len cap] ∧ base ≤ a.block ∧ len ≤ cap ∧ cap ≤ maxLen ∧ m = (if spare a.block then cap else len) ∧
  x = (.slice ((List.range len).map D) ((List.range (m - len)).map fun j => D (len + j)), MemPlace.row a (m * fs.size) ++ (List.range m).flatMap Pl) ∧
  ∀ i, i < m → ∃ (ys : List (DataW H × List MemPlace)) (n : Nat), D i = .agg (ys.map (·.1)) ∧ Pl i = ys.flatMap (·.2) ∧ ys.length = fs.size ∧
   ∀ (j : Nat) (f : Field), fs[j]? = some f → ∃ (v : Value) (y : DataW H × List MemPlace), w.cell? (a.add (i * fs.size + j)) = some v ∧ ys[j]? = some y ∧ DataW.trod enc P w base spare held n f.type [v] = some y := by
 rcases open_slice ht h with h0 | ⟨a, len, cap, m, n, D, Pl, hcs, hb, hl, hm, hmm, hx, hi⟩
 ·exact .inl h0
 ·refine .inr ⟨a, len, cap, m, D, Pl, hcs, hb, hl, hm, hmm, by rw [hC] at hx; exact hx, fun i him => ?_⟩
  obtain ⟨cs', hc, ht'⟩ := hi i him
  rw [hC] at hc
  obtain ⟨ys, n', hn', hy, hlen, hyl, hf⟩ := DataW.trod_struct he ht'
  obtain ⟨_, hcl, hat⟩ := World.cells?_some hc
  simp only [Prod.mk.injEq] at hy
  refine ⟨ys, n', hy.1, hy.2, hyl, fun j f hj => ?_⟩
  obtain ⟨ho, hk⟩ := hone_of hone j f hj
  have hjl : j < fs.size := (Array.getElem?_eq_some_iff.1 hj).1
  have hcell := hat j hjl
  have hv : cs'[j]? = some (cs'[j]'(by omega)) := List.getElem?_eq_getElem (by omega)
  have h1 := hf j f hj
  rw [ho, hk] at h1
  have hone' : (cs'.drop j).take 1 = [cs'[j]'(by omega)] := by
   rw [List.drop_eq_getElem_cons (by omega)]
   rfl
  rw [hone'] at h1
  have hys : ys[j]? = some (ys[j]'(by omega)) := List.getElem?_eq_getElem (by omega)
  refine ⟨_, _, ?_, hys, h1.trans hys⟩
  rw [← Go.Deep.add_add, hcell, hv]
end
theorem open_str {H : Type} {enc : TypeId × Value → H} {w : World} {base : Nat} {spare : Nat → Bool} {held : Bool} {b0 : Nat} {r : Reach} {v : Value} {d : DataW H} {p : List MemPlace}
 (hv : Value.okWide Tryz.prog w r b0 9 v) (h : DataW.Trod enc Tryz.prog w base spare held 9 v d p) : ∃ s : ByteArray, v = .string s := by
 obtain ⟨s, rfl, _, _, _⟩ := Go.ChangeMaps.open_string Tryz.underlying9 hv h
 exact ⟨s, rfl⟩
theorem int_of_shape {P : Program} {w : World} {g : Nat} {t : TypeId} {zero : Array Value} (h : w.ShapedOpen P) (hg : g < P.globals.size)
 (h0 : ((begin P (fun _ _ => 0) default).world.heap[g]?).bind Obj.row? = some (zero, t)) (hz : zero.size = 1)
 (hb : P.buildable t = true) (hc : P.cellTypes P.depth t = some [t]) (hu : P.underlying t = some (.int .i64)) : ∃ m, w.cell? ⟨g, 0, none⟩ = some (.int .i64 m) := by
 obtain ⟨cs, hh, hs, hr⟩ := h.1 g zero t hg h0
 obtain ⟨ts, hts, _, hall⟩ := hr hb
 rw [hc] at hts
 cases hts
 have h1 : 0 < cs.size := by omega
 obtain ⟨u, hu', hok⟩ := hall 0 cs[0] (by simp [h1])
 have : u = t := by simpa using hu'.symm
 subst this
 have hcell : w.cell? ⟨g, 0, none⟩ = some cs[0] := by simp [World.cell?, hh, h1]
 rw [hcell]
 unfold Cell.ok at hok
 rw [hu] at hok
 cases hv : cs[0] <;> rw [hv] at hok <;> first | (simp at hok; done) | (simp at hok; obtain ⟨rfl, _⟩ := hok; exact ⟨_, rfl⟩) | exact ⟨_, rfl⟩
theorem tPow : (Tryz.prog.globals[(0 : Nat)]?).map (·.type) = some 268 := by kernel_rfl
theorem vars_of3 {W : World} (hs : W.ShapedOpen Tryz.prog) {a b : String × DataW Unit} {rest : List (String × DataW Unit)}
 (hL : laidMet Tryz.prog (a :: b :: ("internal/strconv.uint64pow10", Rows.laid_internal_strconv_uint64pow10) :: rest) W) : Vars W := by
 have h3 := hL.tail.tail
 have hp : Lib.TabIs Tryz.prog W "internal/strconv.uint64pow10" .u64 Lib.pow10Tab := Lib.tabIs_of_head gPow tPow Tryz.underlying268 Tryz.underlying177 (by kernel_rfl) (by kernel_rfl) h3
 have hrow : ((((begin Tryz.prog (fun _ _ => 0) default).world.heap[(5 : Nat)]?).bind Obj.row?).map fun z => (z.1.size, z.2)) = some (1, 3) := by kernel_rfl
 obtain ⟨⟨zero, t⟩, hz, hzt⟩ := Option.map_eq_some_iff.1 hrow
 simp only [Prod.mk.injEq] at hzt
 obtain ⟨hzs, rfl⟩ := hzt
 obtain ⟨m, hm⟩ := int_of_shape hs (of_decide_eq_true (by kernel_rfl)) hz hzs (by kernel_rfl) (by kernel_rfl) Tryz.underlying3
 exact ⟨⟨m, hm⟩, ⟨0, 0, rfl⟩, ⟨0, 0, rfl⟩, hp⟩
theorem handed {H : Type} {enc : TypeId × Value → H} {a : Assume} {C : Checked} {os : Os} {f : FuncId} {fn : Func} {s : ChangeSpec} {conds : List PathCond} {apart fresh handsOn again : Bool} {X : World → Array Value → Prop}
 (hX : ∀ (w w' : World) (args : Array Value), w.heap = w'.heap → X w args → X w' args)
 (own : ownKnob C.prog.godebug = none) (started : os.Started) (noInit : C.prog.inits.idxOf? f = none) (hfn : C.prog.funcs[f]? = some fn)
 (witness : ∃ (w : World) (tape : Tape) (i : Input), w.os = os ∧ (w.forCall tape i).Shaped C.prog ∧ i.vars = [] ∧ Input.okWide C.prog (w.forCall tape i) .any w.heap.size f i ∧
  ((s.pre enc C.prog fn conds apart (w.forCall tape i).memory i.args ∧ X (w.forCall tape i).memory i.args) ∧ sizedMet enc C.prog fn (OpenSpec.ofChange s) apart (w.forCall tape i).memory i.args) ∧ a.holds C.prog (lone (Frame.enter C.prog f i.args .normal) [] (w.forCall tape i)))
 (contract : ∀ (W : World) (base : Nat) (args : Array Value) (ds gs : List (DataW H)) (before : List MemPlace),
  (∀ (j : Nat) t v, fn.params[j]? = some t → args[j]? = some v → Value.okWide C.prog W .any base t v) →
  DataW.Whole enc C.prog fn.params.toList s.vars apart W args.toList ds gs before →
  W.ShapedOpen C.prog → X W args →
  Calls C.prog f args W fun e W' => ∃ v, e = .returned v ∧ s.post enc C.prog fn apart fresh handsOn again W args v W') :
 ReturnsInHanded a C os f .any (fun w args => (s.pre enc C.prog fn conds apart w args ∧ X w args) ∧ sizedMet enc C.prog fn (OpenSpec.ofChange s) apart w args) (s.post enc C.prog fn apart fresh handsOn again) := by
 refine returnsInHanded_of_calls own started noInit witness ?_
 intro w tape i _ hsh _ hok hpre hholds
 obtain ⟨_, _, _, fn', hfn', _, _, _, _, hval⟩ := hok
 have e : fn' = fn := Option.some.inj (hfn'.symm.trans hfn)
 subst e
 obtain ⟨⟨⟨ds, gs, before, hw, hc⟩, hx⟩, hz⟩ := hpre
 have hw' := DataW.Whole.of_heap (w' := w.forCall tape i) (by rfl) hw
 refine (contract (w.forCall tape i) w.heap.size i.args ds gs before hval hw' hsh (hX _ _ _ (by rfl) hx)).mono fun e W' ⟨v, he, hp⟩ => ?_
 subst he
 exact ChangeSpec.post_blind hp
end Shd
namespace Hlt
open Vm
theorem list_of {α : Type} {P : Nat → α → Prop} : ∀ n : Nat, (∀ i, i < n → ∃ f, P i f) → ∃ l : List α, l.length = n ∧ ∀ i f, l[i]? = some f → P i f
 | 0, _ => ⟨[], rfl, fun i f h => by simp at h⟩
 | n + 1, h => by
   obtain ⟨l, hl, hp⟩ := list_of n fun i hi => h i (by omega)
   obtain ⟨f, hf⟩ := h n (by omega)
   refine ⟨l ++ [f], by simp [hl], fun i g hg => ?_⟩
   by_cases hi : i < l.length
   ·rw [List.getElem?_append_left hi] at hg
    exact hp i g hg
   ·rw [List.getElem?_append_right (by omega)] at hg
    have h0 : i - l.length = 0 := by
     have := (List.getElem?_eq_some_iff.1 hg).1
     simp at this
     omega
    rw [h0] at hg
    simp at hg
    subst hg
    obtain rfl : i = n := by omega
    exact hf
theorem open_faults {H : Type} {enc : TypeId × Value → H} {w : World} {base : Nat} {held : Bool} {b0 : Nat} {r : Reach} {v : Value} {d : DataW H} {p : List MemPlace}
 (hv : Value.okWide Tryz.prog w r b0 22 v) (h : DataW.Trod enc Tryz.prog w base (fun _ => true) held 22 v d p) : ∃ l : List Flt, FaultsAt w v l := by
 obtain ⟨a0, len0, cap0, rfl⟩ := okWide_slice Tryz.underlying22 hv
 obtain ⟨fuel, hf⟩ := h
 rcases Shd.open_slice_fields Tryz.underlying22 Tryz.underlying34 (by kernel_rfl) (by kernel_rfl) hf with ⟨hc, _⟩ | ⟨a, len, cap, m, D, Pl, hc, hb, hlc, hcm, hm, _, hi⟩
 ·simp [Value.cells] at hc
  obtain ⟨rfl, rfl, rfl⟩ := hc
  exact ⟨[], ⟨none, 0, rfl, Nat.le_refl _, fun h => absurd h (Nat.lt_irrefl _)⟩, fun f hf => by cases hf⟩
 ·simp [Value.cells] at hc
  obtain ⟨rfl, rfl, rfl⟩ := hc
  simp only [if_true] at hm
  subst hm
  have key : ∀ i, i < len0 → ∃ f : Flt, f.fits ∧ w.cell? (a.add (i * 5 + 0)) = some (.int .u8 f.kind) ∧ w.cell? (a.add (i * 5 + 1)) = some (.int .i64 f.store) ∧ w.cell? (a.add (i * 5 + 2)) = some (.int .i64 f.n) ∧ w.cell? (a.add (i * 5 + 3)) = some (.int .i64 f.at_) ∧ w.cell? (a.add (i * 5 + 4)) = some (.int .i64 f.c) := by
   intro i hil
   obtain ⟨ys, n, _, _, _, hff⟩ := hi i (by omega)
   obtain ⟨v0, y0, c0, _, t0⟩ := hff 0 _ rfl
   obtain ⟨v1, y1, c1, _, t1⟩ := hff 1 _ rfl
   obtain ⟨v2, y2, c2, _, t2⟩ := hff 2 _ rfl
   obtain ⟨v3, y3, c3, _, t3⟩ := hff 3 _ rfl
   obtain ⟨v4, y4, c4, _, t4⟩ := hff 4 _ rfl
   obtain ⟨x0, e0, _, w0⟩ := DataW.trod_int Tryz.underlying5 t0
   obtain ⟨x1, e1, _, w1⟩ := DataW.trod_int Tryz.underlying3 t1
   obtain ⟨x2, e2, _, w2⟩ := DataW.trod_int Tryz.underlying3 t2
   obtain ⟨x3, e3, _, w3⟩ := DataW.trod_int Tryz.underlying3 t3
   obtain ⟨x4, e4, _, w4⟩ := DataW.trod_int Tryz.underlying3 t4
   simp at e0 e1 e2 e3 e4
   subst e0; subst e1; subst e2; subst e3; subst e4
   have q0 := bounds_u8 w0
   have q2 := bounds_i64 w2
   have q3 := bounds_i64 w3
   have q4 := bounds_i64 w4
   exact ⟨⟨x0, x1, x2, x3, x4⟩, ⟨⟨by show 0 ≤ x0; omega, by show x0 ≤ 255; omega⟩, ⟨by show _ ≤ x2; omega, by show x2 ≤ _; omega⟩, ⟨by show _ ≤ x3; omega, by show x3 ≤ _; omega⟩, ⟨by show _ ≤ x4; omega, by show x4 ≤ _; omega⟩⟩, c0, c1, c2, c3, c4⟩
  obtain ⟨l, rfl, hp⟩ := list_of len0 key
  refine ⟨l, ⟨some a, _, rfl, hlc, fun h0 => ?_⟩, fun f hf => ?_⟩
  ·obtain ⟨g, o, sp⟩ := a
   have h5 := (hp 0 l[0] (List.getElem?_eq_getElem h0)).2.1
   have hsp : sp = none := by simpa [Addr.add] using World.cell?_spot h5
   subst hsp
   have hadd : ∀ j, (⟨g, o, none⟩ : Addr).add j = ⟨g, o + j, none⟩ := fun j => by unfold Addr.add; split <;> simp_all
   refine ⟨g, o, rfl, ?_, fun i f hf => ?_⟩
   ·rw [hadd] at h5; exact lt_cell h5
   ·obtain ⟨_, q0, q1, q2, q3, q4⟩ := hp i f hf
    rw [hadd] at q0 q1 q2 q3 q4
    exact ⟨q0, q1, q2, q3, q4⟩
  ·obtain ⟨i, hi, rfl⟩ := List.mem_iff_getElem.1 hf
   exact (hp i _ (List.getElem?_eq_getElem hi)).1
end Hlt
end Go.Proofs.YtnbkhdbligjifaaGreatDoor
namespace Go.Proofs.YtnbkhdbligjifaaGreatDoor
open Go Go.RowKit
namespace Vm
theorem wcells_get : ∀ (l : List (ByteArray × ByteArray × Bool)) (k : Nat) (n d : ByteArray) (x : Bool), l[k]? = some (n, d, x) → (wcells l)[k * 3]? = some (.string n) ∧ (wcells l)[k * 3 + 1]? = some (.string d) ∧ (wcells l)[k * 3 + 2]? = some (.bool x)
 | [], k, _, _, _, h => by simp at h
 | y :: l, 0, n, d, x, h => by
   simp only [List.getElem?_cons_zero, Option.some.injEq] at h
   subst h
   exact ⟨rfl, rfl, rfl⟩
 | y :: l, k + 1, n, d, x, h => by
   have ih := wcells_get l k n d x (by simpa using h)
   have hw : wcells (y :: l) = wcell y ++ wcells l := rfl
   have hl : (wcell y).length = 3 := rfl
   rw [hw, List.getElem?_append_right (by omega), List.getElem?_append_right (by omega), List.getElem?_append_right (by omega), hl]
   rw [show (k + 1) * 3 - 3 = k * 3 by omega, show (k + 1) * 3 + 1 - 3 = k * 3 + 1 by omega, show (k + 1) * 3 + 2 - 3 = k * 3 + 2 by omega]
   exact ih
theorem SIs.rowc {w : World} {B g m : Nat} {s : PSt} {ws : Value} (h : SIs w B s g m ws) {k : Nat} {n d : ByteArray} {x : Bool} (hk : s.writes[k]? = some (n, d, x)) :
 ∃ r cap, ws = .slice (some ⟨r, 0, none⟩) s.writes.length cap ∧ w.cell? ⟨r, k * 3, none⟩ = some (.string n) ∧ w.cell? ⟨r, k * 3 + 1, none⟩ = some (.string d) ∧ w.cell? ⟨r, k * 3 + 2, none⟩ = some (.bool x) := by
 have hl : k < s.writes.length := (List.getElem?_eq_some_iff.1 hk).1
 rcases h.row.2 with ⟨_, h0⟩ | ⟨r, cap, cur, rfl, _, hg, hn, _, hs, ht⟩
 ·omega
 ·have hb : Blk w r 155 cur := hg
  have ho := wcells_get _ _ _ _ _ hk
  refine ⟨r, cap, rfl, ?_, ?_, ?_⟩
  ·rw [hb.cell, ← Array.getElem?_toList, ← ho.1, ← ht, List.getElem?_take_of_lt (by omega)]
  ·rw [hb.cell, ← Array.getElem?_toList, ← ho.2.1, ← ht, List.getElem?_take_of_lt (by omega)]
  ·rw [hb.cell, ← Array.getElem?_toList, ← ho.2.2, ← ht, List.getElem?_take_of_lt (by omega)]
theorem SIs.drew {w : World} {B g m : Nat} {s : PSt} {ws : Value} (h : SIs w B s g m ws) : SIs w.drew B s g m ws := h.keep (Fr.of_below (O := []) (Stab.Ext.drew _)) (by simp)
theorem MapIs.nocell {w : World} {b : Nat} {m : TMap} (h : MapIs w b m) (j : Nat) : w.cell? ⟨b, j, none⟩ = none := by
 obtain ⟨es, cl, hb, _⟩ := h
 simp [World.cell?, hb]
def IntsAt (W : World) (v : Value) (ks : List Int) : Prop := ∃ A cap, v = .slice A ks.length cap ∧ ∀ j x, ks[j]? = some x → ∃ g o, A = some ⟨g, o, none⟩ ∧ W.cell? ⟨g, o + j, none⟩ = some (.int .i64 x)
def crashK (g : TMap) (ws : List (ByteArray × ByteArray × Bool)) (ks : List Int) : Nat → TMap
 | 0 => g
 | k + 1 => match ws[k]?, ks[k]? with
   | some (n, d, x), some c => if c < 0 then crashK g ws ks k else if x then TMap.del (crashK g ws ks k) n else TMap.put (crashK g ws ks k) n (d.extract 0 (min c (d.size : Int)).toNat)
   | _, _ => crashK g ws ks k
def crashS (s : PSt) (ks : List Int) : PSt := { s with good := crashK s.good s.writes ks s.writes.length, seen := crashK s.good s.writes ks s.writes.length, writes := [] }
theorem SIs.regood {w : World} {B g m : Nat} {s : PSt} {ws : Value} (h : SIs w B s g m ws) {es : Array MapEntry} {cl : Nat} {m' : TMap} (hf : Fine es cl m') :
 SIs (setObjAt w g (.map es cl)) B { s with good := m' } g m ws ∧ Fr [g] w (setObjAt w g (.map es cl)) := by
 have hn := h.apart
 simp only [sOwn, List.nodup_cons, List.mem_cons, not_or] at hn
 have hF := Fr.set_ w g (.map es cl)
 refine ⟨⟨hF.blk h.blk (by simp only [List.mem_singleton]; exact hn.1.1), ⟨es, cl, at_setObjAt _ _ _ h.good.lt, hf⟩, hF.map h.seen (by simp only [List.mem_singleton]; exact Ne.symm hn.2.1.1), row_heap h.row fun k hk => hF.block k (row_lt h.row hk) (by simp only [List.mem_singleton]; rintro rfl; exact hn.2.1.2 (by simp [hk])), h.apart⟩, hF⟩
theorem SIs.crashed {w : World} {B g m : Nat} {s : PSt} {ws : Value} (h : SIs w B s g m ws) {es : Array MapEntry} {cl : Nat} (hes : Fine es cl s.good) :
 SIs (((w.setCell ⟨B, 2, none⟩ (.map (some w.heap.size))).setCell ⟨B, 1, none⟩ (.slice none 0 0)).alloc (.map es cl)) B { s with seen := s.good, writes := [] } g w.heap.size (.slice none 0 0) ∧
  Fr [B] w (((w.setCell ⟨B, 2, none⟩ (.map (some w.heap.size))).setCell ⟨B, 1, none⟩ (.slice none 0 0)).alloc (.map es cl)) := by
 have hn := h.apart
 simp only [sOwn, List.nodup_cons, List.mem_cons, not_or] at hn
 have hBl := h.blk.lt
 have hgl := h.good.lt
 have f1 := Fr.cell w ⟨B, 2, none⟩ (.map (some w.heap.size))
 have f2 := f1.trans (Fr.cell (w.setCell ⟨B, 2, none⟩ (.map (some w.heap.size))) ⟨B, 1, none⟩ (.slice none 0 0)) (fun k hk _ => hk)
 have f3 := f2.trans (Fr.alloc ((w.setCell ⟨B, 2, none⟩ (.map (some w.heap.size))).setCell ⟨B, 1, none⟩ (.slice none 0 0)) (.map es cl)) (by simp)
 have hsz : ((w.setCell ⟨B, 2, none⟩ (.map (some w.heap.size))).setCell ⟨B, 1, none⟩ (.slice none 0 0)).heap.size = w.heap.size := by rw [setCell_size, setCell_size]
 refine ⟨⟨((h.blk.set_ 2 _).set_ 1 _).alloc _, f3.map h.good (by simp only [List.mem_singleton]; exact Ne.symm hn.1.1), ⟨es, cl, ?_, hes⟩, row_nil _ _ _ _, ?_⟩, f3⟩
 ·have := Go.heap_alloc_new ((w.setCell ⟨B, 2, none⟩ (.map (some w.heap.size))).setCell ⟨B, 1, none⟩ (.slice none 0 0)) (.map es cl)
  rw [hsz] at this
  exact this
 ·simp only [sOwn, Value.ownBlock, Option.toList_none, List.nodup_cons, List.mem_cons, List.not_mem_nil, or_false, not_or, not_false_eq_true, List.nodup_nil, and_true]
  exact ⟨⟨hn.1.1, by omega⟩, by omega⟩
theorem crash_any {w : World} {B : Nat} {s : PSt} {O : List Nat} (h : SAt w B s O) (hw : s.writes.length ≤ 1000000) (v : Value) (ks : List Int) (hks : IntsAt w v ks) (hkl : ks.length ≤ 9223372036854775807) (hki : ∀ x ∈ ks, -9223372036854775808 ≤ x ∧ x ≤ 9223372036854775807) (hds : ∀ q ∈ s.writes, q.2.1.size ≤ 1000000) :
 Calls Tryz.prog 55 #[.pointer (some ⟨B, 0, none⟩), v] w (StPost w B O (.int .i64 0) (crashS s ks)) := by
 obtain ⟨g, m, ws, h, rfl⟩ := h
 obtain ⟨KA, kc, rfl, hkc⟩ := hks
 obtain ⟨A, cap, hve⟩ : ∃ A cap, ws = .slice A s.writes.length cap := row_shape h.row
 subst hve
 have c1 := h.c1
 have HK := Lib.hid hkc
 have HKI := Lib.hid hki
 have HDS := Lib.hid hds
 have H := Lib.hid h
 clear h hkc hki hds
 go_enter Tryz.func55, Tryz.ntmps55
 go_wp2_with fail
 go_loopw [14] (fun i wr => ∃ k : Nat, k ≤ s.writes.length ∧ i = .int .i64 (k : Int) ∧ SIs wr B { s with good := crashK s.good s.writes ks k } g m (.slice A s.writes.length cap) ∧ Fr [g] w wr) (fun i _ => s.writes.length - (intOf i).toNat)
 case atStart => exact ⟨0, by omega, rfl, H.out, Fr.refl _ _⟩
 case round =>
  obtain ⟨k, hk, rfl, hst, hf⟩ := hrel
  by_cases hlt : k < s.writes.length
  ·obtain ⟨n, d, x, hkw⟩ : ∃ n d x, s.writes[k]? = some (n, d, x) := ⟨_, _, _, List.getElem?_eq_getElem hlt⟩
   obtain ⟨r, cap', hve, r0, r1, r2⟩ := hst.rowc (k := k) hkw
   obtain ⟨rfl, rfl⟩ : A = some ⟨r, 0, none⟩ ∧ cap = cap' := by cases hve; exact ⟨rfl, rfl⟩
   have hlt2 : (k : Int) < (s.writes.length : Int) := by omega
   have hst1 := hst.alloc (.cells #[.string n, .string d, .bool x] 155)
   have hf1 : Fr [g] w (wr.alloc (.cells #[.string n, .string d, .bool x] 155)) := hf.trans (Fr.alloc _ _) (by simp)
   have HF0 := Lib.hid hf
   have H1 := Lib.hid hst1
   have HF1 := Lib.hid hf1
   have hds := HDS.out _ (List.mem_of_getElem? hkw)
   have c0 := hst.c0
   have HKW := Lib.hid hkw
   have hBl : B < wr.heap.size := hst.blk.lt
   have hf := HF0.out
   clear hst hkw hve
   by_cases hkk : k < ks.length
   ·obtain ⟨c, hc⟩ : ∃ c, ks[k]? = some c := ⟨_, List.getElem?_eq_getElem hkk⟩
    obtain ⟨gk, ok, rfl, kcell⟩ := HK.out k c hc
    have hkk2 : (k : Int) < (ks.length : Int) := by omega
    have hkr : gk ≠ g := by
     rintro rfl
     rw [MapIs.nocell H.out.good] at kcell
     cases kcell
    have kcell2 : wr.cell? ⟨gk, ok + k, none⟩ = some (.int .i64 c) := (World.cell?_of_block (hf.block gk (lt_cell kcell) (by simpa using hkr))).trans kcell
    have hgkl : gk < wr.heap.size := lt_cell kcell2
    have hcb := HKI.out c (List.mem_of_getElem? hc)
    have HCC := Lib.hid hc
    clear kcell hc hf
    by_cases hneg : c < 0
    ·have HS := Lib.hid (show crashK s.good s.writes ks (k + 1) = crashK s.good s.writes ks k from by rw [crashK, HKW.out, HCC.out]; simp [hneg])
     go_wp2_with fail
     refine ⟨⟨k + 1, by omega, rfl, by rw [HS.out]; exact H1.out, HF1.out⟩, by simp [intOf]; omega⟩
    ·have hn0 : 0 ≤ c := by omega
     clear hneg
     cases x with
     | true =>
       have HS := Lib.hid (show crashK s.good s.writes ks (k + 1) = TMap.del (crashK s.good s.writes ks k) n from by rw [crashK, HKW.out, HCC.out]; simp [show ¬ c < 0 by omega])
       obtain ⟨es, cl, hdel, hfine⟩ := run_del Tryz.underlying126 Tryz.underlying9 (show MapIs (wr.alloc (.cells #[.string n, .string d, .bool true] 155)).drew g (crashK s.good s.writes ks k) from H1.out.good) n 0
       obtain ⟨q1, q2⟩ := SIs.regood (w := (wr.alloc (.cells #[.string n, .string d, .bool true] 155)).drew) H1.out.drew hfine
       have Q1 := Lib.hid q1
       have Q2 := Lib.hid q2
       clear hfine q1 q2
       go_wp2_with fail
       go_region
       go_wp2_with fail
       refine ⟨⟨k + 1, by omega, rfl, by rw [HS.out]; exact Q1.out, (HF1.out.next (Fr.of_below (Stab.Ext.drew _))).next Q2.out⟩, by simp [intOf]; omega⟩
     | false =>
       have HS := Lib.hid (show crashK s.good s.writes ks (k + 1) = TMap.put (crashK s.good s.writes ks k) n (d.extract 0 (min c (d.size : Int)).toNat) from by rw [crashK, HKW.out, HCC.out]; simp [show ¬ c < 0 by omega])
       obtain ⟨es, cl, hput, hfine⟩ := run_put Tryz.underlying126 Tryz.underlying9 (show MapIs (wr.alloc (.cells #[.string n, .string d, .bool false] 155)).drew g (crashK s.good s.writes ks k) from H1.out.good) n (d.extract 0 (min c (d.size : Int)).toNat)
       obtain ⟨q1, q2⟩ := SIs.regood (w := (wr.alloc (.cells #[.string n, .string d, .bool false] 155)).drew) H1.out.drew hfine
       have Q1 := Lib.hid q1
       have Q2 := Lib.hid q2
       clear hfine q1 q2
       go_wp2_with fail
       go_region
       go_wp2_with fail
       refine ⟨⟨k + 1, by omega, rfl, by rw [HS.out]; exact Q1.out, (HF1.out.next (Fr.of_below (Stab.Ext.drew _))).next Q2.out⟩, by simp [intOf]; omega⟩
   ·have HS := Lib.hid (show crashK s.good s.writes ks (k + 1) = crashK s.good s.writes ks k from by
     rw [crashK, HKW.out, List.getElem?_eq_none (by omega)])
    have hkk2 : (ks.length : Int) ≤ (k : Int) := by omega
    go_wp2_with fail
    refine ⟨⟨k + 1, by omega, rfl, by rw [HS.out]; exact H1.out, HF1.out⟩, by simp [intOf]; omega⟩
  ·have hke : k = s.writes.length := by omega
   subst hke
   obtain ⟨es, cl, hb, hes⟩ := hst.good
   have HE := Lib.hid (hst.crashed hes)
   have HF := Lib.hid hf
   have c0 := hst.c0
   have c1' := hst.c1
   have c2 := hst.c2
   have z1 := hst.blk.frozen 1
   have z2 := hst.blk.frozen 2
   have hBl : B < wr.heap.size := hst.blk.lt
   have d1 : ¬ ((s.writes.length : Int) < (s.writes.length : Int)) := by omega
   clear hst hf hes
   go_wp2_with (go_at_call 83; ((with_reducible refine (clone_any _ es cl _ hb).mono ?_); rintro e w1 ⟨rfl, rfl⟩))
   go_ret
   refine ⟨rfl, _, ⟨_, _, _, HE.out.1, rfl⟩, ?_, ?_⟩
   ·refine (HF.out.sub fun k hk => ?_).trans HE.out.2 fun k hk _ => ?_
    ·simp only [List.mem_singleton] at hk; subst hk; simp [sOwn]
    ·simp only [List.mem_singleton] at hk; subst hk; simp [sOwn]
   ·intro k hk
    simp only [sOwn, Value.ownBlock, Option.toList_none, List.mem_cons, List.not_mem_nil, or_false] at hk
    rcases hk with rfl | rfl | rfl
    ·exact .inl (by simp [sOwn])
    ·exact .inl (by simp [sOwn])
    ·exact .inr HF.out.size
end Vm
end Go.Proofs.YtnbkhdbligjifaaGreatDoor
