/-
 A store in memory: its copy.
-/
import Derived.Test.YtnbkhdbligjifaaGreatDoorWldB
import Derived.Deep.RegionWith
set_option linter.unusedVariables false
set_option linter.unusedSimpArgs false
set_option maxRecDepth 100000
set_option maxHeartbeats 40000000
namespace Go.Proofs.YtnbkhdbligjifaaGreatDoor
open Go Go.RowKit
namespace Vm
def CopyPost (w : World) (s : PSt) (e : Ending) (w' : World) : Prop := ∃ B O, e = .returned (.pointer (some ⟨B, 0, none⟩)) ∧ (∀ k, k ∈ O → w.heap.size ≤ k) ∧ SAt w' B s O ∧ Below w.heap.size w w'
theorem cloneM_in {w : World} {g : Nat} {m : TMap} (h : MapIs w g m) : ∀ w', Stab.Ext w w' →
 Calls Tryz.prog 83 #[.map (some g)] w' fun e w2 => ∃ b, e = .returned (.map (some b)) ∧ w'.heap.size ≤ b ∧ MapIs w2 b m ∧ Stab.Ext w' w2 := by
 intro w' hE
 obtain ⟨es, cl, hb, hf⟩ := h
 refine (clone_any g es cl w' ((Below.block hE g (Array.getElem?_eq_some_iff.1 hb).1).trans hb)).mono ?_
 rintro e w2 ⟨rfl, rfl⟩
 exact ⟨_, rfl, Nat.le_refl _, ⟨es, cl, heap_alloc_new w' _, hf⟩, Stab.Ext.alloc _ _⟩
structure CF (B C : Nat) (s : PSt) (g m : Nat) (ws : Value) (W : World) : Prop where
 st : SIs W B s g m ws
 nb : Blk W C 129 (stCells s g m ws)
theorem CF.ext {B C : Nat} {s : PSt} {g m : Nat} {ws : Value} {W W' : World} (h : CF B C s g m ws W) (hE : Stab.Ext W W') : CF B C s g m ws W' := ⟨h.st.keep (Fr.of_below (O := []) hE) (by simp), (Fr.of_below (O := []) hE).blk h.nb (by simp)⟩
def CmPost (B C : Nat) (s : PSt) (g m : Nat) (ws : Value) (x : TMap) (w' : World) (e : Ending) (w2 : World) : Prop :=
 ∃ b, e = .returned (.map (some b)) ∧ Hid (w'.heap.size ≤ b ∧ b < w2.heap.size ∧ MapIs w2 b x) ∧ Hid (Stab.Ext w' w2) ∧ Hid (CF B C s g m ws w2) ∧ w2.cell? ⟨B, 0, none⟩ = some (.map (some g)) ∧ w2.cell? ⟨B, 1, none⟩ = some ws ∧ w2.cell? ⟨B, 2, none⟩ = some (.map (some m))
theorem mpost {B C : Nat} {s : PSt} {g m : Nat} {ws : Value} {W : World} (h : CF B C s g m ws W) (k : Nat) (x : TMap) (hx : ∀ w', SIs w' B s g m ws → MapIs w' k x) : ∀ w', Stab.Ext W w' →
 Calls Tryz.prog 83 #[.map (some k)] w' (CmPost B C s g m ws x w') := by
 intro w' hE
 refine (cloneM_in (hx _ (h.ext hE).st) w' (Stab.Ext.refl _)).mono ?_
 rintro e w2 ⟨b, rfl, hb, hm, hE2⟩
 have h2 := (h.ext hE).ext hE2
 exact ⟨b, rfl, Lib.hid ⟨hb, hm.lt, hm⟩, Lib.hid hE2, Lib.hid h2, h2.st.c0, h2.st.c1, h2.st.c2⟩
def CwPost (B C : Nat) (s : PSt) (g m : Nat) (ws : Value) (w' : World) (e : Ending) (w2 : World) : Prop :=
 ∃ A cap, e = .returned (.slice A s.writes.length cap) ∧ Hid (w2.ownsRow w'.heap.size 155 3 (.slice A s.writes.length cap) s.writes.length (wcells s.writes)) ∧ Hid (Stab.Ext w' w2) ∧ Hid (CF B C s g m ws w2) ∧
  w2.cell? ⟨C, 0, none⟩ = some (.map (some g)) ∧ w2.cell? ⟨C, 1, none⟩ = some ws ∧ w2.cell? ⟨C, 2, none⟩ = some (.map (some m)) ∧ w2.frozen? ⟨C, 0, none⟩ = false ∧ w2.frozen? ⟨C, 1, none⟩ = false ∧ w2.frozen? ⟨C, 2, none⟩ = false
theorem wcells_one (l : List (ByteArray × ByteArray × Bool)) : ∀ u ∈ wcells l, u.oneCell' = true := by
 intro u hu
 simp only [wcells, List.mem_flatMap, wcell] at hu
 obtain ⟨x, _, hx⟩ := hu
 simp at hx
 rcases hx with rfl | rfl | rfl <;> rfl
theorem wpost {B C : Nat} {s : PSt} {g m : Nat} {ws : Value} {W : World} (h : CF B C s g m ws W) (hw : s.writes.length ≤ 1000000) : ∀ w', Stab.Ext W w' →
 Calls Tryz.prog 84 #[ws] w' (CwPost B C s g m ws w') := by
 intro w' hE
 refine (cloneW_any (h.ext hE).st.row (wcells_one _) hw).mono ?_
 rintro e w2 ⟨v, rfl, hr, hb⟩
 have h2 := (h.ext hE).ext hb
 obtain ⟨A, cap, rfl⟩ := row_shape hr
 exact ⟨A, cap, rfl, Lib.hid hr, Lib.hid hb, Lib.hid h2, h2.nb.cell 0, h2.nb.cell 1, h2.nb.cell 2, h2.nb.frozen 0, h2.nb.frozen 1, h2.nb.frozen 2⟩
theorem copy_end {w W3 w4 w9 w14 : World} {B C : Nat} {s : PSt} {g m b4 b9 cap14 : Nat} {ws : Value} {A14 : Option Addr} (hC : w.heap.size = C) (h0 : Stab.Ext w W3) (h3 : CF B C s g m ws W3)
 (hb4 : W3.drew.heap.size ≤ b4 ∧ b4 < w4.heap.size ∧ MapIs w4 b4 s.good) (hE4 : Stab.Ext W3.drew w4) (hb9 : w4.heap.size ≤ b9 ∧ b9 < w9.heap.size ∧ MapIs w9 b9 s.seen) (hE9 : Stab.Ext w4 w9)
 (hr : w14.ownsRow w9.heap.size 155 3 (.slice A14 s.writes.length cap14) s.writes.length (wcells s.writes)) (hE14 : Stab.Ext w9 w14) (hC14 : CF B C s g m ws w14) :
 CopyPost w s (.returned (.pointer (some ⟨C, 0, none⟩))) (((w14.setCell ⟨C, 0, none⟩ (.map (some b4))).setCell ⟨C, 2, none⟩ (.map (some b9))).setCell ⟨C, 1, none⟩ (.slice A14 s.writes.length cap14)) := by
 have hlt := h3.nb.lt
 have hd : W3.drew.heap.size = W3.heap.size := rfl
 have s0 := h0.size
 have s4 := hE4.size
 have s9 := hE9.size
 have s14 := hE14.size
 have hrb : ∀ k, (Value.slice A14 s.writes.length cap14).ownBlock = some k → w9.heap.size ≤ k ∧ k < w14.heap.size := fun k hk => hr.lt k hk
 have f1 := Fr.cell w14 ⟨C, 0, none⟩ (.map (some b4))
 have f2 := f1.trans (Fr.cell (w14.setCell ⟨C, 0, none⟩ (.map (some b4))) ⟨C, 2, none⟩ (.map (some b9))) (fun k hk _ => hk)
 have f3 := f2.trans (Fr.cell ((w14.setCell ⟨C, 0, none⟩ (.map (some b4))).setCell ⟨C, 2, none⟩ (.map (some b9))) ⟨C, 1, none⟩ (.slice A14 s.writes.length cap14)) (fun k hk _ => hk)
 have m4 : MapIs w14 b4 s.good := (Fr.of_below (O := []) (hE9.trans hE14)).map hb4.2.2 (by simp)
 have m9 : MapIs w14 b9 s.seen := (Fr.of_below (O := []) hE14).map hb9.2.2 (by simp)
 have hown : ∀ k, k ∈ sOwn C b4 b9 (.slice A14 s.writes.length cap14) → C ≤ k := by
  intro k hk
  simp only [sOwn, List.mem_cons, Option.mem_toList] at hk
  rcases hk with rfl | rfl | rfl | hk
  ·exact Nat.le_refl _
  ·omega
  ·omega
  ·have := (hrb k hk).1; omega
 refine ⟨C, sOwn C b4 b9 (.slice A14 s.writes.length cap14), rfl, fun k hk => by rw [hC]; exact hown k hk, ⟨b4, b9, _, ⟨((hC14.nb.set_ 0 _).set_ 2 _).set_ 1 _, ?_, ?_, ?_, ?_⟩, rfl⟩, ?_⟩
 ·exact f3.map m4 (by simp only [List.mem_singleton]; omega)
 ·exact f3.map m9 (by simp only [List.mem_singleton]; omega)
 ·refine row_heap ⟨hr.1, ?_⟩ fun k hk => f3.block k (hrb k hk).2 (by have := (hrb k hk).1; simp only [List.mem_singleton]; omega)
  rcases hr.2 with h | ⟨g', c', cur, h1, h2, h3⟩
  ·exact .inl h
  ·exact .inr ⟨g', c', cur, h1, Nat.zero_le _, h3⟩
 ·simp only [sOwn, List.nodup_cons, List.mem_cons, Option.mem_toList, not_or]
  refine ⟨⟨by omega, by omega, fun h => ?_⟩, ⟨by omega, fun h => ?_⟩, fun h => ?_, ?_⟩
  ·have := (hrb _ h).1; omega
  ·have := (hrb _ h).1; omega
  ·have := (hrb _ h).1; omega
  ·cases A14 <;> simp [Value.ownBlock]
 ·have hb : Below w.heap.size w w14 := Below.trans h0 (((Below.drew (Below.refl W3.heap.size W3)).mono s0).trans (((hE4.mono (by omega)).trans (hE9.mono (by omega))).trans (hE14.mono (by omega))))
  rw [hC] at hb ⊢
  exact ((hb.setCell (p := ⟨C, 0, none⟩) (Nat.le_refl _) _).setCell (p := ⟨C, 2, none⟩) (Nat.le_refl _) _).setCell (p := ⟨C, 1, none⟩) (Nat.le_refl _) _
theorem copy_any {w : World} {B : Nat} {s : PSt} {O : List Nat} (h : SAt w B s O) (hw : s.writes.length ≤ 1000000) :
 Calls Tryz.prog 44 #[.pointer (some ⟨B, 0, none⟩)] w (CopyPost w s) := by
 obtain ⟨g, m, ws, h, rfl⟩ := h
 have c0 := h.c0
 have c1 := h.c1
 have c2 := h.c2
 have c3 := h.c3
 have c4 := h.c4
 have c5 := h.c5
 obtain ⟨A, cap, hve⟩ : ∃ A cap, ws = .slice A s.writes.length cap := row_shape h.row
 subst hve
 have HC := Lib.hid (show CF B w.heap.size s g m (.slice A s.writes.length cap) (w.alloc (.cells (stCells s g m (.slice A s.writes.length cap)) 129)) from ⟨h.alloc _, Blk.new _ _ _⟩)
 have HE0 := Lib.hid (Stab.Ext.alloc w (.cells (stCells s g m (.slice A s.writes.length cap)) 129))
 obtain ⟨W3, hW3⟩ : ∃ W3, W3 = w.alloc (.cells (stCells s g m (.slice A s.writes.length cap)) 129) := ⟨_, rfl⟩
 have HW3 := Lib.hid hW3
 rw [← hW3] at HC HE0
 clear h hW3
 go_enter Tryz.func44, Tryz.ntmps44
 go_wp2_with fail
 have hW3 := HW3.out
 unfold stCells at hW3
 rw [← hW3]
 clear hW3 HW3 c0 c1 c2 c3 c4 c5
 have c0 := HC.out.st.c0
 have c1 := HC.out.st.c1
 have c2 := HC.out.st.c2
 have CG := Lib.hid (mpost HC.out g s.good (fun _ h => h.good))
 have CM := Lib.hid (mpost HC.out m s.seen (fun _ h => h.seen))
 have CW := Lib.hid (wpost HC.out hw)
 have HCQ := Lib.hid (show w.heap.size = w.heap.size from rfl)
 generalize hCq : w.heap.size = C at *
 have HCE := Lib.hid hCq
 clear hCq HCQ
 go_region_with (first
  | (go_at_call_of 83 (Value.map (some g)); refine (CG.out _ ?_).mono ?_; exact Stab.Ext.drew _; rintro e w4 ⟨b4, rfl, hb4, hE4, hC4, e0, e1, e2⟩)
  | (go_at_call_of 83 (Value.map (some m)); refine (CM.out _ ?_).mono ?_; exact (Stab.Ext.drew _).trans hE4.out; rintro e w9 ⟨b9, rfl, hb9, hE9, hC9, f0, f1, f2⟩)
  | (go_at_call 84; refine (CW.out _ ?_).mono ?_; exact ((Stab.Ext.drew _).trans hE4.out).trans hE9.out; rintro e w14 ⟨A14, cap14, rfl, hr14, hE14, hC14, d0, d1, d2, z0, z1, z2⟩))
 all_goals
  go_wp2_with fail
  go_ret
  exact copy_end HCE.out HE0.out HC.out hb4.out hE4.out hb9.out hE9.out hr14.out hE14.out hC14.out
end Vm
end Go.Proofs.YtnbkhdbligjifaaGreatDoor
