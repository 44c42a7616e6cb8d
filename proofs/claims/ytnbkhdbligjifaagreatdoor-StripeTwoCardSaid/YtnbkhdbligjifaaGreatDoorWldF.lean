/-
 A world in memory: Up, Objects. A world in memory: New. A world in memory: New, the walk.
-/
import Derived.Test.YtnbkhdbligjifaaGreatDoorShdObj
import Derived.Test.YtnbkhdbligjifaaGreatDoorWldB
import Derived.Deep.RegionWith
set_option linter.unusedVariables false
set_option linter.unusedSimpArgs false
set_option maxRecDepth 100000
set_option maxHeartbeats 40000000
namespace Go.Proofs.YtnbkhdbligjifaaGreatDoor
open Go Go.RowKit
namespace Vm
def PW.upAt (p : PW) (i : Int) : Bool := p.has i && !(p.st i.toNat).down
theorem wup_any {w : World} {b : Nat} {p : PW} {O : List Nat} (h : WAt w b p O) (i : Int) :
 Calls Tryz.prog 22 #[.pointer (some ⟨b, 0, none⟩), .int .i64 i] w fun e w' => e = .returned (.bool (p.upAt i)) ∧ w = w' := by
 obtain ⟨v, Bf, Of, h, rfl⟩ := h
 have HHAS := Lib.hid (has_any ⟨v, Bf, Of, h, rfl⟩ i)
 cases hh : p.has i with
 | false =>
   have HV := Lib.hid (show p.upAt i = false from by simp [PW.upAt, hh])
   rw [hh] at HHAS
   clear h hh
   go_enter Tryz.func22, Tryz.ntmps22
   go_wp2_with (go_at_call 41; with_reducible refine HHAS.out.mono ?_)
   rintro e w1 ⟨rfl, rfl⟩
   go_wp2_with fail
   go_ret
   rw [HV.out]
   exact ⟨rfl, rfl⟩
 | true =>
   have hi : 0 ≤ i ∧ i < (p.n : Int) := of_decide_eq_true hh
   obtain ⟨hi0, hi1⟩ := hi
   obtain ⟨g, cap, rfl, hc1, -⟩ := h.rowc (i := i.toNat) (by omega)
   have c0 := h.c0
   have HU := Lib.hid (upB_any (h.st i.toNat (by omega)))
   have HV := Lib.hid (show p.upAt i = !(p.st i.toNat).down from by simp [PW.upAt, hh])
   rw [hh] at HHAS
   clear h hh
   go_enter Tryz.func22, Tryz.ntmps22
   go_wp2_with (go_at_call 41; with_reducible refine HHAS.out.mono ?_)
   intro e w1 hq
   obtain ⟨rfl, rfl⟩ := hq
   go_wp2_with (go_at_call 53; with_reducible refine HU.out.mono ?_)
   intro e w1 hq
   obtain ⟨rfl, rfl⟩ := hq
   go_wp2_with fail
   go_ret
   rw [HV.out]
   exact ⟨rfl, rfl⟩
def PW.keys (p : PW) (i : Int) : List (List UInt8) := if p.has i then keysOf (p.st i.toNat).seen else []
def WObjsPost (w : World) (p : PW) (i : Int) (e : Ending) (w' : World) : Prop := ∃ v, e = .returned v ∧ OwnG w' w.heap.size 45 2 v (p.keys i).length (objsV (p.st i.toNat).seen (p.keys i)) ∧ Below w.heap.size w w'
theorem wobjects_any {w : World} {b : Nat} {p : PW} {O : List Nat} (h : WAt w b p O) (i : Int) (hs : Small (p.st i.toNat).seen) :
 Calls Tryz.prog 17 #[.pointer (some ⟨b, 0, none⟩), .int .i64 i] w (WObjsPost w p i) := by
 obtain ⟨v, Bf, Of, h, rfl⟩ := h
 have HHAS := Lib.hid (has_any ⟨v, Bf, Of, h, rfl⟩ i)
 cases hh : p.has i with
 | false =>
   have HV := Lib.hid (show p.keys i = [] from by simp [PW.keys, hh])
   rw [hh] at HHAS
   clear h hh
   go_enter Tryz.func17, Tryz.ntmps17
   go_wp2_with (go_at_call 41; with_reducible refine HHAS.out.mono ?_)
   rintro e w1 ⟨rfl, rfl⟩
   go_wp2_with fail
   go_ret
   unfold WObjsPost
   rw [HV.out]
   exact ⟨_, rfl, OwnG.nil _ _ _ _, Below.refl _ _⟩
 | true =>
   have hi : 0 ≤ i ∧ i < (p.n : Int) := of_decide_eq_true hh
   obtain ⟨hi0, hi1⟩ := hi
   obtain ⟨g, cap, rfl, hc1, -⟩ := h.rowc (i := i.toNat) (by omega)
   have c0 := h.c0
   have HU := Lib.hid (objects_any (h.st i.toNat (by omega)) hs)
   have HV := Lib.hid (show p.keys i = keysOf (p.st i.toNat).seen from by simp [PW.keys, hh])
   rw [hh] at HHAS
   clear h hh
   go_enter Tryz.func17, Tryz.ntmps17
   go_wp2_with (go_at_call 41; with_reducible refine HHAS.out.mono ?_)
   intro e w1 hq
   obtain ⟨rfl, rfl⟩ := hq
   go_wp2_with (go_at_call 50; with_reducible refine HU.out.mono ?_)
   intro e w1 hq
   obtain ⟨x, rfl, hx, hb⟩ := hq
   have HX := Lib.hid hx
   have HB := Lib.hid hb
   clear hx hb
   go_wp2_with fail
   go_ret
   unfold WObjsPost
   rw [HV.out]
   exact ⟨_, rfl, HX.out, HB.out⟩
end Vm
end Go.Proofs.YtnbkhdbligjifaaGreatDoor
namespace Go.Proofs.YtnbkhdbligjifaaGreatDoor
open Go Go.RowKit
namespace Vm
attribute [local go_sem ↓] appSem_eq
theorem info_one : (Tryz.prog.info? 78).map (fun i => (i.zero, i.size, i.bytes)) = some (some (.agg #[.pointer none, .bool false]), 2, 16) := by kernel_rfl
theorem ones_congr {n : Nat} {Bf Bf' : Nat → Nat} {u u' : Nat → Bool} (h : ∀ i, i < n → Bf i = Bf' i ∧ u i = u' i) : ones n Bf u = ones n Bf' u' := by
 induction n with
 | zero => rfl
 | succ n ih =>
   rw [ones_succ, ones_succ, ih fun i hi => h i (by omega), (h n (by omega)).1, (h n (by omega)).2]
def noStore : PSt := ⟨[], [], [], false, -1, -1⟩
def PW.more (p : PW) (s : PSt) (u : Bool) : PW := { p with n := p.n + 1, st := upd p.st p.n s, sus := upd p.sus p.n u }
theorem WIs.push {w w2 w7 : World} {b : Nat} {p : PW} {v v' : Value} {Bf : Nat → Nat} {Of : Nat → List Nat} (h : WIs w b p v Bf Of) {B : Nat} {O : List Nat} {s : PSt} (hO : ∀ k, k ∈ O → w.heap.size ≤ k) (hs : SAt w2 B s O) (hf : Fr [] w w2)
 {C : Array Value} (hg : (w2.alloc (.cells C 78)).grownBy w7 v.ownBlock) (hrow : w7.ownsRow 0 78 2 v' (p.n + 1) (ones p.n Bf p.sus ++ [.pointer (some ⟨B, 0, none⟩), .bool false]))
 (hblk : v'.ownBlock = v.ownBlock ∨ ∀ k, v'.ownBlock = some k → w2.heap.size < k) :
 WIs (w7.setCell ⟨b, 0, none⟩ v') b (p.more s false) v' (upd Bf p.n B) (upd Of p.n O) ∧ Fr (wOwn b v p.n Of) w (w7.setCell ⟨b, 0, none⟩ v') := by
 have f2 : Fr v.ownBlock.toList w2 w7 := by
  have hs2 : w2.heap.size ≤ (w2.alloc (.cells C 78)).heap.size := by simp
  refine ⟨hg.os.trans rfl, hg.tape.trans rfl, hg.output.trans rfl, Nat.le_trans hs2 hg.size, fun k hk hn => ?_⟩
  have := hg.block k (by simp; omega) (fun he => hn (by rw [Option.mem_toList]; exact he.symm))
  rw [this]
  exact Go.heap_alloc_old w2 _ hk
 have hsz2 := hf.size
 have hblt := h.blk.lt
 have hvlt : ∀ k, v.ownBlock = some k → k < w.heap.size := fun k hk => row_lt h.row hk
 have f4 : Fr (b :: v.ownBlock.toList) w2 (w7.setCell ⟨b, 0, none⟩ v') := (f2.sub (fun k hk => List.mem_cons_of_mem _ hk)).trans (Fr.cell w7 ⟨b, 0, none⟩ v') (fun k hk _ => by simp only [List.mem_singleton] at hk; simp [hk])
 have f5 : Fr (b :: v.ownBlock.toList) w (w7.setCell ⟨b, 0, none⟩ v') := (hf.sub (by simp)).trans f4 (fun k hk _ => hk)
 have hin : ∀ k, k ∈ b :: v.ownBlock.toList → k = b ∨ v.ownBlock = some k := fun k hk => by simpa [Option.mem_toList] using hk
 have hv' : ∀ k, v'.ownBlock = some k → v.ownBlock = some k ∨ w2.heap.size < k := fun k hk => by
  rcases hblk with h1 | h1
  ·exact .inl (h1 ▸ hk)
  ·exact .inr (h1 k hk)
 have hne : v'.ownBlock ≠ some b := fun he => by
  rcases hv' b he with h1 | h1
  ·exact h.ne h1
  ·omega
 have f3 : Fr v.ownBlock.toList w w7 := (hf.sub (by simp)).trans f2 (fun k hk _ => hk)
 have hb7 : Blk w7 b 74 (wCells p v) := f3.blk h.blk (by rw [Option.mem_toList]; exact h.ne)
 refine ⟨⟨hb7.set_ 0 _, ?_, ?_, ?_, ?_, hne⟩, f5.sub fun k hk => ?_⟩
 ·have he : ones (p.n + 1) (upd Bf p.n B) (upd p.sus p.n false) = ones p.n Bf p.sus ++ [.pointer (some ⟨B, 0, none⟩), .bool false] := by
   rw [ones_succ, upd_same, upd_same, ones_congr (Bf' := Bf) (u' := p.sus) fun i hi => ⟨upd_ne _ _ (by omega), upd_ne _ _ (by omega)⟩]
  show (w7.setCell ⟨b, 0, none⟩ v').ownsRow 0 78 2 v' (p.n + 1) (ones (p.n + 1) (upd Bf p.n B) (upd p.sus p.n false))
  rw [he]
  exact row_heap hrow fun k hk => Below.heap_setCell w7 ⟨b, 0, none⟩ v' k (by rintro rfl; exact hne hk)
 ·intro i hi
  have hi' : i < p.n + 1 := hi
  show SAt _ (upd Bf p.n B i) (upd p.st p.n s i) (upd Of p.n O i)
  by_cases he : i = p.n
  ·subst he
   rw [upd_same, upd_same, upd_same]
   refine hs.keep f4 fun k hk hm => ?_
   have := hO k hk
   rcases hin k hm with rfl | h1
   ·omega
   ·have := hvlt k h1; omega
  ·rw [upd_ne _ _ he, upd_ne _ _ he, upd_ne _ _ he]
   refine (h.st i (by omega)).keep f5 fun k hk hm => ?_
   rcases hin k hm with rfl | h1
   ·exact (h.off i (by omega)).1 hk
   ·exact (h.off i (by omega)).2 k h1 hk
 ·intro i j hi hj hij k h1 h2
  have hi' : i < p.n + 1 := hi
  have hj' : j < p.n + 1 := hj
  by_cases he : i = p.n
  ·subst he
   rw [upd_same] at h1
   rw [upd_ne _ _ (Ne.symm hij)] at h2
   have := hO k h1
   have := (h.st j (by omega)).lt k h2
   omega
  ·rw [upd_ne _ _ he] at h1
   by_cases he2 : j = p.n
   ·subst he2
    rw [upd_same] at h2
    have := hO k h2
    have := (h.st i (by omega)).lt k h1
    omega
   ·rw [upd_ne _ _ he2] at h2
    exact h.apart i j (by omega) (by omega) hij k h1 h2
 ·intro i hi
  have hi' : i < p.n + 1 := hi
  by_cases he : i = p.n
  ·subst he
   rw [upd_same]
   refine ⟨fun hm => ?_, fun k hk hm => ?_⟩
   ·have := hO b hm; omega
   ·have h1 := hO k hm
    have h2 := hs.lt k hm
    rcases hv' k hk with h3 | h3
    ·have := hvlt k h3; omega
    ·omega
  ·rw [upd_ne _ _ he]
   refine ⟨(h.off i (by omega)).1, fun k hk hm => ?_⟩
   rcases hv' k hk with h3 | h3
   ·exact (h.off i (by omega)).2 k h3 hm
   ·have := (h.st i (by omega)).lt k hm; omega
 ·rcases hin k hk with rfl | h1
  ·exact mem_wOwn.2 (.inl rfl)
  ·exact mem_wOwn.2 (.inr (.inl h1))
end Vm
end Go.Proofs.YtnbkhdbligjifaaGreatDoor
namespace Go.Proofs.YtnbkhdbligjifaaGreatDoor
open Go Go.RowKit
namespace Vm
attribute [local go_sem ↓] appSem_eq
def newP (k : Nat) : PW := ⟨k, fun _ => noStore, fun _ => false, 0, -1, false⟩
theorem newP_more (k : Nat) : (newP k).more noStore false = newP (k + 1) := by
 unfold PW.more newP
 congr 1
 ·funext j; unfold upd; split <;> rfl
 ·funext j; unfold upd; split <;> rfl
def NPost (wr : World) (b : Nat) (k : Nat) (v : Value) (Of : Nat → List Nat) (e : Ending) (w2 : World) : Prop :=
 ∃ B g cap w7, e = .returned (.pointer (some ⟨B, 0, none⟩)) ∧ w2.cell? ⟨b, 0, none⟩ = some v ∧
  (appSem #[72, 72] 72 #[v, .slice (some ⟨w2.heap.size, 0, none⟩) 1 1]).run Tryz.prog (w2.alloc (.cells #[.pointer (some ⟨B, 0, none⟩), .bool false] 78)) = .ok (.slice (some ⟨g, 0, none⟩) (k + 1) cap) w7 ∧
  w7.cell? ⟨b, 0, none⟩ = some v ∧ w7.frozen? ⟨b, 0, none⟩ = false ∧
  Hid (∃ Bf' Of', WIs (w7.setCell ⟨b, 0, none⟩ (.slice (some ⟨g, 0, none⟩) (k + 1) cap)) b (newP (k + 1)) (.slice (some ⟨g, 0, none⟩) (k + 1) cap) Bf' Of' ∧ Fr (wOwn b v k Of) wr (w7.setCell ⟨b, 0, none⟩ (.slice (some ⟨g, 0, none⟩) (k + 1) cap)) ∧
   ∀ x, x ∈ wOwn b (.slice (some ⟨g, 0, none⟩) (k + 1) cap) (k + 1) Of' → x ∈ wOwn b v k Of ∨ wr.heap.size ≤ x)
theorem npost {wr : World} {b k : Nat} {v : Value} {Bf : Nat → Nat} {Of : Nat → List Nat} (h : WIs wr b (newP k) v Bf Of) (hk : k ≤ 1000) : ∀ w', Stab.Ext wr w' → Calls Tryz.prog 35 #[] w' (NPost wr b k v Of) := by
 intro w' hE
 refine (new_any w').mono ?_
 rintro e w2 ⟨B, O, rfl, hO, hs, hf⟩
 have hE1 : Fr [] wr w' := Fr.of_below hE
 have hE2 : Fr [] wr w2 := hE1.trans hf (by simp)
 have h2 := h.keep hE2 (by simp)
 obtain ⟨g, cap, w7, hrun, hown, _, hgr, hwh⟩ := own_app_new (c := 1) (m := 1) (C := #[.pointer (some ⟨B, 0, none⟩), .bool false]) Tryz.underlying72 info_one rfl (by omega) (by omega) h2.row rfl (by simp [Value.oneCell']) (by omega) (by show (k + 1) * 16 ≤ _; omega) (Nat.zero_le _)
 have hO' : ∀ x, x ∈ O → wr.heap.size ≤ x := fun x hx => Nat.le_trans hE1.size (hO x hx)
 obtain ⟨q1, q2⟩ := h.push (s := noStore) (B := B) hO' hs hE2 hgr hown (by
  rcases hwh with h1 | h1
  ·exact .inl (by rw [h1]; rfl)
  ·right
   intro x hx
   have : x = g := by simpa [Value.ownBlock] using hx.symm
   omega)
 rw [newP_more] at q1
 have hfb : Fr v.ownBlock.toList wr w7 := by
  have f2 : Fr v.ownBlock.toList w2 w7 := by
   have hs2 : w2.heap.size ≤ (w2.alloc (.cells #[.pointer (some ⟨B, 0, none⟩), .bool false] 78)).heap.size := by simp
   refine ⟨hgr.os.trans rfl, hgr.tape.trans rfl, hgr.output.trans rfl, Nat.le_trans hs2 hgr.size, fun x hk hn => ?_⟩
   have := hgr.block x (by simp; omega) (fun he => hn (by rw [Option.mem_toList]; exact he.symm))
   rw [this]
   exact Go.heap_alloc_old w2 _ hk
  exact (hE2.sub (by simp)).trans f2 (fun k hk _ => hk)
 have hb7 := hfb.blk h.blk (by rw [Option.mem_toList]; exact h.ne)
 refine ⟨B, g, cap, w7, rfl, h2.c0, hrun, hb7.cell 0, hb7.frozen 0, Lib.hid ⟨_, _, q1, q2, fun x hx => ?_⟩⟩
 rcases mem_wOwn.1 hx with rfl | hg | ⟨i, hi, hx⟩
 ·exact .inl (mem_wOwn.2 (.inl rfl))
 ·have hxg : x = g := by simpa [Value.ownBlock] using hg.symm
  rcases hwh with h1 | h1
  ·exact .inl (mem_wOwn.2 (.inr (.inl (by rw [hxg]; exact h1))))
  ·right
   have := hE2.size
   omega
 ·by_cases he : i = k
  ·subst he
   rw [show (newP i).n = i from rfl, upd_same] at hx
   exact .inr (hO' x hx)
  ·rw [show (newP k).n = k from rfl, upd_ne _ _ he] at hx
   exact .inl (mem_wOwn.2 (.inr (.inr ⟨i, by omega, hx⟩)))
theorem new_below {w a c : World} {O : List Nat} (h : Below w.heap.size w a) (hf : Fr O a c) (hx : ∀ x, x ∈ O → w.heap.size ≤ x) : Below w.heap.size w c := by
 refine h.trans ⟨hf.os, hf.tape, hf.output, hf.size, fun k hk => hf.block k (Nat.lt_of_lt_of_le hk h.size) fun hm => ?_⟩
 have := hx k hm
 omega
def WNewPost (n : Nat) (w : World) (e : Ending) (w' : World) : Prop := ∃ b O, e = .returned (.tuple #[.pointer (some ⟨b, 0, none⟩), .int .i64 0]) ∧ (∀ k, k ∈ O → w.heap.size ≤ k) ∧ WAt w' b (newP n) O ∧ Below w.heap.size w w'
theorem wnew_any (w : World) (n : Nat) (h1 : 1 ≤ n) (h2 : n ≤ 12) : Calls Tryz.prog 11 #[.int .i64 n] w (WNewPost n w) := by
 have hn1 : ¬ ((n : Int) < 1) := by omega
 have hn2 : ¬ ((n : Int) > 12) := by omega
 have nb := Blk.new w 74 (wCells (newP 0) (.slice none 0 0))
 have hW : WIs (w.alloc (.cells (wCells (newP 0) (.slice none 0 0)) 74)) w.heap.size (newP 0) (.slice none 0 0) (fun _ => 0) (fun _ => []) :=
  ⟨nb, row_nil _ _ _ _, fun i hi => absurd hi (Nat.not_lt_zero _), fun i j hi => absurd hi (Nat.not_lt_zero _), fun i hi => absurd hi (Nat.not_lt_zero _), by simp [Value.ownBlock]⟩
 have HW := Lib.hid hW
 have hB : Below w.heap.size w (w.alloc (.cells (wCells (newP 0) (.slice none 0 0)) 74)) := (Below.refl _ _).alloc (Nat.le_refl _) _
 have HB := Lib.hid hB
 clear nb hW hB
 go_enter Tryz.func11, Tryz.ntmps11
 go_wp2_with fail
 go_loopw [14] (fun i wr => ∃ (k : Nat) (v : Value) (Bf : Nat → Nat) (Of : Nat → List Nat), k ≤ n ∧ i = .int .i64 (k : Int) ∧ WIs wr w.heap.size (newP k) v Bf Of ∧ (∀ x, x ∈ wOwn w.heap.size v k Of → w.heap.size ≤ x) ∧ Below w.heap.size w wr) (fun i _ => n - (intOf i).toNat)
 case atStart => exact ⟨0, _, _, _, by omega, rfl, HW.out, fun x hx => by simp [wOwn, Value.ownBlock] at hx; omega, HB.out⟩
 case round =>
  obtain ⟨k, v, Bf, Of, hk, rfl, hw, hx, hb⟩ := hrel
  by_cases hlt : k < n
  ·have hlt2 : (k : Int) < (n : Int) := by omega
   have HN := Lib.hid (npost hw (by omega))
   obtain ⟨A, cap, rfl⟩ := hw.form
   have c0 := hw.c0
   have HX := Lib.hid hx
   have HBL := Lib.hid hb
   have z0 := hw.blk.frozen 0
   clear hw hx hb
   go_wp2_with fail
   have HSZ := Lib.hid (show ∃ s, s = w.heap.size from ⟨_, rfl⟩)
   obtain ⟨C, hC⟩ : ∃ C, C = w.heap.size := ⟨_, rfl⟩
   have HC := Lib.hid hC
   simp only [← hC] at c0 z0 HN HX HBL ⊢
   clear hC HSZ HW HB
   go_region_with (go_at_call 35; refine (HN.out _ ?_).mono ?_; exact Stab.Ext.drew _; rintro e w2 ⟨B, g, cap2, w7, rfl, e0, hrun, d0, z7, hend⟩; have l0 := lt_cell e0)
   all_goals
    go_wp2_with fail
    obtain ⟨Bf', Of', q1, q2, q3⟩ := hend.out
    have hC := HC.out
    subst hC
    go_roundw
    case rel =>
     refine ⟨k + 1, _, Bf', Of', by omega, by go_num, q1, fun x hx => ?_, ?_⟩
     ·rcases q3 x hx with h | h
      ·exact HX.out x h
      ·exact Nat.le_trans HBL.out.size h
     ·exact new_below HBL.out q2 HX.out
    case measure => simp [intOf]; omega
  ·have hke : k = n := by omega
   subst hke
   have HW := Lib.hid hw
   have HX := Lib.hid hx
   have HBL := Lib.hid hb
   have d1 : ¬ ((k : Int) < (k : Int)) := by omega
   clear hw hx hb
   go_wp2_with fail
   go_ret2
   exact ⟨w.heap.size, _, rfl, HX.out, ⟨v, Bf, Of, HW.out, rfl⟩, HBL.out⟩
end Vm
end Go.Proofs.YtnbkhdbligjifaaGreatDoor
