/-
 The stripe package: the objects of a blob's shards. The stripe package: which stores hold theirs (ask).
-/
import Derived.Test.YtnbkhdbligjifaaGreatDoorStrA
import Derived.Test.YtnbkhdbligjifaaGreatDoorStoH
import Derived.Test.YtnbkhdbligjifaaGreatDoorWldB
import Derived.Test.YtnbkhdbligjifaaGreatDoorStrF
set_option linter.unusedVariables false
set_option linter.unusedSimpArgs false
set_option maxRecDepth 100000
set_option maxHeartbeats 40000000
namespace Go.Proofs.YtnbkhdbligjifaaGreatDoor
open Go Go.RowKit Vm
namespace Str
open Hlt
attribute [local go_sem ↓] appSem_eq
def dgB (s : ByteArray) : ByteArray := ⟨(Shd.sumL s.data.toList).toArray⟩
theorem dgB_size (s : ByteArray) : (dgB s).size = 32 := Shd.sumL_len _
theorem dgB_list (s : ByteArray) : (dgB s).data.toList = Shd.sumL s.data.toList := by simp [dgB]
def objsOf (k n : Nat) (d s : ByteArray) (q : Nat) : List POb := (List.range q).map fun i => (nmB d i, datB k n d.data.toList s i)
theorem objsOf_len (k n : Nat) (d s : ByteArray) (q : Nat) : (objsOf k n d s q).length = q := by simp [objsOf]
theorem objsOf_succ (k n : Nat) (d s : ByteArray) (q : Nat) : objsOf k n d s (q + 1) = objsOf k n d s q ++ [(nmB d q, datB k n d.data.toList s q)] := by simp [objsOf, List.range_succ]
theorem objsOf_get {k n : Nat} {d s : ByteArray} {q i : Nat} (h : i < q) : (objsOf k n d s q)[i]? = some (nmB d i, datB k n d.data.toList s i) := by simp [objsOf, h]
def ObjsPost (w : World) (k n : Nat) (s : ByteArray) (e : Ending) (w' : World) : Prop := ∃ v, e = .returned (.tuple #[.string (dgB s), v, .int .i64 0]) ∧ ObjsAt w' w.heap.size v (objsOf k n (dgB s) s n) ∧ Below w.heap.size w w'
theorem objects_any {G : Nat} (hnew : ∀ w : World, G ≤ w.heap.size → Calls Tryz.prog 139 #[] w (Spr.NewPost w)) {w : World} (hG : G ≤ w.heap.size) (hv : Shd.Vars w) (k n : Nat) (hk : Shd.codeB (k : Int) (n : Int) = true) (s : ByteArray) (hs : s.size ≤ 32768) :
 Calls Tryz.prog 58 #[.agg #[.int .i64 (k : Int), .int .i64 (n : Int)], .string s] w (ObjsPost w k n s) := by
 obtain ⟨h1, h2, h3⟩ := (Shd.codeB_iff _ _).1 hk
 have hE0 := Stab.Ext.alloc w (.cells #[.int .i64 (k : Int), .int .i64 (n : Int)] 25)
 have bx := Blk.new w 25 #[.int .i64 (k : Int), .int .i64 (n : Int)]
 unfold ObjsPost
 have hsum : ∀ W : World, Calls Tryz.prog 33 #[.string s] W fun e w' => e = .returned (.string (dgB s)) ∧ Below W.heap.size W w' := fun W => Sha.sum_any s (by omega) W
 have hdl : (dgB s).size = 32 := dgB_size s
 generalize hd : dgB s = d at *
 have HSUM := Lib.hid hsum
 clear hsum hd
 have HV := Lib.hid (hv.below hE0)
 have HBX := Lib.hid bx
 have HE0 := Lib.hid hE0
 have c0 := bx.cell 0
 have c1 := bx.cell 1
 have HENC := Lib.hid (Cod.encode_any hnew (w.alloc (.cells #[.int .i64 (k : Int), .int .i64 (n : Int)] 25)) (Nat.le_trans hG hE0.size) k n hk s hs)
 clear hv hk hG hnew hE0 bx
 go_enter Tryz.func58, Tryz.ntmps58
 go_wp2_with (go_at_call 36; with_reducible refine HENC.out.mono ?_)
 rintro e w1 ⟨v, rfl, hrow, hb1⟩
 rw [Cod.matL_len] at hrow
 have HE1 := Lib.hid (HE0.out.trans hb1)
 have HV1 := Lib.hid (HV.out.below hb1)
 have HX1 := Lib.hid (HBX.out.below hb1 HBX.out.lt)
 have HR1 := Lib.hid hrow
 obtain ⟨A, cap, hvs⟩ := hrow.shape
 subst hvs
 clear hrow hb1 c0 c1
 go_wp2_with (go_at_call 33; with_reducible refine (HSUM.out _).mono ?_)
 rintro e w2 ⟨rfl, hb2⟩
 have HE2 := Lib.hid (HE1.out.trans hb2)
 have HV2 := Lib.hid (HV1.out.below hb2)
 have HX2 := Lib.hid (HX1.out.below hb2 HX1.out.lt)
 have HR2 := Lib.hid (HR1.out.ext hb2)
 clear hb2
 go_wp2_with fail
 go_loopw [10, 28] (fun o i wr => ∃ q : Nat, q ≤ n ∧ i = .int .i64 (q : Int) ∧ ObjsAt wr w2.heap.size o (objsOf k n d s q) ∧ Stab.Ext w2 wr) (fun _ i _ => n - (intOf i).toNat)
 case atStart => exact ⟨0, by omega, rfl, OwnG.nil _ _ _ _, Stab.Ext.refl _⟩
 case round =>
  obtain ⟨q, hq, rfl, ho, hbl⟩ := hrel
  by_cases hlt : q < n
  ·have hlt2 : (q : Int) < (n : Int) := by omega
   have hpay : (Cod.paysV (Cod.matL k n) (Cod.dataL s k (Cod.sizeZ k s.size)) n)[q]? = some (.string ⟨(payB k n s q).toArray⟩) := by
    unfold Cod.paysV
    rw [List.getElem?_map, List.getElem?_range hlt]
    rfl
   have hR := HR2.out.ext hbl
   obtain ⟨g, cap', hv', -, -, hgl⟩ := hR.addr (by omega)
   obtain ⟨rfl, rfl⟩ : A = some ⟨g, 0, none⟩ ∧ cap = cap' := by cases hv'; exact ⟨rfl, rfl⟩
   have hcell := hR.cells (g := g) rfl q _ hpay
   have hX := HX2.out.below hbl HX2.out.lt
   have s0 := hX.cell 0
   have s1 := hX.cell 1
   have HVV := Lib.hid (HV2.out.below hbl)
   have hmay : (shardOf k n d.data.toList s q).May := ⟨h1, h2, h3, by show d.data.toList.length = 32; simpa using hdl, by show (0 : Int) ≤ (q : Int); omega, hlt2⟩
   have hpl : (shardOf k n d.data.toList s q).pay.length ≤ 65461 := by
    show (payB k n s q).length ≤ _
    rw [payB_len n s q (by omega)]
    have := Cod.sizeZ_le k s.size (by omega)
    omega
   have HMK := Lib.hid (show ∀ W, Stab.Ext wr W → Calls Tryz.prog 38 #[.agg #[.int .i64 (k : Int), .int .i64 (n : Int), .string d, .int .i64 (q : Int), .string ⟨(payB k n s q).toArray⟩]] W fun e w' => e = .returned (.tuple #[.agg #[.string (nmB d q), .string (datB k n d.data.toList s q)], .int .i64 0]) ∧ Below W.heap.size W w' from fun W hW =>
    (Shd.make_any (k : Int) (n : Int) (q : Int) d ⟨(payB k n s q).toArray⟩ ⟨by omega, by omega⟩ W (HVV.out.below hW)).mono fun e w' hh => ⟨make_of hh.1 hmay hpl, hh.2⟩)
   have hbxl := lt_cell s0
   have HO := Lib.hid ho
   have HBL := Lib.hid hbl
   have HN := Lib.hid (objsOf_succ k n d s q)
   obtain ⟨A6, cap6, hv6⟩ := OwnG.shape ho
   rw [objsOf_len] at hv6
   subst hv6
   clear hpay hR hv' hX hmay hpl ho hbl
   go_wp2_with (go_at_call 38; with_reducible refine (HMK.out _ (Stab.Ext.refl _)).mono ?_)
   rintro e w4 ⟨rfl, hb4⟩
   have hX4 : Stab.Ext wr (w4.alloc (.cells #[.string (nmB d q), .string (datB k n d.data.toList s q)] 45)) := Stab.Ext.trans (show Stab.Ext wr w4 from hb4) (Stab.Ext.alloc _ _)
   obtain ⟨g6, c6, w6, hrun, hown, hb6, _⟩ := ownG_new (c := 1) (m := 1) (C := #[.string (nmB d q), .string (datB k n d.data.toList s q)]) Tryz.underlying41 Hlt.info_obj rfl (by omega) (by omega) (show OwnG _ w2.heap.size 45 2 (.slice A6 q cap6) q (objC (objsOf k n d s q)) from by have := OwnG.ext HO.out hX4; rwa [objsOf_len] at this) rfl (by simp [Value.oneCell']) (by omega) (by omega) (Nat.le_trans HBL.out.size hX4.size)
   simp only [World.size_alloc] at hrun
   have HO6 := Lib.hid hown
   have HB6 := Lib.hid (show Stab.Ext w2 w6 from (show Below w2.heap.size w2 wr from HBL.out).trans ((Below.mono hX4 HBL.out.size).trans hb6))
   clear hX4 hown hb6 hb4
   go_wp2_with fail
   go_roundw
   case rel => exact ⟨q + 1, by omega, by go_num, by rw [HN.out]; unfold ObjsAt; rw [objC_app, List.length_append, objsOf_len]; exact HO6.out, HB6.out⟩
   case measure => simp [intOf]; omega
  ·have hqe : q = n := by omega
   subst hqe
   have HO := Lib.hid ho
   have HBL := Lib.hid hbl
   have d1 : ¬ ((q : Int) < (q : Int)) := by omega
   clear ho hbl
   go_wp2_with fail
   go_ret3
   exact ⟨_, rfl, Cod.OwnG.base' HO.out HE2.out.size, HE2.out.trans HBL.out⟩
end Str
end Go.Proofs.YtnbkhdbligjifaaGreatDoor
namespace Go.Proofs.YtnbkhdbligjifaaGreatDoor
open Go Go.RowKit Vm
namespace Str
open Hlt
attribute [local go_sem ↓] appSem_eq
structure Ask where
 cut : Bool
 held : List Nat
 todo : List Nat
 p : PW
def askStep (l : List POb) (a : Ask) (i : Nat) : Ask :=
 if a.cut then a else
  if (wgetO a.p i (l.getD i (⟨#[]⟩, ⟨#[]⟩)).1).2 = 56 then ⟨true, [], [], getP a.p i⟩
  else if (wgetO a.p i (l.getD i (⟨#[]⟩, ⟨#[]⟩)).1).2 = 0 ∧ (wgetO a.p i (l.getD i (⟨#[]⟩, ⟨#[]⟩)).1).1 = (l.getD i (⟨#[]⟩, ⟨#[]⟩)).2 then ⟨false, a.held ++ [i], a.todo, getP a.p i⟩
  else if (wgetO a.p i (l.getD i (⟨#[]⟩, ⟨#[]⟩)).1).2 = 0 ∨ (wgetO a.p i (l.getD i (⟨#[]⟩, ⟨#[]⟩)).1).2 = 5 then ⟨false, a.held, a.todo ++ [i], getP a.p i⟩
  else ⟨false, a.held, a.todo, getP a.p i⟩
def askN (l : List POb) (p : PW) : Nat → Ask
 | 0 => ⟨false, [], [], p⟩
 | q + 1 => askStep l (askN l p q) q
theorem askN_cut {l : List POb} {p : PW} {q : Nat} (h : (askN l p q).cut = true) : ∀ m, askN l p (q + m) = askN l p q
 | 0 => rfl
 | m + 1 => by
   show askStep l (askN l p (q + m)) (q + m) = _
   rw [askN_cut h m, askStep, if_pos h]
theorem askN_lt (l : List POb) (p : PW) : ∀ q, (∀ x ∈ (askN l p q).held ++ (askN l p q).todo, x < q) ∧ ((askN l p q).held ++ (askN l p q).todo).length ≤ q
 | 0 => ⟨by simp [askN], by simp [askN]⟩
 | q + 1 => by
   obtain ⟨h1, h2⟩ := askN_lt l p q
   rw [askN]
   generalize askN l p q = a at *
   have k1 : ∀ x ∈ a.held, x < q := fun x hx => h1 x (List.mem_append_left _ hx)
   have k2 : ∀ x ∈ a.todo, x < q := fun x hx => h1 x (List.mem_append_right _ hx)
   rw [List.length_append] at h2
   unfold askStep
   split
   ·exact ⟨fun x hx => by have := h1 x hx; omega, by rw [List.length_append]; omega⟩
   split
   ·exact ⟨fun x hx => by simp at hx, by simp⟩
   split
   ·refine ⟨fun x hx => ?_, by simp; omega⟩
    simp only [List.mem_append, List.mem_singleton] at hx
    rcases hx with (hx | hx) | hx
    ·have := k1 x hx; omega
    ·omega
    ·have := k2 x hx; omega
   split
   ·refine ⟨fun x hx => ?_, by simp; omega⟩
    simp only [List.mem_append, List.mem_singleton] at hx
    rcases hx with hx | hx | hx
    ·have := k1 x hx; omega
    ·have := k2 x hx; omega
    ·omega
   ·refine ⟨fun x hx => ?_, by simp; omega⟩
    simp only [List.mem_append] at hx
    rcases hx with hx | hx
    ·have := k1 x hx; omega
    ·have := k2 x hx; omega
def intsV (l : List Nat) : List Value := l.map fun x => .int .i64 (x : Nat)
theorem intsV_app (l : List Nat) (x : Nat) : intsV (l ++ [x]) = intsV l ++ [.int .i64 (x : Nat)] := by simp [intsV]
theorem info_int : (Tryz.prog.info? 3).map (fun i => (i.zero, i.size, i.bytes)) = some (some (.int .i64 0), 1, 8) := by kernel_rfl
structure NRow (base : Nat) (O : List Nat) (v : Value) (l : List Nat) (w : World) : Prop where
 row : w.ownsRow base 3 1 v l.length (intsV l)
 off : ∀ g, v.ownBlock = some g → g ∉ O
section
variable {base : Nat} {O O' : List Nat} {v u : Value} {l m : List Nat} {w w' : World}
theorem NRow.nil (base : Nat) (O : List Nat) (w : World) : NRow base O (.slice none 0 0) [] w := ⟨row_nil _ _ _ _, by simp [Value.ownBlock]⟩
theorem NRow.lt (h : NRow base O v l w) : ∀ g, v.ownBlock = some g → g < w.heap.size := fun g hg => row_lt h.row hg
theorem NRow.next (h : NRow base O v l w) (hf : Fr O w w') (hO : ∀ k, k ∈ O' → k ∈ O ∨ w.heap.size ≤ k) : NRow base O' v l w' :=
 ⟨row_heap h.row fun g hg => hf.block g (h.lt g hg) (h.off g hg), fun g hg hm => by
  rcases hO g hm with h1 | h1
  ·exact h.off g hg h1
  ·have := h.lt g hg; omega⟩
theorem NRow.ext (h : NRow base O v l w) (hE : Stab.Ext w w') : NRow base O v l w' := h.next (Fr.of_below (O := O) hE) fun k hk => .inl hk
theorem NRow.more {g' cap x n : Nat} (h : NRow base O v l w) (hown : w'.ownsRow base 3 1 (.slice (some ⟨g', 0, none⟩) (l.length + 1) cap) (l.length + 1) (intsV l ++ [.int .i64 (x : Nat)])) (hwh : v.ownBlock = some g' ∨ g' = w.heap.size + 1) (hO : ∀ k, k ∈ O → k < w.heap.size) :
 NRow base O (.slice (some ⟨g', 0, none⟩) (l.length + 1) cap) (l ++ [x]) w' := by
 refine ⟨by rw [List.length_append, intsV_app]; exact hown, fun g hg hm => ?_⟩
 have : g' = g := by simpa [Value.ownBlock] using hg
 subst this
 rcases hwh with h1 | h1
 ·exact h.off g' h1 hm
 ·have := hO g' hm; omega
theorem app_fr {o : Obj} (hg : (w.alloc o).grownBy w' v.ownBlock) : Fr v.ownBlock.toList w w' :=
 ⟨hg.os, hg.tape, hg.output, Nat.le_trans (by simp) hg.size, fun k hk hkO => by
  rw [hg.block k (by simp; omega) (fun e => hkO (by simp [← e]))]
  exact Below.heap_alloc w _ k hk⟩
end
structure AInv (w : World) (O : List Nat) (b : Nat) (vh vt : Value) (a : Ask) (O' : List Nat) (wr : World) : Prop where
 wb : WB w O b a.p O' wr
 h : NRow w.heap.size O' vh a.held wr
 t : NRow w.heap.size O' vt a.todo wr
 ne : ∀ g, vh.ownBlock = some g → vt.ownBlock ≠ some g
section
variable {w wr w' w3 : World} {O O' : List Nat} {b : Nat} {vh vt : Value} {a : Ask}
theorem AInv.ext (h : AInv w O b vh vt a O' wr) (hE : Stab.Ext wr w') : AInv w O b vh vt a O' w' := ⟨h.wb.ext hE, h.h.ext hE, h.t.ext hE, h.ne⟩
theorem AInv.next (h : AInv w O b vh vt a O' wr) {x : Value} {e : Ending} {p2 : PW} (hp : WPost wr b O' x p2 e w3) : ∃ O3, AInv w O b vh vt { a with p := p2 } O3 w3 ∧ Fr O' wr w3 := by
 obtain ⟨O3, h1, h2, h3⟩ := h.wb.next hp
 exact ⟨O3, ⟨h1, h.h.next h2 h3, h.t.next h2 h3, h.ne⟩, h2⟩
theorem AInv.moreh {o : Obj} {g' cap x : Nat} (h : AInv w O b vh vt a O' wr) (hown : w'.ownsRow w.heap.size 3 1 (.slice (some ⟨g', 0, none⟩) (a.held.length + 1) cap) (a.held.length + 1) (intsV a.held ++ [.int .i64 (x : Nat)])) (hg : (wr.alloc o).grownBy w' vh.ownBlock) (hwh : vh.ownBlock = some g' ∨ g' = wr.heap.size + 1) :
 AInv w O b (.slice (some ⟨g', 0, none⟩) (a.held.length + 1) cap) vt { a with held := a.held ++ [x] } O' w' := by
 have hf := app_fr hg
 refine ⟨h.wb.keep hf fun k hk => ?_, h.h.more (n := 0) hown hwh h.wb.lt, ⟨row_heap h.t.row fun g hg => hf.block g (h.t.lt g hg) fun hm => ?_, h.t.off⟩, fun g hg he => ?_⟩
 ·rw [Option.mem_toList] at hk
  exact ⟨h.h.off k hk, (h.h.row.lt k hk).1⟩
 ·rw [Option.mem_toList] at hm
  exact h.ne g hm hg
 ·have : g' = g := by simpa [Value.ownBlock] using hg
  subst this
  rcases hwh with h1 | h1
  ·exact h.ne g' h1 he
  ·have := h.t.lt g' he; omega
theorem AInv.moret {o : Obj} {g' cap x : Nat} (h : AInv w O b vh vt a O' wr) (hown : w'.ownsRow w.heap.size 3 1 (.slice (some ⟨g', 0, none⟩) (a.todo.length + 1) cap) (a.todo.length + 1) (intsV a.todo ++ [.int .i64 (x : Nat)])) (hg : (wr.alloc o).grownBy w' vt.ownBlock) (hwh : vt.ownBlock = some g' ∨ g' = wr.heap.size + 1) :
 AInv w O b vh (.slice (some ⟨g', 0, none⟩) (a.todo.length + 1) cap) { a with todo := a.todo ++ [x] } O' w' := by
 have hf := app_fr hg
 refine ⟨h.wb.keep hf fun k hk => ?_, ⟨row_heap h.h.row fun g hg => hf.block g (h.h.lt g hg) fun hm => ?_, h.h.off⟩, h.t.more (n := 0) hown hwh h.wb.lt, fun g hg he => ?_⟩
 ·rw [Option.mem_toList] at hk
  exact ⟨h.t.off k hk, (h.t.row.lt k hk).1⟩
 ·rw [Option.mem_toList] at hm
  exact h.ne g hg hm
 ·have : g' = g := by simpa [Value.ownBlock] using he
  subst this
  rcases hwh with h1 | h1
  ·exact h.ne g' hg h1
  ·have := h.h.lt g' hg; omega
end
def AskPost (w : World) (O : List Nat) (b : Nat) (l : List POb) (p : PW) (e : Ending) (w' : World) : Prop :=
 ∃ vh vt O', e = .returned (.tuple #[vh, vt, .int .i64 (if (askN l p l.length).cut = true then 56 else 0)]) ∧ AInv w O b vh vt (askN l p l.length) O' w'
theorem ask_any {w : World} {b : Nat} {p : PW} {O : List Nat} (h : WAt w b p O) {vl : Value} {l : List POb} {bl : Nat} (hl : ObjsAt w bl vl l) (hoff : ∀ g, vl.ownBlock = some g → g ∉ O) (hlen : l.length ≤ 1000) :
 Calls Tryz.prog 93 #[.pointer (some ⟨b, 0, none⟩), vl] w (AskPost w O b l p) := by
 obtain ⟨A, cap, rfl⟩ := OwnG.shape hl
 have HL := Lib.hid hl
 have HOFF := Lib.hid hoff
 have HA := Lib.hid (WB.refl h)
 have HLEN := Lib.hid (show ∀ q, q ≤ l.length → (askN l p q).held.length ≤ 1000 ∧ (askN l p q).todo.length ≤ 1000 from fun q hq => by have := (askN_lt l p q).2; rw [List.length_append] at this; omega)
 clear h hl hoff
 go_enter Tryz.func93, Tryz.ntmps93
 go_wp2_with fail
 go_loopw [4, 5, 13] (fun vh vt i wr => ∃ (q : Nat) (O' : List Nat), q ≤ l.length ∧ i = .int .i64 (q : Int) ∧ AInv w O b vh vt (askN l p q) O' wr ∧ (askN l p q).cut = false) (fun _ _ i _ => l.length - (intOf i).toNat)
 case atStart => exact ⟨0, O, by omega, rfl, ⟨HA.out, NRow.nil _ _ _, NRow.nil _ _ _, by simp [Value.ownBlock]⟩, rfl⟩
 case round =>
  obtain ⟨q, O', hq, rfl, hI, hcut⟩ := hrel
  by_cases hlt : q < l.length
  ·have hlt2 : (q : Int) < (l.length : Int) := by omega
   obtain ⟨g, cap', hv', r0, r1⟩ := HL.out.cells hlt
   obtain ⟨rfl, rfl⟩ : A = some ⟨g, 0, none⟩ ∧ cap = cap' := by cases hv'; exact ⟨rfl, rfl⟩
   have hgl : g < w.heap.size := lt_cell r0
   replace r0 := (World.cell?_of_block (a := ⟨g, q * 2, none⟩) (hI.wb.fr.block g hgl (HOFF.out g rfl))).trans r0
   replace r1 := (World.cell?_of_block (a := ⟨g, q * 2 + 1, none⟩) (hI.wb.fr.block g hgl (HOFF.out g rfl))).trans r1
   have hst : askN l p (q + 1) = askStep l (askN l p q) q := rfl
   have hgd : l.getD q (⟨#[]⟩, ⟨#[]⟩) = l[q] := by rw [List.getD, List.getElem?_eq_getElem hlt, Option.getD_some]
   unfold askStep at hst
   have hln := HLEN.out q hq
   rw [hcut, hgd] at hst
   simp only [Bool.false_eq_true, if_false] at hst
   generalize askN l p q = a at *
   obtain ⟨⟨nm, dt⟩, hlq⟩ : ∃ o, o = l[q] := ⟨_, rfl⟩
   rw [← hlq] at r0 r1 hst
   simp only at r0 r1 hst
   have HGET := Lib.hid (fun W (hE : Stab.Ext wr W) => wget_any (hI.wb.ext hE).at_ (q : Int) nm)
   generalize wgetO a.p q nm = xo at *
   obtain ⟨x, er⟩ := xo
   simp only at hst HGET
   have HST := Lib.hid hst
   have HI := Lib.hid hI
   obtain ⟨Ah, ch, hvh⟩ := row_shape hI.h.row
   obtain ⟨At, ct, hvt⟩ := row_shape hI.t.row
   subst hvh hvt
   clear hI hst hlq hv' hgd
   go_wp2_with (go_at_call 85; with_reducible refine (HGET.out _ (Stab.Ext.alloc _ _)).mono ?_)
   intro e w4 hq
   obtain ⟨O3, hI4, hf4⟩ := (HI.out.ext (Stab.Ext.alloc wr (.cells #[.string nm, .string dt] 45))).next hq
   obtain ⟨rfl, -⟩ := hq
   have HI4 := Lib.hid hI4
   have hbx := hf4.blk (Blk.new wr 45 #[.string nm, .string dt]) (fun hm => by have := HI.out.wb.lt _ hm; omega)
   have hbx1 := hbx.cell 1
   have hbx0 := hbx.lt
   simp only [List.getElem?_toArray, List.getElem?_cons_zero, List.getElem?_cons_succ] at hbx1
   clear hbx hf4
   by_cases h56 : er = 56
   ·subst h56
    have hs : askN l p (q + 1) = ⟨true, [], [], getP a.p q⟩ := HST.out.trans (if_pos rfl)
    clear hI4
    go_wp2_with fail
    go_ret3
    have hfin : askN l p l.length = ⟨true, [], [], getP a.p q⟩ := by
     have := askN_cut (l := l) (p := p) (q := q + 1) (by rw [hs]) (l.length - (q + 1))
     rw [show q + 1 + (l.length - (q + 1)) = l.length by omega] at this
     rw [this, hs]
    unfold AskPost
    rw [hfin]
    exact ⟨_, _, O3, rfl, HI4.out.wb, NRow.nil _ _ _, NRow.nil _ _ _, by simp [Value.ownBlock]⟩
   ·have hq6 : q + 1 ≤ 1000 := by omega
    by_cases hh : er = 0 ∧ x = dt
    ·have HS := Lib.hid (show askN l p (q + 1) = ⟨false, a.held ++ [q], a.todo, getP a.p q⟩ from HST.out.trans ((if_neg h56).trans (if_pos hh)))
     obtain ⟨rfl, rfl⟩ := hh
     obtain ⟨g6, c6, w6, hrun, hown, -, hgr, hwh⟩ := own_app_new (c := 1) (m := 1) (C := #[.int .i64 (q : Nat)]) Tryz.underlying54 info_int rfl (by omega) (by omega) (show w4.ownsRow w.heap.size 3 1 (.slice Ah a.held.length ch) a.held.length (intsV a.held) from hI4.h.row) rfl (by simp [Value.oneCell']) (by omega) (by omega) (Nat.le_trans HI.out.wb.fr.size (by omega))
     have HN := Lib.hid (hI4.moreh hown hgr hwh)
     clear hI4 hown hgr hwh
     go_wp2_with fail
     go_roundw
     case rel => exact ⟨q + 1, O3, by omega, by go_num, by rw [HS.out]; exact ⟨HN.out.wb, HN.out.h, HN.out.t, HN.out.ne⟩, by rw [HS.out]⟩
     case measure => simp [intOf]; omega
    ·by_cases h05 : er = 0 ∨ er = 5
     ·have HS := Lib.hid (show askN l p (q + 1) = ⟨false, a.held, a.todo ++ [q], getP a.p q⟩ from HST.out.trans ((if_neg h56).trans ((if_neg hh).trans (if_pos h05))))
      obtain ⟨g6, c6, w6, hrun, hown, -, hgr, hwh⟩ := own_app_new (c := 1) (m := 1) (C := #[.int .i64 (q : Nat)]) Tryz.underlying54 info_int rfl (by omega) (by omega) (show w4.ownsRow w.heap.size 3 1 (.slice At a.todo.length ct) a.todo.length (intsV a.todo) from hI4.t.row) rfl (by simp [Value.oneCell']) (by omega) (by omega) (Nat.le_trans HI.out.wb.fr.size (by omega))
      have HN := Lib.hid (hI4.moret hown hgr hwh)
      clear hI4 hown hgr hwh
      rcases h05 with rfl | rfl
      ·have hx : (x.toList == dt.toList) = false := by
        rw [beq_eq_false_iff_ne]
        exact fun e => hh ⟨rfl, bytes_inj.1 e⟩
       clear hh
       go_wp2_with fail
       go_roundw
       case rel => exact ⟨q + 1, O3, by omega, by go_num, by rw [HS.out]; exact ⟨HN.out.wb, HN.out.h, HN.out.t, HN.out.ne⟩, by rw [HS.out]⟩
       case measure => simp [intOf]; omega
      ·clear hh
       go_wp2_with fail
       go_roundw
       case rel => exact ⟨q + 1, O3, by omega, by go_num, by rw [HS.out]; exact ⟨HN.out.wb, HN.out.h, HN.out.t, HN.out.ne⟩, by rw [HS.out]⟩
       case measure => simp [intOf]; omega
     ·have HS := Lib.hid (show askN l p (q + 1) = ⟨false, a.held, a.todo, getP a.p q⟩ from HST.out.trans ((if_neg h56).trans ((if_neg hh).trans (if_neg h05))))
      obtain ⟨h0, h5⟩ := not_or.1 h05
      have b05 : (er == 0 || er == 5) = false := by simp [h0, h5]
      clear hI4 hh h05
      go_wp2_with fail
      go_roundw
      case rel => exact ⟨q + 1, O3, by omega, by go_num, by rw [HS.out]; exact ⟨HI4.out.wb, HI4.out.h, HI4.out.t, HI4.out.ne⟩, by rw [HS.out]⟩
      case measure => simp [intOf]; omega
  ·have hqe : q = l.length := by omega
   subst hqe
   have HX := Lib.hid hI
   have HC := Lib.hid hcut
   have d1 : ¬ ((l.length : Int) < (l.length : Int)) := by omega
   clear hI hcut
   go_wp2_with fail
   go_ret3
   exact ⟨_, _, O', by rw [HC.out]; rfl, HX.out⟩
end Str
end Go.Proofs.YtnbkhdbligjifaaGreatDoor
