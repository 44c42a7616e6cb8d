/-
 The health package: what is looked at, its models; worlds that stay among the new blocks. The walk of (*strings.Builder).Write onto a row of bytes. The walks of package shard: Code, binary, Make.
-/
import Derived.Test.YtnbkhdbligjifaaGreatDoorShdObj
import Derived.Test.YtnbkhdbligjifaaGreatDoorShdName
import Derived.Test.YtnbkhdbligjifaaGreatDoorSumL
set_option linter.unusedVariables false
set_option linter.unusedSimpArgs false
set_option maxRecDepth 100000
set_option maxHeartbeats 40000000
namespace Go.Proofs.YtnbkhdbligjifaaGreatDoor
open Go Go.RowKit Vm
namespace Hlt
/-! ### a world under way -/
structure WB (w0 : World) (O0 : List Nat) (b : Nat) (p : PW) (O : List Nat) (w : World) : Prop where
 at_ : WAt w b p O
 fr : Fr O0 w0 w
 own : ∀ k, k ∈ O → k ∈ O0 ∨ w0.heap.size ≤ k
section
variable {w0 w w' : World} {b : Nat} {p p' : PW} {O O0 O' : List Nat}
theorem WB.refl (h : WAt w b p O) : WB w O b p O w := ⟨h, Fr.refl _ _, fun _ hk => .inl hk⟩
theorem WB.fr_next (h : WB w0 O0 b p O w) (hf : Fr O w w') : Fr O0 w0 w' := h.fr.trans hf fun k hk hl => (h.own k hk).resolve_right (by omega)
theorem WB.next {v : Value} {e : Ending} (h : WB w0 O0 b p O w) (hp : WPost w b O v p' e w') : ∃ O', WB w0 O0 b p' O' w' ∧ Fr O w w' ∧ (∀ k, k ∈ O' → k ∈ O ∨ w.heap.size ≤ k) := by
 obtain ⟨_, O', h1, h2, h3⟩ := hp
 refine ⟨O', ⟨h1, h.fr_next h2, fun k hk => ?_⟩, h2, h3⟩
 rcases h3 k hk with h4 | h4
 ·exact h.own k h4
 ·exact .inr (Nat.le_trans h.fr.size h4)
theorem WB.keep (h : WB w0 O0 b p O w) {X : List Nat} (hf : Fr X w w') (hX : ∀ k, k ∈ X → k ∉ O ∧ w0.heap.size ≤ k) : WB w0 O0 b p O w' :=
 ⟨h.at_.keep hf fun k hk hx => (hX k hx).1 hk, h.fr.trans hf fun k hk hl => absurd (hX k hk).2 (by omega), h.own⟩
theorem WB.ext (h : WB w0 O0 b p O w) (hE : Stab.Ext w w') : WB w0 O0 b p O w' := h.keep (X := []) (Fr.of_below hE) (by simp)
theorem WB.cell (h : WB w0 O0 b p O w) {X : List Nat} {g j : Nat} {u : Value} (hX : g ∉ O) (hg : w0.heap.size ≤ g) : WB w0 O0 b p O (w.setCell ⟨g, j, none⟩ u) :=
 h.keep (Fr.cell w ⟨g, j, none⟩ u) fun k hk => by simp only [List.mem_singleton] at hk; subst hk; exact ⟨hX, hg⟩
theorem WB.front {w1 : World} (h : WB w1 O0 b p O w) (hE : Stab.Ext w0 w1) : WB w0 O0 b p O w :=
 ⟨h.at_, (Fr.of_below (O := O0) hE).trans h.fr fun k hk _ => hk, fun k hk => (h.own k hk).imp id fun h => Nat.le_trans hE.size h⟩
theorem WB.post (h : WB w0 O0 b p O w) (v : Value) : WPost w0 b O0 v p (.returned v) w := ⟨rfl, O, h.at_, h.fr, h.own⟩
theorem WB.lt (h : WB w0 O0 b p O w) : ∀ k, k ∈ O → k < w.heap.size := h.at_.lt
end
/-! ### the library's variables stand, where the world's blocks are no variables -/
def Far (O : List Nat) : Prop := ∀ k, k ∈ O → Tryz.prog.globals.size ≤ k
theorem vars_fr {w w' : World} {O : List Nat} (h : Shd.Vars w) (hf : Fr O w w') (hO : Far O) : Shd.Vars w' := by
 have hno : ∀ g, g < Tryz.prog.globals.size → g ∉ O := fun g hg hm => by have := hO g hm; omega
 have key : ∀ g (hg : g < Tryz.prog.globals.size) (j : Nat) (v : Value), w.cell? ⟨g, j, none⟩ = some v → w'.cell? ⟨g, j, none⟩ = some v := fun g hg j v hc =>
  (World.cell?_of_block (hf.block g (lt_cell hc) (hno g hg))).trans hc
 obtain ⟨h1, h2, h3, h4⟩ := h
 refine ⟨?_, ?_, ?_, ?_⟩
 ·obtain ⟨m, h1⟩ := h1; exact ⟨m, key _ (of_decide_eq_true (by kernel_rfl)) _ _ h1⟩
 ·exact h2
 ·exact h3
 ·have hlt := Shd.tab_lt h4
  unfold Lib.TabIs World.var? at h4 ⊢
  simp only [Shd.gPow, Option.bind_some] at h4 ⊢
  rw [hf.block _ hlt (hno _ (of_decide_eq_true (by kernel_rfl)))]
  exact h4
/-! ### what was got of a store -/
structure Got where
 sound : Bool
 there : Bool
 pay : ByteArray
def gotC (g : Got) : List Value := [.bool g.sound, .bool g.there, .string g.pay]
def gotsV (l : List Got) : List Value := l.flatMap gotC
theorem gotsV_app (l m : List Got) : gotsV (l ++ m) = gotsV l ++ gotsV m := by simp [gotsV]
theorem gotsV_get (l : List Got) (i : Nat) (g : Got) (h : l[i]? = some g) : (gotsV l)[i * 3]? = some (.bool g.sound) ∧ (gotsV l)[i * 3 + 1]? = some (.bool g.there) ∧ (gotsV l)[i * 3 + 2]? = some (.string g.pay) := by
 induction l generalizing i with
 | nil => simp at h
 | cons a l ih =>
   have hc : gotsV (a :: l) = gotC a ++ gotsV l := rfl
   have h3 : (gotC a).length = 3 := rfl
   cases i with
   | zero =>
     simp only [List.getElem?_cons_zero, Option.some.injEq] at h
     subst h
     rw [hc]
     exact ⟨rfl, rfl, rfl⟩
   | succ i =>
     rw [List.getElem?_cons_succ] at h
     have := ih i h
     rw [hc, Nat.succ_mul]
     refine ⟨?_, ?_, ?_⟩
     ·rw [List.getElem?_append_right (by omega), h3, show i * 3 + 3 - 3 = i * 3 by omega]; exact this.1
     ·rw [List.getElem?_append_right (by omega), h3, show i * 3 + 3 + 1 - 3 = i * 3 + 1 by omega]; exact this.2.1
     ·rw [List.getElem?_append_right (by omega), h3, show i * 3 + 3 + 2 - 3 = i * 3 + 2 by omega]; exact this.2.2
def nmL (d : ByteArray) (i : Nat) : List UInt8 := Shd.nameL d.data.toList (i : Int)
def nmB (d : ByteArray) (i : Nat) : ByteArray := ⟨(nmL d i).toArray⟩
open Classical in
noncomputable def gotOf (nm : List UInt8) (x : ByteArray × Int) (k n : Int) : Got :=
 if x.2 = 0 then
  if Shd.Looks Shd.sumL nm x.1.data.toList then ⟨(Shd.readS x.1.data.toList).K == k && (Shd.readS x.1.data.toList).N == n, true, ⟨(Shd.readS x.1.data.toList).pay.toArray⟩⟩ else ⟨false, true, ⟨#[]⟩⟩
 else ⟨false, x.2 == 5, ⟨#[]⟩⟩
noncomputable def lookL (p : PW) (d : ByteArray) (k n : Int) (q : Nat) : List Got := (List.range q).map fun i => gotOf (nmL d i) (wgetO p i (nmB d i)) k n
theorem lookL_len (p : PW) (d : ByteArray) (k n : Int) (q : Nat) : (lookL p d k n q).length = q := by simp [lookL]
theorem lookL_succ (p : PW) (d : ByteArray) (k n : Int) (q : Nat) : lookL p d k n (q + 1) = lookL p d k n q ++ [gotOf (nmL d q) (wgetO p q (nmB d q)) k n] := by simp [lookL, List.range_succ]
def Calm (p : PW) : Prop := p.left = -1 ∧ p.dark = false
theorem Calm.stepd {p : PW} (h : Calm p) : p.stepd = false := by simp [PW.stepd, h.1, h.2]
def PW.adv (p : PW) : Nat → PW
 | 0 => p
 | m + 1 => { PW.adv p m with calls := wrap64 ((PW.adv p m).calls + 1) }
theorem adv_st (p : PW) (m : Nat) : (PW.adv p m).n = p.n ∧ (PW.adv p m).st = p.st ∧ (PW.adv p m).sus = p.sus ∧ (PW.adv p m).left = p.left ∧ (PW.adv p m).dark = p.dark := by
 induction m with
 | zero => exact ⟨rfl, rfl, rfl, rfl, rfl⟩
 | succ m ih => exact ih
theorem adv_calm {p : PW} (h : Calm p) (m : Nat) : Calm (PW.adv p m) := by obtain ⟨_, _, _, h1, h2⟩ := adv_st p m; exact ⟨h1.trans h.1, h2.trans h.2⟩
theorem step_calm {p : PW} (h : Calm p) : p.step = { p with calls := wrap64 (p.calls + 1) } := by
 obtain ⟨n, st, sus, calls, left, dark⟩ := p
 obtain ⟨rfl, rfl⟩ := h
 rfl
theorem getP_calm {p : PW} (h : Calm p) (i : Nat) (hi : i < p.n) : getP p i = { p with calls := wrap64 (p.calls + 1) } := by
 have hh : p.has i = true := by simp [PW.has]; omega
 rw [getP, if_pos hh, step_calm h]
theorem wgetO_congr {p q : PW} (hn : p.n = q.n) (hs : p.st = q.st) (hd : p.stepd = q.stepd) (i : Int) (nm : ByteArray) : wgetO p i nm = wgetO q i nm := by
 unfold wgetO PW.has
 rw [hn, hs, hd]
theorem wgetO_adv {p : PW} (h : Calm p) (m : Nat) (i : Int) (nm : ByteArray) : wgetO (PW.adv p m) i nm = wgetO p i nm := by
 obtain ⟨h1, h2, _⟩ := adv_st p m
 exact wgetO_congr h1 h2 ((adv_calm h m).stepd.trans h.stepd.symm) i nm
theorem wgetO_calm {p : PW} (h : Calm p) (i : Nat) (hi : i < p.n) (nm : ByteArray) : (wgetO p i nm).2 = 0 ∨ ((wgetO p i nm).2 = 5 ∧ (wgetO p i nm).1 = ⟨#[]⟩) ∨ ((wgetO p i nm).2 = 51 ∧ (wgetO p i nm).1 = ⟨#[]⟩) := by
 have hh : p.has i = true := by simp [PW.has]; omega
 unfold wgetO getO
 rw [hh, h.stepd]
 simp only [if_true, Bool.false_eq_true, if_false]
 cases (p.st (i : Int).toNat).down
 ·cases TMap.look (p.st (i : Int).toNat).seen nm <;> simp
 ·simp
/-! ### a blob over the stores -/
structure BlobIs (w : World) (B b : Nat) (k n : Int) (d : ByteArray) (gv : Value) (l : List Got) : Prop where
 blk : Blk w B 93 #[.pointer (some ⟨b, 0, none⟩), .int .i64 k, .int .i64 n, .string d, gv]
 row : w.ownsRow 0 100 3 gv l.length (gotsV l)
 ne : gv.ownBlock ≠ some B
def bOwn (B : Nat) (gv : Value) : List Nat := B :: gv.ownBlock.toList
theorem BlobIs.keep {w w' : World} {B b : Nat} {k n : Int} {d : ByteArray} {gv : Value} {l : List Got} (h : BlobIs w B b k n d gv l) {O : List Nat} (hf : Fr O w w') (hO : ∀ x, x ∈ bOwn B gv → x ∉ O) : BlobIs w' B b k n d gv l where
 blk := hf.blk h.blk (hO _ (by simp [bOwn]))
 row := row_heap h.row fun g hg => hf.block g (row_lt h.row hg) (hO _ (by simp [bOwn, hg]))
 ne := h.ne
theorem BlobIs.lt {w : World} {B b : Nat} {k n : Int} {d : ByteArray} {gv : Value} {l : List Got} (h : BlobIs w B b k n d gv l) : ∀ x, x ∈ bOwn B gv → x < w.heap.size := by
 intro x hx
 simp only [bOwn, List.mem_cons, Option.mem_toList] at hx
 rcases hx with rfl | hx
 ·exact h.blk.lt
 ·exact row_lt h.row hx
theorem BlobIs.appended {w w' : World} {B b g' cap : Nat} {k n : Int} {d : ByteArray} {gv : Value} {l : List Got} {x : Got} {C : Array Value} (h : BlobIs w B b k n d gv l)
 (hown : w'.ownsRow 0 100 3 (.slice (some ⟨g', 0, none⟩) (l.length + 1) cap) (l.length + 1) (gotsV l ++ C.toList)) (hgr : (w.alloc (.cells C 100)).grownBy w' gv.ownBlock) (hwh : gv.ownBlock = some g' ∨ g' = w.heap.size + 1) (hC : C.toList = gotC x) :
 BlobIs (w'.setCell ⟨B, 4, none⟩ (.slice (some ⟨g', 0, none⟩) (l.length + 1) cap)) B b k n d (.slice (some ⟨g', 0, none⟩) (l.length + 1) cap) (l ++ [x]) ∧
  Fr (bOwn B gv) w (w'.setCell ⟨B, 4, none⟩ (.slice (some ⟨g', 0, none⟩) (l.length + 1) cap)) ∧ (∀ y, y ∈ bOwn B (.slice (some ⟨g', 0, none⟩) (l.length + 1) cap) → y ∈ bOwn B gv ∨ w.heap.size ≤ y) ∧
  w'.cell? ⟨B, 4, none⟩ = some gv ∧ w'.frozen? ⟨B, 4, none⟩ = false := by
 have hF0 : Fr gv.ownBlock.toList w w' := by
  refine ⟨hgr.os, hgr.tape, hgr.output, Nat.le_trans (by simp) hgr.size, fun k hk hkO => ?_⟩
  rw [hgr.block k (by simp; omega) (fun e => hkO (by simp [← e]))]
  exact Below.heap_alloc w _ k hk
 have hB' := hF0.blk h.blk (by rw [Option.mem_toList]; exact h.ne)
 have hgB : g' ≠ B := by
  rcases hwh with h1 | h1
  ·rintro rfl; exact h.ne h1
  ·have := h.blk.lt; omega
 refine ⟨⟨hB'.set_ 4 _, ?_, ?_⟩, ?_, ?_, hB'.cell 4, hB'.frozen 4⟩
 ·rw [gotsV_app, List.length_append, show gotsV [x] = C.toList by rw [hC]; simp [gotsV]]
  refine row_heap hown fun k hk => Below.heap_setCell w' ⟨B, 4, none⟩ _ k ?_
  have hkg : k = g' := by simpa [Value.ownBlock] using hk.symm
  rw [hkg]
  exact hgB
 ·intro he
  exact hgB (by simpa [Value.ownBlock] using he)
 ·refine (hF0.sub fun k hk => ?_).trans (Fr.cell w' ⟨B, 4, none⟩ _) fun k hk _ => ?_
  ·exact List.mem_cons_of_mem _ hk
  ·simp only [List.mem_singleton] at hk; subst hk; simp [bOwn]
 ·intro y hy
  simp only [bOwn, Value.ownBlock, List.mem_cons, Option.mem_toList, Option.some.injEq] at hy ⊢
  rcases hy with rfl | rfl
  ·exact .inl (.inl rfl)
  ·rcases hwh with h1 | h1
   ·exact .inl (.inr h1)
   ·exact .inr (by omega)
end Hlt
end Go.Proofs.YtnbkhdbligjifaaGreatDoor
namespace Go.Proofs.YtnbkhdbligjifaaGreatDoor
open Go.RowKit
theorem write_any (B b : Nat) (l m : List UInt8) (g cap : Nat) (r : Array Value) (t : TypeId) (w : World) (h : Bld B b l w) (hg : Blk w g t (nums m ++ r)) (hgb : g ≠ b) (hlen : l.length + m.length ≤ 140737488355328) (hBw : B ≤ w.heap.size) :
 Calls Tryz.prog 75 #[.pointer (some ⟨b, 0, none⟩), .slice (some ⟨g, 0, none⟩) m.length cap] w fun e w' =>
  (∃ v, e = .returned v) ∧ Bld B b (l ++ m) w' ∧ Below B w w' ∧ BKept b w w' := by
 obtain ⟨i0, hi, hz0, hz1, hz2⟩ := info_parts info5
 have hl := Lib.byteCells_length l
 have hm := Lib.byteCells_length m
 go_enter Tryz.func75, Tryz.ntmps75
 go_wp2_with (go_at_call 105; refine (check_any B b _ _ h).mono ?_)
 rintro e w1 ⟨rfl, ⟨hB, v, hbk, hown, hne⟩, hb1, hk1, hoth⟩
 have hg1 : Blk w1 g t (nums m ++ r) := (hoth g hgb).trans hg
 have hlt : b < w1.heap.size := by
  rcases Nat.lt_or_ge b w1.heap.size with h | h
  ·exact h
  ·rw [Array.getElem?_eq_none h] at hbk; cases hbk
 have c0 : w1.cell? ⟨b, 0, none⟩ = some (.pointer (some ⟨b, 0, none⟩)) := by rw [Lib.cell_of_heap hbk]; rfl
 have c1 : w1.cell? ⟨b, 1, none⟩ = some v := by rw [Lib.cell_of_heap hbk]; rfl
 have hcells : ∀ j u, (Lib.byteCells m)[j]? = some u → w1.cell? ((⟨g, 0, none⟩ : Addr).add j) = some u := by
  intro j u hj
  have hp : (⟨g, 0, none⟩ : Addr).add j = ⟨g, j, none⟩ := by unfold Addr.add; split <;> simp_all
  have hjl : j < m.length := by
   rcases Nat.lt_or_ge j m.length with h | h
   ·exact h
   ·rw [List.getElem?_eq_none (by rw [hm]; exact h)] at hj; cases hj
  rw [hp, hg1.cell j, Array.getElem?_append_left (by rw [nums_size]; exact hjl)]
  simpa [nums, Lib.byteCells] using hj
 have hone : ∀ u ∈ Lib.byteCells m, u.oneCell' = true := by
  intro u hu
  obtain ⟨x, _, rfl⟩ := List.mem_map.1 hu
  rfl
 go_wp2_with (at_builtin; refine wpList_append_ownF _ rfl _ _ 136 rfl B 5 i0 (.int .u8 0) 1 1 Tryz.underlying136 hi hz0 hz1 hz2 rfl (by decide) _ _ _ rfl hown ⟨g, 0, none⟩ m.length cap (Lib.byteCells m) rfl (by rw [hm, Nat.mul_one]) hcells hone (by rw [hl]; unfold maxLen; omega) (by rw [hl]; omega) (by have := hb1.size; omega) ?_)
 intro v' w2 hown' hgrow _
 have hb2 := (hgrow.block b hlt (fun e => hne e.symm)).trans hbk
 have d1 : w2.cell? ⟨b, 1, none⟩ = some v := by rw [Lib.cell_of_heap hb2]; rfl
 have f1 : w2.frozen? ⟨b, 1, none⟩ = false := Lib.frozen_of_heap hb2 1
 have hP := bput (bs' := Lib.byteCells (l ++ m)) hBw hB hb1 hk1 hbk hown hgrow (by rw [Lib.byteCells_append]; simpa [hl, hm] using hown')
 obtain ⟨ao, cap, rfl⟩ := ownF_slice hown'
 go_wp2
 go_ret2
 exact ⟨⟨_, rfl⟩, hP⟩
end Go.Proofs.YtnbkhdbligjifaaGreatDoor
namespace Go.Proofs.YtnbkhdbligjifaaGreatDoor
open Go.RowKit
namespace Shd
theorem codeB_mk {k n : Int} {b : Bool} (h : codeB k n = b) : Ending.returned (.bool b) = .returned (.bool (codeB k n)) := by rw [h]
theorem code_any (k n : Int) (w : World) :
 Calls Tryz.prog 73 #[.agg #[.int .i64 k, .int .i64 n]] w fun e w' => e = .returned (.bool (codeB k n)) ∧ Below w.heap.size w w' := by
 by_cases h1 : 1 ≤ k
 ·by_cases h2 : k ≤ n
  ·by_cases h3 : n ≤ 12
   ·go_enter Tryz.func73, Tryz.ntmps73
    go_wp2_with fail
    go_ret
    exact ⟨codeB_mk (by simp [codeB, h1, h2, h3]), (Below.refl _ _).alloc (Nat.le_refl _) _⟩
   ·go_enter Tryz.func73, Tryz.ntmps73
    go_wp2_with fail
    go_ret
    exact ⟨codeB_mk (by simp [codeB, h1, h2, h3]), (Below.refl _ _).alloc (Nat.le_refl _) _⟩
  ·go_enter Tryz.func73, Tryz.ntmps73
   go_wp2_with fail
   go_ret
   exact ⟨codeB_mk (by simp [codeB]; omega), (Below.refl _ _).alloc (Nat.le_refl _) _⟩
 ·go_enter Tryz.func73, Tryz.ntmps73
  go_wp2_with fail
  go_ret
  exact ⟨codeB_mk (by simp [codeB]; omega), (Below.refl _ _).alloc (Nat.le_refl _) _⟩
theorem binary_any (k n i len : Int) (w : World) :
 Calls Tryz.prog 76 #[.int .i64 k, .int .i64 n, .int .i64 i, .int .i64 len] w fun e w' =>
  e = .returned (.slice (some ⟨w.heap.size, 0, none⟩) 7 7) ∧ Blk w' w.heap.size 5 (nums (binL k n i len)) ∧ Below w.heap.size w w' := by
 go_enter Tryz.func76, Tryz.ntmps76
 go_wp2_with fail
 go_ret
 refine ⟨rfl, ?_, (Below.refl _ _).alloc (Nat.le_refl _) _⟩
 have e : nums (binL k n i len) = #[.int .u8 (k % 256), .int .u8 (n % 256), .int .u8 (i % 256), .int .u8 (len / 16777216 % 256), .int .u8 (len / 65536 % 256), .int .u8 (len / 256 % 256), .int .u8 (len % 256)] := by
  unfold nums binL
  simp only [List.map_cons, List.map_nil, by8_toNat]
 rw [e]
 exact Blk.new w _ _
theorem bld_below {B b : Nat} {l : List UInt8} {w w' : World} (h : Bld B b l w) (hb : Below w.heap.size w w') : Bld B b l w' := by
 have hg : w.grownBy w' none := ⟨hb.os, hb.tape, hb.output, hb.size, fun k hk _ => hb.block k hk⟩
 have key : ∀ p, Lib.BuilderAtF 138 5 B b p (Lib.byteCells l) w → Lib.BuilderAtF 138 5 B b p (Lib.byteCells l) w' := fun p h => by
  obtain ⟨h1, v, h2, h3, h4⟩ := h
  refine ⟨h1, v, (hb.block b (Array.getElem?_eq_some_iff.1 h2).1).trans h2, h3.kept hg ?_, h4⟩
  cases v.ownBlock
  ·exact .inl rfl
  ·exact .inr (by simp)
 rcases h with h | h
 ·exact .inl (key _ h)
 ·exact .inr (key _ h)
def shardC (K N : Int) (dig : ByteArray) (idx : Int) (pay : ByteArray) : Array Value := #[.int .i64 K, .int .i64 N, .string dig, .int .i64 idx, .string pay]
def toS (K N : Int) (dig : ByteArray) (idx : Int) (pay : ByteArray) : Shard := ⟨K, N, idx, dig.data.toList, pay.data.toList⟩
def objV (name data : List UInt8) : Value := .agg #[.string ⟨name.toArray⟩, .string ⟨data.toArray⟩]
theorem set_two {W : World} {g : Nat} {t : TypeId} {a b : Value} (h : Blk W g t #[a, b]) (x y : Value) : Blk ((W.setCell ⟨g, 0, none⟩ x).setCell ⟨g, 1, none⟩ y) g t #[x, y] := (h.set_ 0 x).set_ 1 y
theorem below_two {w W : World} {n : Nat} (h : Below n w W) (x y : Value) : Below n w ((W.setCell ⟨n + 1, 0, none⟩ x).setCell ⟨n + 1, 1, none⟩ y) := (h.setCell (p := ⟨n + 1, 0, none⟩) (by simp) _).setCell (p := ⟨n + 1, 1, none⟩) (by simp) _
def MakeEnd (s : Shard) (e : Ending) : Prop :=
 (s.May ∧ s.pay.length ≤ 65461 ∧ e = .returned (.tuple #[objV (nameL s.dig s.idx) (s.data sumL), .int .i64 0])) ∨
 (s.May ∧ 65461 < s.pay.length ∧ e = .returned (.tuple #[objV [] [], .int .i64 40])) ∨ (¬ s.May ∧ e = .returned (.tuple #[objV [] [], .int .i64 1]))
theorem make_any (K N idx : Int) (dig pay : ByteArray) (hi : I64 idx) (w : World) (hv : Vars w) :
 Calls Tryz.prog 38 #[.agg #[.int .i64 K, .int .i64 N, .string dig, .int .i64 idx, .string pay]] w fun e w' => MakeEnd (toS K N dig idx pay) e ∧ Below w.heap.size w w' := by
 have hdl : dig.data.toList.length = dig.size := by simp
 have hpl : pay.data.toList.length = pay.size := by simp
 have HV := Lib.hid hv
 clear hv
 go_enter Tryz.func38, Tryz.ntmps38
 go_wp2_with fail
 have hbx : Blk ((w.alloc (.cells #[.int .i64 K, .int .i64 N, .string dig, .int .i64 idx, .string pay] 84)).alloc (.cells #[.string ⟨#[]⟩, .string ⟨#[]⟩] 45)) w.heap.size 84 (shardC K N dig idx pay) := (Blk.new w _ _).alloc _
 have hrs : Blk ((w.alloc (.cells #[.int .i64 K, .int .i64 N, .string dig, .int .i64 idx, .string pay] 84)).alloc (.cells #[.string ⟨#[]⟩, .string ⟨#[]⟩] 45)) (w.heap.size + 1) 45 #[.string ⟨#[]⟩, .string ⟨#[]⟩] := by
  have h := Blk.new (w.alloc (.cells #[.int .i64 K, .int .i64 N, .string dig, .int .i64 idx, .string pay] 84)) 45 #[.string ⟨#[]⟩, .string ⟨#[]⟩]
  simpa using h
 have hb2 : Below w.heap.size w ((w.alloc (.cells #[.int .i64 K, .int .i64 N, .string dig, .int .i64 idx, .string pay] 84)).alloc (.cells #[.string ⟨#[]⟩, .string ⟨#[]⟩] 45)) := ((Below.refl _ _).alloc (Nat.le_refl _) _).alloc (by simp) _
 obtain ⟨n0, hn0⟩ : ∃ n, n = w.heap.size := ⟨_, rfl⟩
 rw [← hn0] at hbx hrs hb2 ⊢
 have HN0 := Lib.hid hn0
 clear hn0
 generalize (w.alloc (.cells #[.int .i64 K, .int .i64 N, .string dig, .int .i64 idx, .string pay] 84)).alloc (.cells #[.string ⟨#[]⟩, .string ⟨#[]⟩] 45) = w2 at *
 refine (code_any K N w2).mono ?_
 rintro e w3 ⟨rfl, hb3⟩
 have hbx3 := hbx.below hb3 hbx.lt
 have hrs3 := hrs.below hb3 hrs.lt
 have hb03 : Below n0 w w3 := hb2.trans (hb3.mono (Nat.le_of_lt hbx.lt))
 clear hbx hrs hb2 hb3
 have c0 : w3.cell? ⟨n0, 0, none⟩ = some (.int .i64 K) := hbx3.cell 0
 have c1 : w3.cell? ⟨n0, 1, none⟩ = some (.int .i64 N) := hbx3.cell 1
 have c2 : w3.cell? ⟨n0, 2, none⟩ = some (.string dig) := hbx3.cell 2
 have c3 : w3.cell? ⟨n0, 3, none⟩ = some (.int .i64 idx) := hbx3.cell 3
 have c4 : w3.cell? ⟨n0, 4, none⟩ = some (.string pay) := hbx3.cell 4
 have r0 : w3.cell? ⟨n0 + 1, 0, none⟩ = some (.string ⟨#[]⟩) := hrs3.cell 0
 have r1 : w3.cell? ⟨n0 + 1, 1, none⟩ = some (.string ⟨#[]⟩) := hrs3.cell 1
 have f0 := hrs3.frozen 0
 have f1 := hrs3.frozen 1
 have HBX := Lib.hid hbx3
 have HRS := Lib.hid hrs3
 clear hbx3 hrs3
 cases hcode : codeB K N with
 | false =>
   have HC := Lib.hid hcode
   clear hcode
   have hno : ¬ (toS K N dig idx pay).May := fun h => by
    have := (codeB_iff K N).2 ⟨h.1, h.2.1, h.2.2.1⟩
    rw [HC.out] at this; cases this
   have HNO := Lib.hid hno
   clear hno
   go_wp2_with fail
   have hr := set_two HRS.out (.string ⟨#[]⟩) (.string ⟨#[]⟩)
   have hb4 := below_two hb03 (.string ⟨#[]⟩) (.string ⟨#[]⟩)
   generalize (w3.setCell ⟨n0 + 1, 0, none⟩ (.string ⟨#[]⟩)).setCell ⟨n0 + 1, 1, none⟩ (.string ⟨#[]⟩) = w4 at *
   have q0 : w4.cell? ⟨n0 + 1, 0, none⟩ = some (.string ⟨#[]⟩) := hr.cell 0
   have q1 : w4.cell? ⟨n0 + 1, 1, none⟩ = some (.string ⟨#[]⟩) := hr.cell 1
   exact bodyPost_ret (v := .tuple #[objV [] [], .int .i64 1]) (by simp [results, Tryz.results38, go_sem, objV, q0, q1]) rfl ⟨.inr (.inr ⟨HNO.out, rfl⟩), by have hh := HN0.out; rw [← hh]; exact hb4⟩
 | true =>
   have HC := Lib.hid hcode
   have hck := (codeB_iff K N).1 hcode
   clear hcode
   by_cases h32 : dig.size = 32
   ·by_cases hi0 : idx < 0
    ·have hno : ¬ (toS K N dig idx pay).May := fun h => by
      have : 0 ≤ idx := h.2.2.2.2.1
      omega
     have HNO := Lib.hid hno
     clear hno
     go_wp2_with fail
     have hr := set_two HRS.out (.string ⟨#[]⟩) (.string ⟨#[]⟩)
     have hb4 := below_two hb03 (.string ⟨#[]⟩) (.string ⟨#[]⟩)
     generalize (w3.setCell ⟨n0 + 1, 0, none⟩ (.string ⟨#[]⟩)).setCell ⟨n0 + 1, 1, none⟩ (.string ⟨#[]⟩) = w4 at *
     have q0 : w4.cell? ⟨n0 + 1, 0, none⟩ = some (.string ⟨#[]⟩) := hr.cell 0
     have q1 : w4.cell? ⟨n0 + 1, 1, none⟩ = some (.string ⟨#[]⟩) := hr.cell 1
     exact bodyPost_ret (v := .tuple #[objV [] [], .int .i64 1]) (by simp [results, Tryz.results38, go_sem, objV, q0, q1]) rfl ⟨.inr (.inr ⟨HNO.out, rfl⟩), by have hh := HN0.out; rw [← hh]; exact hb4⟩
    ·by_cases hiN : N ≤ idx
     ·have hno : ¬ (toS K N dig idx pay).May := fun h => by
       have : idx < N := h.2.2.2.2.2
       omega
      have HNO := Lib.hid hno
      clear hno
      go_wp2_with fail
      have hr := set_two HRS.out (.string ⟨#[]⟩) (.string ⟨#[]⟩)
      have hb4 := below_two hb03 (.string ⟨#[]⟩) (.string ⟨#[]⟩)
      generalize (w3.setCell ⟨n0 + 1, 0, none⟩ (.string ⟨#[]⟩)).setCell ⟨n0 + 1, 1, none⟩ (.string ⟨#[]⟩) = w4 at *
      have q0 : w4.cell? ⟨n0 + 1, 0, none⟩ = some (.string ⟨#[]⟩) := hr.cell 0
      have q1 : w4.cell? ⟨n0 + 1, 1, none⟩ = some (.string ⟨#[]⟩) := hr.cell 1
      exact bodyPost_ret (v := .tuple #[objV [] [], .int .i64 1]) (by simp [results, Tryz.results38, go_sem, objV, q0, q1]) rfl ⟨.inr (.inr ⟨HNO.out, rfl⟩), by have hh := HN0.out; rw [← hh]; exact hb4⟩
     ·have hmay : (toS K N dig idx pay).May := ⟨hck.1, hck.2.1, hck.2.2, by show dig.data.toList.length = 32; omega, by show 0 ≤ idx; omega, by show idx < N; omega⟩
      have HMAY := Lib.hid hmay
      clear hmay
      by_cases hbig : 65461 < pay.size
      ·have hd : (65461 : Int) < (pay.size : Int) := by omega
       go_wp2_with fail
       have hr := set_two HRS.out (.string ⟨#[]⟩) (.string ⟨#[]⟩)
       have hb4 := below_two hb03 (.string ⟨#[]⟩) (.string ⟨#[]⟩)
       generalize (w3.setCell ⟨n0 + 1, 0, none⟩ (.string ⟨#[]⟩)).setCell ⟨n0 + 1, 1, none⟩ (.string ⟨#[]⟩) = w4 at *
       have q0 : w4.cell? ⟨n0 + 1, 0, none⟩ = some (.string ⟨#[]⟩) := hr.cell 0
       have q1 : w4.cell? ⟨n0 + 1, 1, none⟩ = some (.string ⟨#[]⟩) := hr.cell 1
       exact bodyPost_ret (v := .tuple #[objV [] [], .int .i64 40]) (by simp [results, Tryz.results38, go_sem, objV, q0, q1]) rfl ⟨.inr (.inl ⟨HMAY.out, by show 65461 < pay.data.toList.length; omega, rfl⟩), by have hh := HN0.out; rw [← hh]; exact hb4⟩
      ·have hd : ¬ ((65461 : Int) < (pay.size : Int)) := by omega
       clear c0 c1 c2 c3 c4
       have hbx3 := HBX.out
       have c0 : w3.cell? ⟨n0, 0, none⟩ = some (.int .i64 K) := hbx3.cell 0
       have c1 : w3.cell? ⟨n0, 1, none⟩ = some (.int .i64 N) := hbx3.cell 1
       have c2 : w3.cell? ⟨n0, 2, none⟩ = some (.string dig) := hbx3.cell 2
       have c3 : w3.cell? ⟨n0, 3, none⟩ = some (.int .i64 idx) := hbx3.cell 3
       have c4 : w3.cell? ⟨n0, 4, none⟩ = some (.string pay) := hbx3.cell 4
       go_wp2_with fail
       clear c0 c1 c2 c3 c4 r0 r1 f0 f1
       have hB4 := Bld.new w3
       have hbx4 := hbx3.alloc (.cells #[.pointer none, .slice none 0 0] 138)
       have hrs4 := HRS.out.alloc (.cells #[.pointer none, .slice none 0 0] 138)
       have hs3 := HRS.out.lt
       have hb04 : Below n0 w (w3.alloc (.cells #[.pointer none, .slice none 0 0] 138)) := hb03.alloc (by omega) _
       have hs4 : (w3.alloc (.cells #[.pointer none, .slice none 0 0] 138)).heap.size = w3.heap.size + 1 := by simp
       generalize (w3.alloc (.cells #[.pointer none, .slice none 0 0] 138)) = w4 at *
       obtain ⟨b, hb⟩ : ∃ b, b = w3.heap.size := ⟨_, rfl⟩
       rw [← hb] at hB4 hs3 hs4 ⊢
       clear hbx3 hb hb03
       have HBX4 := Lib.hid hbx4
       have HRS4 := Lib.hid hrs4
       have HB4 := Lib.hid hB4
       clear hbx4 hrs4 hB4 HBX HRS
       -- the mark
       refine (wstring_any b b [] ⟨#[115, 104, 100, 49]⟩ w4 HB4.out (by decide) (by omega)).mono ?_
       rintro e w5 ⟨⟨v5, rfl⟩, hB5, hb5, _⟩
       have hB5' : Bld b b markL w5 := hB5
       have HB5 := Lib.hid hB5'
       have hbx5 := HBX4.out.below hb5 (by omega)
       have c0 : w5.cell? ⟨n0, 0, none⟩ = some (.int .i64 K) := hbx5.cell 0
       have c1 : w5.cell? ⟨n0, 1, none⟩ = some (.int .i64 N) := hbx5.cell 1
       have c3 : w5.cell? ⟨n0, 3, none⟩ = some (.int .i64 idx) := hbx5.cell 3
       have c4 : w5.cell? ⟨n0, 4, none⟩ = some (.string pay) := hbx5.cell 4
       have HBX5 := Lib.hid hbx5
       have hb05 : Below n0 w w5 := hb04.trans (hb5.mono (by omega))
       have hs5 := hb5.size
       clear hbx5 hB5 hB5' HB4 hb04
       go_wp2_with (go_at_call 76; refine (binary_any K N idx _ w5).mono ?_; rintro e w6 ⟨rfl, hbin, hb6⟩)
       clear c0 c1 c3 c4
       have hblt : b < w5.heap.size := by omega
       have hbin' : Blk w6 w5.heap.size 5 (nums (binL K N idx (pay.size : Int)) ++ #[]) := by simpa using hbin
       have hB6 := bld_below HB5.out hb6
       have hs6 := hb6.size
       obtain ⟨g6, hg6⟩ : ∃ g, g = w5.heap.size := ⟨_, rfl⟩
       rw [← hg6] at hbin' hblt ⊢
       have hbx6 := HBX5.out.below hb6 HBX5.out.lt
       have hb06 : Below n0 w w6 := hb05.trans (hb6.mono (by omega))
       clear hg6 hbin HBX5 HB5 hb05
       have hlenB : markL.length + (binL K N idx (pay.size : Int)).length ≤ 140737488355328 := by rw [binL_len]; decide
       refine (write_any b b markL (binL K N idx (pay.size : Int)) g6 7 #[] _ w6 hB6 hbin' (by omega) hlenB (by omega)).mono ?_
       rintro e w7 ⟨⟨v7, rfl⟩, hB7, hb7, _⟩
       have hs7 := hb7.size
       have hbx7 := hbx6.below hb7 (by omega)
       have hb07 : Below n0 w w7 := hb06.trans (hb7.mono (by omega))
       have c2 : w7.cell? ⟨n0, 2, none⟩ = some (.string dig) := hbx7.cell 2
       have c4 : w7.cell? ⟨n0, 4, none⟩ = some (.string pay) := hbx7.cell 4
       have HB7 := Lib.hid hB7
       have HBX7 := Lib.hid hbx7
       clear hB6 hbin' hbx6 hb06 hB7 hbx7 hlenB
       have hds : (dig ++ pay).size = dig.size + pay.size := by simp
       have hdt : (dig ++ pay).data.toList = dig.data.toList ++ pay.data.toList := by simp
       have HDT := Lib.hid hdt
       have hWS := fun h1 => wstring_any b b _ (dig ++ pay) w7 HB7.out h1 (by omega)
       rw [hds, hdt] at hWS
       have hWS := hWS (by rw [List.length_append, binL_len]; show 4 + 7 + (dig.size + pay.size) ≤ _; omega)
       have hBL : markL ++ binL K N idx (pay.size : Int) ++ (dig.data.toList ++ pay.data.toList) = (toS K N dig idx pay).body := by
        unfold Shard.body toS
        rw [hpl, List.append_assoc]
       rw [hBL] at hWS
       have HWS := Lib.hid hWS
       clear hWS hBL hdt hds
       go_wp2_with fail
       refine HWS.out.mono ?_
       rintro e w8 ⟨⟨v8, rfl⟩, hB8, hb8, _⟩
       have hs8 := hb8.size
       have hbx8 := HBX7.out.below hb8 (by omega)
       have hb08 : Below n0 w w8 := hb07.trans (hb8.mono (by omega))
       have HBX8 := Lib.hid hbx8
       clear c2 c4 HWS HBX7 HB7 hb07 hbx8
       have hbl : (toS K N dig idx pay).body.length = 43 + pay.size := by rw [body_len _ (by show dig.data.toList.length = 32; omega)]; show 43 + pay.data.toList.length = _; omega
       have hdata : (toS K N dig idx pay).body ++ (sumL (toS K N dig idx pay).body) = (toS K N dig idx pay).data sumL := rfl
       have HDATA := Lib.hid hdata
       generalize (toS K N dig idx pay).body = L at *
       have hT := text_any b b L w8 hB8 (by omega)
       have HT := Lib.hid hT
       clear hT hdata
       go_wp2_with (go_at_call 77; refine HT.out.mono ?_; rintro e w9 ⟨rfl, hB9, hb9, _⟩)
       clear HT hB8
       have hs9 := hb9.size
       have hsum : Calls Tryz.prog 33 #[.string ⟨L.toArray⟩] w9 fun e w' => e = .returned (.string ⟨(sumL L).toArray⟩) ∧ Below w9.heap.size w9 w' := Sha.sum_any ⟨L.toArray⟩ (show L.length ≤ 70368744177664 by omega) w9
       have HSUM := Lib.hid hsum
       clear hsum
       refine HSUM.out.mono ?_
       rintro e w10 ⟨rfl, hb10⟩
       have hs10 := hb10.size
       have hB10 := bld_below hB9 hb10
       have hbx10 := HBX8.out.below (hb9.trans (hb10.mono (by omega))) (by omega)
       have hb010 : Below n0 w w10 := hb08.trans ((hb9.mono (by omega)).trans (hb10.mono (by omega)))
       clear hB9 HBX8 hb08 HSUM
       have hsl := sumL_len L
       generalize sumL L = M at *
       have hWS := wstring_any b b L ⟨M.toArray⟩ w10 hB10 (show L.length + M.length ≤ _ by omega) (by omega)
       have HWS := Lib.hid hWS
       clear hWS hB10
       go_wp2_with fail
       refine HWS.out.mono ?_
       rintro e w11 ⟨⟨v11, rfl⟩, hB11, hb11, _⟩
       have hs11 := hb11.size
       have hbx11 := hbx10.below hb11 (by omega)
       have hb011 : Below n0 w w11 := hb010.trans (hb11.mono (by omega))
       have hrs11 := HRS4.out.below ((hb5.trans ((hb6.mono (by omega)).trans (hb7.trans (hb8.trans (hb9.trans ((hb10.mono (by omega)).trans hb11))))))) (by omega)
       have c2 : w11.cell? ⟨n0, 2, none⟩ = some (.string dig) := hbx11.cell 2
       have c3 : w11.cell? ⟨n0, 3, none⟩ = some (.int .i64 idx) := hbx11.cell 3
       have HRS11 := Lib.hid hrs11
       have hv11 : Vars w11 := HV.out.below (by have hh := HN0.out; rw [← hh]; exact hb011)
       have HNM := Lib.hid (name_any dig (by omega) idx hi w11 hv11)
       have hB11' : Bld b b (L ++ M) w11 := hB11
       have HB11 := Lib.hid hB11'
       clear hB11 hB11' hbx11 hbx10 HWS hrs11 hv11 hb010
       go_wp2_with (go_at_call 19; refine HNM.out.mono ?_; rintro e w12 ⟨rfl, hb12⟩)
       have hs12 := hb12.size
       have hT := text_any b b (L ++ M) w12 (bld_below HB11.out hb12) (by omega)
       have HT := Lib.hid hT
       have hrs12 := HRS11.out.below hb12 HRS11.out.lt
       have hb012 : Below n0 w w12 := hb011.trans (hb12.mono (by omega))
       clear hT hb011 HB11 HNM
       refine HT.out.mono ?_
       rintro e w13 ⟨rfl, _, hb13, _⟩
       have hrs13 := hrs12.below hb13 (by omega)
       have hb013 : Below n0 w w13 := hb012.trans (hb13.mono (by omega))
       have r0 : w13.cell? ⟨n0 + 1, 0, none⟩ = some (.string ⟨#[]⟩) := hrs13.cell 0
       have r1 : w13.cell? ⟨n0 + 1, 1, none⟩ = some (.string ⟨#[]⟩) := hrs13.cell 1
       have f0 := hrs13.frozen 0
       have f1 := hrs13.frozen 1
       have HRS13 := Lib.hid hrs13
       clear hrs13 hrs12 HT hb012 c2 c3
       go_wp2_with fail
       have hr := set_two HRS13.out (.string ⟨(nameL dig.data.toList idx).toArray⟩) (.string ⟨(L ++ M).toArray⟩)
       have hb4 := below_two hb013 (.string ⟨(nameL dig.data.toList idx).toArray⟩) (.string ⟨(L ++ M).toArray⟩)
       generalize (w13.setCell ⟨n0 + 1, 0, none⟩ (.string ⟨(nameL dig.data.toList idx).toArray⟩)).setCell ⟨n0 + 1, 1, none⟩ (.string ⟨(L ++ M).toArray⟩) = w14 at *
       have q0 : w14.cell? ⟨n0 + 1, 0, none⟩ = some (.string ⟨(nameL dig.data.toList idx).toArray⟩) := hr.cell 0
       have q1 : w14.cell? ⟨n0 + 1, 1, none⟩ = some (.string ⟨(L ++ M).toArray⟩) := hr.cell 1
       refine bodyPost_ret (v := .tuple #[objV (nameL dig.data.toList idx) (L ++ M), .int .i64 0]) (by simp only [results, Tryz.results38, go_sem, objV]; simp [go_sem, q0, q1]) rfl ⟨.inl ⟨HMAY.out, ?_, ?_⟩, by have hh := HN0.out; rw [← hh]; exact hb4⟩
       ·show pay.data.toList.length ≤ 65461; omega
       ·rw [HDATA.out]; rfl
   ·have hno : ¬ (toS K N dig idx pay).May := fun h => by
     have : dig.data.toList.length = 32 := h.2.2.2.1
     omega
    have HNO := Lib.hid hno
    clear hno
    go_wp2_with fail
    have hr := set_two HRS.out (.string ⟨#[]⟩) (.string ⟨#[]⟩)
    have hb4 := below_two hb03 (.string ⟨#[]⟩) (.string ⟨#[]⟩)
    generalize (w3.setCell ⟨n0 + 1, 0, none⟩ (.string ⟨#[]⟩)).setCell ⟨n0 + 1, 1, none⟩ (.string ⟨#[]⟩) = w4 at *
    have q0 : w4.cell? ⟨n0 + 1, 0, none⟩ = some (.string ⟨#[]⟩) := hr.cell 0
    have q1 : w4.cell? ⟨n0 + 1, 1, none⟩ = some (.string ⟨#[]⟩) := hr.cell 1
    exact bodyPost_ret (v := .tuple #[objV [] [], .int .i64 1]) (by simp [results, Tryz.results38, go_sem, objV, q0, q1]) rfl ⟨.inr (.inr ⟨HNO.out, rfl⟩), by have hh := HN0.out; rw [← hh]; exact hb4⟩
end Shd
end Go.Proofs.YtnbkhdbligjifaaGreatDoor
