/-
 The health package: look.
-/
import Derived.Test.YtnbkhdbligjifaaGreatDoorShdMake
import Derived.Test.YtnbkhdbligjifaaGreatDoorShdRead
import Derived.Test.YtnbkhdbligjifaaGreatDoorWldF
set_option linter.unusedVariables false
set_option linter.unusedSimpArgs false
set_option maxRecDepth 100000
set_option maxHeartbeats 40000000
namespace Go.Proofs.YtnbkhdbligjifaaGreatDoor
open Go Go.RowKit Vm
namespace Hlt
attribute [local go_sem ↓] appSem_eq
theorem info_got : (Tryz.prog.info? 100).map (fun i => (i.zero, i.size, i.bytes)) = some (some (.agg #[.bool false, .bool false, .string ⟨#[]⟩]), 3, 24) := by kernel_rfl
def LookPost (w : World) (O : List Nat) (b : Nat) (p : PW) (k n : Nat) (d : ByteArray) (e : Ending) (w' : World) : Prop :=
 ∃ B gv O', e = .returned (.tuple #[.pointer (some ⟨B, 0, none⟩), .int .i64 0]) ∧ BlobIs w' B b k n d gv (lookL p d k n n) ∧ WB w O b (PW.adv p n) O' w' ∧ ∀ x, x ∈ bOwn B gv → x ∉ O' ∧ w.heap.size ≤ x
structure LRd (bx b : Nat) (k n : Int) (p : PW) (O : List Nat) (W : World) : Prop where
 c0 : W.cell? ⟨bx, 0, none⟩ = some (.int .i64 k)
 c1 : W.cell? ⟨bx, 1, none⟩ = some (.int .i64 n)
 at_ : WAt W b p O
theorem LRd.ext {bx b : Nat} {k n : Int} {p : PW} {O : List Nat} {w w' : World} (h : LRd bx b k n p O w) (hE : Stab.Ext w w') : LRd bx b k n p O w' := ⟨hE.cell h.c0, hE.cell h.c1, h.at_.keep (Fr.of_below (O := []) hE) (by simp)⟩
structure LInv (w : World) (O : List Nat) (b : Nat) (p : PW) (k n : Nat) (d : ByteArray) (bx B q : Nat) (gv : Value) (O' : List Nat) (wr : World) : Prop where
 blob : BlobIs wr B b k n d gv (lookL p d k n q)
 wb : WB w O b (PW.adv p q) O' wr
 off : ∀ x, x ∈ bOwn B gv → x ∉ O' ∧ w.heap.size ≤ x
 c0 : wr.cell? ⟨bx, 0, none⟩ = some (.int .i64 k)
 c1 : wr.cell? ⟨bx, 1, none⟩ = some (.int .i64 n)
 bo : bx ∉ O'
 bB : bx ∉ bOwn B gv
section
variable {w w2 w3 : World} {O : List Nat} {b : Nat} {p : PW} {k n : Nat} {d : ByteArray} {bx B q : Nat} {gv : Value} {O' : List Nat}
theorem LInv.ext (h : LInv w O b p k n d bx B q gv O' w2) (hE : Stab.Ext w2 w3) : LInv w O b p k n d bx B q gv O' w3 :=
 ⟨h.blob.keep (Fr.of_below (O := []) hE) (by simp), h.wb.ext hE, h.off, hE.cell h.c0, hE.cell h.c1, h.bo, h.bB⟩
structure LMid (w : World) (O : List Nat) (b : Nat) (p : PW) (k n : Nat) (d : ByteArray) (bx B q : Nat) (gv : Value) (O' : List Nat) (wr : World) : Prop where
 blob : BlobIs wr B b k n d gv (lookL p d k n q)
 wb : WB w O b (PW.adv p (q + 1)) O' wr
 off : ∀ x, x ∈ bOwn B gv → x ∉ O' ∧ w.heap.size ≤ x
 c0 : wr.cell? ⟨bx, 0, none⟩ = some (.int .i64 k)
 c1 : wr.cell? ⟨bx, 1, none⟩ = some (.int .i64 n)
 bo : bx ∉ O'
 bB : bx ∉ bOwn B gv
theorem LMid.ext (h : LMid w O b p k n d bx B q gv O' w2) (hE : Stab.Ext w2 w3) : LMid w O b p k n d bx B q gv O' w3 :=
 ⟨h.blob.keep (Fr.of_below (O := []) hE) (by simp), h.wb.ext hE, h.off, hE.cell h.c0, hE.cell h.c1, h.bo, h.bB⟩
theorem LMid.shut (h : LMid w O b p k n d bx B q gv O' w2) {g : Nat} (h1 : g ∉ O') (h2 : w.heap.size ≤ g) (hg : g ∉ bOwn B gv) (hgb : g ≠ bx) (x y : Value) : LMid w O b p k n d bx B q gv O' ((w2.setCell ⟨g, 0, none⟩ x).setCell ⟨g, 2, none⟩ y).drew := by
 have hf : Fr [g] w2 ((w2.setCell ⟨g, 0, none⟩ x).setCell ⟨g, 2, none⟩ y).drew := ((Fr.cell w2 ⟨g, 0, none⟩ x).trans (Fr.cell _ ⟨g, 2, none⟩ y) (fun k hk _ => hk)).trans (Fr.of_below (O := [g]) (Stab.Ext.drew _)) (fun k hk _ => hk)
 have hb : bx < w2.heap.size := lt_cell h.c0
 refine ⟨h.blob.keep hf fun z hz hm => ?_, h.wb.keep hf fun z hz => ?_, h.off, ?_, ?_, h.bo, h.bB⟩
 ·simp only [List.mem_singleton] at hm; subst hm; exact hg hz
 ·simp only [List.mem_singleton] at hz; subst hz; exact ⟨h1, h2⟩
 ·exact (World.cell?_of_block (hf.block bx hb (by simp only [List.mem_singleton]; exact fun e => hgb e.symm))).trans h.c0
 ·exact (World.cell?_of_block (hf.block bx hb (by simp only [List.mem_singleton]; exact fun e => hgb e.symm))).trans h.c1
theorem LInv.got (h : LInv w O b p k n d bx B q gv O' w2) {v : Value} {e : Ending} (hp : WPost w2 b O' v (PW.adv p (q + 1)) e w3) : ∃ O3, LMid w O b p k n d bx B q gv O3 w3 := by
 obtain ⟨O3, h1, h2, h3⟩ := h.wb.next hp
 have hlt := h.blob.lt
 have hbx : bx < w2.heap.size := lt_cell h.c0
 have hB0 : bx ∉ O3 := fun hm => by rcases h3 _ hm with h4 | h4; exact h.bo h4; omega
 refine ⟨O3, h.blob.keep h2 fun x hx => (h.off x hx).1, h1, fun x hx => ⟨fun hm => ?_, (h.off x hx).2⟩, ?_, ?_, hB0, h.bB⟩
 ·rcases h3 _ hm with h4 | h4
  ·exact (h.off x hx).1 h4
  ·have := hlt x hx; omega
 ·exact (World.cell?_of_block (h2.block bx hbx h.bo)).trans h.c0
 ·exact (World.cell?_of_block (h2.block bx hbx h.bo)).trans h.c1
theorem LMid.more (h : LMid w O b p k n d bx B q gv O' w2) {w' : World} {g' cap : Nat} {x : Got} {C : Array Value}
 (hown : w'.ownsRow 0 100 3 (.slice (some ⟨g', 0, none⟩) (q + 1) cap) (q + 1) (gotsV (lookL p d k n q) ++ C.toList)) (hgr : (w2.alloc (.cells C 100)).grownBy w' gv.ownBlock) (hwh : gv.ownBlock = some g' ∨ g' = w2.heap.size + 1) (hC : C.toList = gotC x)
 (hx : lookL p d k n (q + 1) = lookL p d k n q ++ [x]) :
 LInv w O b p k n d bx B (q + 1) (.slice (some ⟨g', 0, none⟩) (q + 1) cap) O' (w'.setCell ⟨B, 4, none⟩ (.slice (some ⟨g', 0, none⟩) (q + 1) cap)) ∧ w'.cell? ⟨B, 4, none⟩ = some gv ∧ w'.frozen? ⟨B, 4, none⟩ = false := by
 have hl := lookL_len p d k n q
 have hh := h.blob.appended (g' := g') (cap := cap) (x := x) (C := C) (by rw [hl]; exact hown) hgr hwh hC
 rw [hl] at hh
 obtain ⟨h1, h2, h3, h4, h5⟩ := hh
 have hbx : bx < w2.heap.size := lt_cell h.c0
 have hbB := h.bB
 refine ⟨⟨by rw [hx]; exact h1, h.wb.keep h2 fun y hy => h.off y hy, fun y hy => ?_, ?_, ?_, h.bo, fun hm => ?_⟩, h4, h5⟩
 ·rcases h3 y hy with h6 | h6
  ·exact h.off y h6
  ·exact ⟨fun hm => by have := h.wb.lt y hm; omega, Nat.le_trans h.wb.fr.size h6⟩
 ·exact (World.cell?_of_block (h2.block bx hbx hbB)).trans h.c0
 ·exact (World.cell?_of_block (h2.block bx hbx hbB)).trans h.c1
 ·rcases h3 bx hm with h6 | h6
  ·exact hbB h6
  ·omega
theorem read_got (d : ByteArray) (q : Nat) (xd : ByteArray) (k n : Int) (w : World) (hv : Shd.Vars w) :
 Calls Tryz.prog 65 #[.agg #[.string (nmB d q), .string xd]] w fun e w' => ∃ (K N idx : Int) (dig pay : ByteArray) (err : Int), e = .returned (.tuple #[.agg #[.int .i64 K, .int .i64 N, .string dig, .int .i64 idx, .string pay], .int .i64 err]) ∧ (err = 0 ∨ err = 4) ∧
  gotOf (nmL d q) (xd, 0) k n = ⟨err == 0 && (K == k && N == n), true, pay⟩ ∧ Below w.heap.size w w' := by
 refine (Shd.read_any (nmB d q) xd w hv).mono ?_
 rintro e w' ⟨hr, hb⟩
 have hnm : (nmB d q).data.toList = nmL d q := by simp [nmB]
 rw [hnm] at hr
 rcases hr with ⟨hl, rfl⟩ | ⟨hl, rfl⟩
 ·exact ⟨_, _, _, _, _, _, rfl, .inl rfl, by simp [gotOf, hl], hb⟩
 ·exact ⟨_, _, _, _, _, _, rfl, .inr rfl, by simp [gotOf, hl], hb⟩
end
structure GRd (bx gb sb : Nat) (k n K N idx : Int) (dig pay : ByteArray) (W : World) : Prop where
 c0 : W.cell? ⟨bx, 0, none⟩ = some (.int .i64 k)
 c1 : W.cell? ⟨bx, 1, none⟩ = some (.int .i64 n)
 got : Blk W gb 100 #[.bool false, .bool true, .string ⟨#[]⟩]
 shd : Blk W sb 84 #[.int .i64 K, .int .i64 N, .string dig, .int .i64 idx, .string pay]
theorem GRd.ext {bx gb sb : Nat} {k n K N idx : Int} {dig pay : ByteArray} {W W' : World} (h : GRd bx gb sb k n K N idx dig pay W) (hE : Stab.Ext W W') : GRd bx gb sb k n K N idx dig pay W' := ⟨hE.cell h.c0, hE.cell h.c1, h.got.below hE h.got.lt, h.shd.below hE h.shd.lt⟩
theorem look_any {w : World} {b : Nat} {p : PW} {O : List Nat} (h : WAt w b p O) (hc : Calm p) (hO : Far O) (hv : Shd.Vars w) (k n : Nat) (hk : Shd.codeB (k : Int) (n : Int) = true) (hn : n = p.n) (d : ByteArray) (hd : d.size = 32) :
 Calls Tryz.prog 45 #[.pointer (some ⟨b, 0, none⟩), .agg #[.int .i64 (k : Int), .int .i64 (n : Int)], .string d] w (LookPost w O b p k n d) := by
 obtain ⟨h1, h2, h3⟩ := (Shd.codeB_iff _ _).1 hk
 have hE0 := Stab.Ext.alloc w (.cells #[.int .i64 (k : Int), .int .i64 (n : Int)] 25)
 have bx := Blk.new w 25 #[.int .i64 (k : Int), .int .i64 (n : Int)]
 have HB0 := Lib.hid hE0
 have HV := Lib.hid hv
 have HR := Lib.hid (show LRd w.heap.size b k n p O (w.alloc (.cells #[.int .i64 (k : Int), .int .i64 (n : Int)] 25)) from ⟨bx.cell 0, bx.cell 1, h.keep (Fr.of_below (O := []) hE0) (by simp)⟩)
 have HC := Lib.hid hc
 have HK := Lib.hid hk
 have HO := Lib.hid hO
 have hdn : (d.size : Int) = 32 := by omega
 have hpn : (p.n : Int) = (n : Int) := by omega
 have HCD := Lib.hid (show ∀ W : World, Calls Tryz.prog 73 #[.agg #[.int .i64 (k : Int), .int .i64 (n : Int)]] W fun e w' => e = .returned (.bool true) ∧ Below W.heap.size W w' from fun W => by have := Shd.code_any (k : Int) (n : Int) W; rwa [hk] at this)
 have HN := Lib.hid (show ∀ W : World, LRd w.heap.size b k n p O W → Calls Tryz.prog 37 #[.pointer (some ⟨b, 0, none⟩)] W fun e w' => e = .returned (.int .i64 (n : Int)) ∧ W = w' from fun W hW => by have := n_any hW.at_; rwa [hpn] at this)
 have HL := Lib.hid h.lt
 clear h hv hc hk hO hE0 bx
 go_enter Tryz.func45, Tryz.ntmps45
 go_wp2_with fail
 refine Stab.rg 19 [[], [0], [1], [2], [3, 2], [4, 2], [2, 5], [6], [7], [8, 7], [7], [10, 7], [9, 11, 7], [7, 12], [13], [14], [15, 14], [16, 14], [14, 17]] [18] (LRd w.heap.size b k n p O) [Stab.eqv ?_, Stab.eqv ?_, Stab.eqv ?_, Stab.eqv ?_, Stab.eqv ?_, Stab.eqv ?_, Stab.eqv ?_, Stab.eqv ?_, Stab.eqv ?_, Stab.eqv ?_, Stab.eqv ?_, Stab.eqv ?_, Stab.eqv ?_, Stab.eqv ?_, Stab.eqv ?_, Stab.eqv ?_, Stab.eqv ?_, Stab.eqv ?_, Stab.eqv ?_] (HR.out.ext (Stab.Ext.drew _)) (fun _ _ h hE => h.ext hE) ?goals1 ?last1
 case goals1 =>
  simp only [List.take_succ_cons, List.take_zero]
  iterate 3
   refine Stab.gp (fun us w _ hE hS hp hK => ?_) ?_
   ·((try have e0 : _ = _ := hp.1); (try have e1 : _ = _ := hp.2.1); (try have e2 : _ = _ := hp.2.2.1); obtain ⟨s0, s1, -⟩ := hS; go_simp; exact hK _ _ (by show _ = _; with_reducible rfl) (Stab.Ext.refl _))
  refine Stab.gt (fun us w _ hE hS hp hK => ?_) ?_
  ·((try have e0 : _ = _ := hp.1); (try have e1 : _ = _ := hp.2.1); (try have e2 : _ = _ := hp.2.2.1); refine ⟨(by first | exact e0 | exact e1 | exact e2), ?_⟩; obtain ⟨s0, s1, -⟩ := hS; go_simp; exact hK _ _ (by show _ = _; with_reducible rfl) (Stab.Ext.refl _))
  refine Stab.Goals.guarded rfl rfl (fun us w cK hE hS hp hK => ?_) ?_
  ·obtain ⟨h3, h2, -⟩ := hp
   replace h3 : us 3 = _ := h3
   replace h2 : us 2 = _ := h2
   refine ⟨_, h2, fun _ => ?_, fun h => absurd rfl h⟩
   go_simp
   go_wp2_with (go_at_call 73; ((with_reducible refine (HCD.out _).mono ?_); rintro e w1 ⟨rfl, hb⟩))
   refine hK _ _ ?_ hb
   show _ = _
   with_reducible rfl
  refine Stab.gt (fun us w _ hE hS hp hK => ?_) ?_
  ·((try have e0 : _ = _ := hp.1); (try have e1 : _ = _ := hp.2.1); (try have e2 : _ = _ := hp.2.2.1); refine ⟨(by first | exact e0 | exact e1 | exact e2), ?_⟩; obtain ⟨s0, s1, -⟩ := hS; go_simp; exact hK _ _ (by show _ = _; with_reducible rfl) (Stab.Ext.refl _))
  iterate 2
   refine Stab.gp (fun us w _ hE hS hp hK => ?_) ?_
   ·((try have e0 : _ = _ := hp.1); (try have e1 : _ = _ := hp.2.1); (try have e2 : _ = _ := hp.2.2.1); obtain ⟨s0, s1, -⟩ := hS; go_simp; exact hK _ _ (by show _ = _; with_reducible rfl) (Stab.Ext.refl _))
  iterate 3
   refine Stab.gt (fun us w _ hE hS hp hK => ?_) ?_
   ·((try have e0 : _ = _ := hp.1); (try have e1 : _ = _ := hp.2.1); (try have e2 : _ = _ := hp.2.2.1); refine ⟨(by first | exact e0 | exact e1 | exact e2), ?_⟩; obtain ⟨s0, s1, -⟩ := hS; go_simp; exact hK _ _ (by show _ = _; with_reducible rfl) (Stab.Ext.refl _))
  refine Stab.Goals.guarded rfl rfl (fun us w cK hE hS hp hK => ?_) ?_
  ·obtain ⟨h10, h7, -⟩ := hp
   replace h10 : us 10 = _ := h10
   replace h7 : us 7 = _ := h7
   refine ⟨_, h7, fun _ => ?_, fun h => absurd rfl h⟩
   go_simp
   go_wp2_with (go_at_call 37; ((with_reducible refine (HN.out _ hS).mono ?_); rintro e w1 ⟨rfl, rfl⟩))
   refine hK _ _ ?_ (Stab.Ext.refl _)
   show _ = _
   with_reducible rfl
  refine Stab.gt (fun us w _ hE hS hp hK => ?_) ?_
  ·((try have e0 : _ = _ := hp.1); (try have e1 : _ = _ := hp.2.1); (try have e2 : _ = _ := hp.2.2.1); refine ⟨(by first | exact e0 | exact e1 | exact e2), ?_⟩; obtain ⟨s0, s1, -⟩ := hS; go_simp; exact hK _ _ (by show _ = _; with_reducible rfl) (Stab.Ext.refl _))
  iterate 2
   refine Stab.gp (fun us w _ hE hS hp hK => ?_) ?_
   ·((try have e0 : _ = _ := hp.1); (try have e1 : _ = _ := hp.2.1); (try have e2 : _ = _ := hp.2.2.1); obtain ⟨s0, s1, -⟩ := hS; go_simp; exact hK _ _ (by show _ = _; with_reducible rfl) (Stab.Ext.refl _))
  iterate 3
   refine Stab.gt (fun us w _ hE hS hp hK => ?_) ?_
   ·((try have e0 : _ = _ := hp.1); (try have e1 : _ = _ := hp.2.1); (try have e2 : _ = _ := hp.2.2.1); refine ⟨(by first | exact e0 | exact e1 | exact e2), ?_⟩; obtain ⟨s0, s1, -⟩ := hS; go_simp; exact hK _ _ (by show _ = _; with_reducible rfl) (Stab.Ext.refl _))
  refine Stab.gp (fun us w _ hE hS hp hK => ?_) ?_
  ·((try have e0 : _ = _ := hp.1); (try have e1 : _ = _ := hp.2.1); (try have e2 : _ = _ := hp.2.2.1); obtain ⟨s0, s1, -⟩ := hS; go_simp; exact hK _ _ (by show _ = _; with_reducible rfl) (Stab.Ext.refl _))
  exact Stab.Goals.nil
 case last1 =>
  intro us w1 hE hS hp
  obtain ⟨h18, -⟩ := hp
  replace h18 : us 18 = _ := h18
  simp only [List.drop_succ_cons, List.drop_zero, h18, Nat.zero_add, Nat.reduceAdd]
  have hE1 : Stab.Ext w w1 := HB0.out.trans ((Stab.Ext.drew _).trans hE)
  obtain ⟨e0, e1, ha⟩ := hS
  have hs1 := hE1.size
  have hsz0 : (w.alloc (.cells #[.int .i64 (k : Int), .int .i64 (n : Int)] 25)).heap.size = w.heap.size + 1 := by simp
  have hl1 : w.heap.size < w1.heap.size := lt_cell e0
  have hx2 := Stab.Ext.alloc w1 (.cells #[.pointer (some ⟨b, 0, none⟩), .int .i64 (k : Int), .int .i64 (n : Int), .string d, .slice none 0 0] 93)
  have hA : WB w O b p O w1 := (WB.refl ha).front hE1
  have hbl0 := Blk.new w1 93 #[.pointer (some ⟨b, 0, none⟩), .int .i64 (k : Int), .int .i64 (n : Int), .string d, .slice none 0 0]
  have HI := Lib.hid (show LInv w O b p k n d w.heap.size w1.heap.size 0 (.slice none 0 0) O (w1.alloc (.cells #[.pointer (some ⟨b, 0, none⟩), .int .i64 (k : Int), .int .i64 (n : Int), .string d, .slice none 0 0] 93)) from
   ⟨⟨hbl0, row_nil _ _ _ _, by simp [Value.ownBlock]⟩, hA.ext hx2, fun x hx => by
     simp only [bOwn, Value.ownBlock, Option.toList_none, List.mem_cons, List.not_mem_nil, or_false] at hx
     subst hx
     exact ⟨fun hm => by have := ha.lt _ hm; omega, by omega⟩, hx2.cell e0, hx2.cell e1, fun hm => by have := HL.out _ hm; omega, fun hm => by simp [bOwn, Value.ownBlock] at hm; omega⟩)
  clear hE hE1 ha h18 hx2 hA hbl0 HN HCD HR
  go_wp2_with fail
  go_loopw [42] (fun i wr => ∃ (q : Nat) (gv : Value) (O' : List Nat), q ≤ n ∧ i = .int .i64 (q : Int) ∧ LInv w O b p k n d w.heap.size w1.heap.size q gv O' wr) (fun i _ => n - (intOf i).toNat)
  case atStart => exact ⟨0, _, _, by omega, rfl, HI.out⟩
  case round =>
   obtain ⟨q, gv, O', hq, rfl, hI⟩ := hrel
   by_cases hlt : q < n
   ·have hlt2 : (q : Int) < (n : Int) := by omega
    have HNM := Lib.hid (Shd.name_any d (by omega) (q : Int) ⟨by omega, by omega⟩ wr (vars_fr HV.out hI.wb.fr HO.out))
    have HI2 := Lib.hid hI
    clear hI
    go_wp2_with (go_at_call 19; with_reducible refine HNM.out.mono ?_)
    rintro e w2 ⟨rfl, hb2⟩
    have hI3 := HI2.out.ext hb2
    have HG := Lib.hid (wget_any hI3.wb.at_ (q : Int) (nmB d q))
    rw [getP_calm (adv_calm HC.out q) q (by have := (adv_st p q).1; omega), wgetO_adv HC.out] at HG
    have HX := Lib.hid (wgetO_calm HC.out q (by omega) (nmB d q))
    have HGO := Lib.hid (lookL_succ p d k n q)
    generalize hxx : wgetO p q (nmB d q) = x at HG HX HGO
    obtain ⟨xd, xe⟩ := x
    have HI4 := Lib.hid hI3
    unfold nmB nmL at HG
    clear hb2 hI3 hxx
    go_wp2_with (go_at_call 85; with_reducible refine HG.out.mono ?_)
    intro e w3 hq
    have HQ := Lib.hid (HI4.out.got hq)
    obtain ⟨rfl, -⟩ := hq
    obtain ⟨O3, hM⟩ := HQ.out
    have HM := Lib.hid hM
    have k0 := hM.c0
    have k1 := hM.c1
    clear HQ HI4 HI2 hM
    have hxe := HX.out
    rcases hxe with rfl | ⟨rfl, rfl⟩ | ⟨rfl, rfl⟩
    ·have hRD := Lib.hid (fun W (hE : Stab.Ext w3 W) => read_got d q xd k n W ((vars_fr HV.out HM.out.wb.fr HO.out).below hE))
     have hx2 := Stab.Ext.alloc w3 (.cells #[.bool false, .bool true, .string ⟨#[]⟩] 100)
     have HM2 := Lib.hid (HM.out.ext hx2)
     have HGB0 := Lib.hid (Blk.new w3 100 #[.bool false, .bool true, .string ⟨#[]⟩])
     have HRD := Lib.hid (hRD.out _ hx2)
     unfold nmB nmL at HRD
     clear hx2 k0 k1 hRD
     go_wp2_with (go_at_call 65; refine HRD.out.mono ?_)
     rintro e w4 ⟨K, N, idx, dig, pay, err, rfl, herr, hgot, hb4⟩
     have HM3 := Lib.hid (HM2.out.ext hb4)
     have HGB3 := Lib.hid (HGB0.out.below hb4 HGB0.out.lt)
     have HGBL := Lib.hid (show w3.heap.size < w4.heap.size from lt_cell (HGB3.out.cell 0))
     have hx5 := Stab.Ext.alloc w4 (.cells #[.int .i64 K, .int .i64 N, .string dig, .int .i64 idx, .string pay] 84)
     have hHB : w1.heap.size < w3.heap.size := HM.out.blob.blk.lt
     clear hb4
     have hgb := HGB3.out.below hx5 HGB3.out.lt
     have hsb := Blk.new w4 84 #[.int .i64 K, .int .i64 N, .string dig, .int .i64 idx, .string pay]
     have HM5 := Lib.hid (HM3.out.ext hx5)
     have k0 := hx5.cell HM3.out.c0
     have k1 := hx5.cell HM3.out.c1
     have g0 := hgb.cell 0
     have g2 := hgb.cell 2
     have y0 := hgb.frozen 0
     have y2 := hgb.frozen 2
     have s0 := hsb.cell 0
     have s1 := hsb.cell 1
     have s2 := hsb.cell 2
     have s3 := hsb.cell 3
     have s4 := hsb.cell 4
     have hmo : Tryz.prog.follows .mixedOrders = true := by kernel_rfl
     have HGB5 := Lib.hid hgb
     clear hx5 hgb hsb
     rcases herr with rfl | rfl
     ·by_cases hK1 : K = (k : Int)
      ·subst hK1
       by_cases hN1 : N = (n : Int)
       ·subst hN1
        clear HGB3 HGB0 HM3 HM2 HRD
        go_wp2_with fail
        generalize hW5 : w4.alloc (.cells #[.int .i64 (k : Int), .int .i64 (n : Int), .string dig, .int .i64 idx, .string pay] 84) = W5 at *
        clear hW5
        go_region
        go_wp2_with fail
        have hgbs := ((HGB5.out.set_ 0 (.bool true)).set_ 2 (.string pay)).below (Stab.Ext.drew _) (((HGB5.out.set_ 0 (.bool true)).set_ 2 (.string pay)).lt)
        have hMs := HM5.out.shut (g := w3.heap.size) (fun hm => by have := HM.out.wb.lt _ hm; omega) (HM.out.wb.fr.size) (fun hm => by have := HM.out.blob.lt _ hm; omega) (by omega) (.bool true) (.string pay)
        have HGT := Lib.hid (show gotOf (nmL d q) (xd, 0) (k : Int) (n : Int) = (⟨true, true, pay⟩ : Got) from hgot.trans (show _ = (⟨true, true, pay⟩ : Got) from by simp [*]))
        generalize hW : ((W5.setCell ⟨w3.heap.size, 0, none⟩ (.bool true)).setCell ⟨w3.heap.size, 2, none⟩ (.string pay)).drew = W at *
        have HMW := Lib.hid hMs
        have HGB := Lib.hid (show Blk W w3.heap.size 100 #[.bool true, .bool true, .string pay] from hgbs)
        clear hW hgbs hMs
        have HGX := Lib.hid (HGO.out.trans (by rw [HGT.out]))
        obtain ⟨A', cap0, hve⟩ : ∃ A' cap0, gv = .slice A' q cap0 := by have := row_shape HMW.out.blob.row; rwa [lookL_len] at this
        subst hve
        have c4 : W.cell? ⟨w1.heap.size, 4, none⟩ = some (.slice A' q cap0) := HMW.out.blob.blk.cell 4
        have g0 := HGB.out.cell 0
        have g1 := HGB.out.cell 1
        have g2 := HGB.out.cell 2
        have hlg := lt_cell g0
        have hlB := lt_cell c4
        obtain ⟨g', cap', w7, hrun, hown, -, hgr, hwh⟩ := own_app_new (c := 1) (m := 1) (C := #[.bool true, .bool true, .string pay]) Tryz.underlying91 info_got rfl (by omega) (by omega) (show W.drew.ownsRow 0 100 3 (.slice A' q cap0) q (gotsV (lookL p d k n q)) from by have := HMW.out.blob.row; rw [lookL_len] at this; exact this) rfl (by simp [Value.oneCell']) (by omega) (by omega) (Nat.zero_le _)
        obtain ⟨hfin, c4', z4⟩ := (HMW.out.ext (Stab.Ext.drew W)).more hown hgr hwh rfl HGX.out
        have HFIN := Lib.hid hfin
        clear hown hgr hwh hfin
        replace hrun : (appSem #[91, 91] 91 #[.slice A' q cap0, .slice (some ⟨W.heap.size, 0, none⟩) 1 1]).run Tryz.prog ((W.alloc (.cells #[.bool true, .bool true, .string pay] 100)).drew) = .ok (.slice (some ⟨g', 0, none⟩) (q + 1) cap') w7 := hrun
        go_region
        go_wp2_with fail
        go_roundw
        case rel => exact ⟨q + 1, _, _, by omega, by go_num, HFIN.out⟩
        case measure => simp [intOf]; omega
       ·skip
        clear HGB3 HGB0 HM3 HM2 HRD
        go_wp2_with fail
        generalize hW5 : w4.alloc (.cells #[.int .i64 (k : Int), .int .i64 N, .string dig, .int .i64 idx, .string pay] 84) = W5 at *
        clear hW5
        go_region
        go_wp2_with fail
        have hgbs := ((HGB5.out.set_ 0 (.bool false)).set_ 2 (.string pay)).below (Stab.Ext.drew _) (((HGB5.out.set_ 0 (.bool false)).set_ 2 (.string pay)).lt)
        have hMs := HM5.out.shut (g := w3.heap.size) (fun hm => by have := HM.out.wb.lt _ hm; omega) (HM.out.wb.fr.size) (fun hm => by have := HM.out.blob.lt _ hm; omega) (by omega) (.bool false) (.string pay)
        have HGT := Lib.hid (show gotOf (nmL d q) (xd, 0) (k : Int) (n : Int) = (⟨false, true, pay⟩ : Got) from hgot.trans (show _ = (⟨false, true, pay⟩ : Got) from by simp [*]))
        generalize hW : ((W5.setCell ⟨w3.heap.size, 0, none⟩ (.bool false)).setCell ⟨w3.heap.size, 2, none⟩ (.string pay)).drew = W at *
        have HMW := Lib.hid hMs
        have HGB := Lib.hid (show Blk W w3.heap.size 100 #[.bool false, .bool true, .string pay] from hgbs)
        clear hW hgbs hMs
        have HGX := Lib.hid (HGO.out.trans (by rw [HGT.out]))
        obtain ⟨A', cap0, hve⟩ : ∃ A' cap0, gv = .slice A' q cap0 := by have := row_shape HMW.out.blob.row; rwa [lookL_len] at this
        subst hve
        have c4 : W.cell? ⟨w1.heap.size, 4, none⟩ = some (.slice A' q cap0) := HMW.out.blob.blk.cell 4
        have g0 := HGB.out.cell 0
        have g1 := HGB.out.cell 1
        have g2 := HGB.out.cell 2
        have hlg := lt_cell g0
        have hlB := lt_cell c4
        obtain ⟨g', cap', w7, hrun, hown, -, hgr, hwh⟩ := own_app_new (c := 1) (m := 1) (C := #[.bool false, .bool true, .string pay]) Tryz.underlying91 info_got rfl (by omega) (by omega) (show W.drew.ownsRow 0 100 3 (.slice A' q cap0) q (gotsV (lookL p d k n q)) from by have := HMW.out.blob.row; rw [lookL_len] at this; exact this) rfl (by simp [Value.oneCell']) (by omega) (by omega) (Nat.zero_le _)
        obtain ⟨hfin, c4', z4⟩ := (HMW.out.ext (Stab.Ext.drew W)).more hown hgr hwh rfl HGX.out
        have HFIN := Lib.hid hfin
        clear hown hgr hwh hfin
        replace hrun : (appSem #[91, 91] 91 #[.slice A' q cap0, .slice (some ⟨W.heap.size, 0, none⟩) 1 1]).run Tryz.prog ((W.alloc (.cells #[.bool false, .bool true, .string pay] 100)).drew) = .ok (.slice (some ⟨g', 0, none⟩) (q + 1) cap') w7 := hrun
        go_region
        go_wp2_with fail
        go_roundw
        case rel => exact ⟨q + 1, _, _, by omega, by go_num, HFIN.out⟩
        case measure => simp [intOf]; omega
      ·skip
       clear HGB3 HGB0 HM3 HM2 HRD
       go_wp2_with fail
       generalize hW5 : w4.alloc (.cells #[.int .i64 K, .int .i64 N, .string dig, .int .i64 idx, .string pay] 84) = W5 at *
       clear hW5
       go_region
       go_wp2_with fail
       have hgbs := ((HGB5.out.set_ 0 (.bool false)).set_ 2 (.string pay)).below (Stab.Ext.drew _) (((HGB5.out.set_ 0 (.bool false)).set_ 2 (.string pay)).lt)
       have hMs := HM5.out.shut (g := w3.heap.size) (fun hm => by have := HM.out.wb.lt _ hm; omega) (HM.out.wb.fr.size) (fun hm => by have := HM.out.blob.lt _ hm; omega) (by omega) (.bool false) (.string pay)
       have HGT := Lib.hid (show gotOf (nmL d q) (xd, 0) (k : Int) (n : Int) = (⟨false, true, pay⟩ : Got) from hgot.trans (show _ = (⟨false, true, pay⟩ : Got) from by simp [*]))
       generalize hW : ((W5.setCell ⟨w3.heap.size, 0, none⟩ (.bool false)).setCell ⟨w3.heap.size, 2, none⟩ (.string pay)).drew = W at *
       have HMW := Lib.hid hMs
       have HGB := Lib.hid (show Blk W w3.heap.size 100 #[.bool false, .bool true, .string pay] from hgbs)
       clear hW hgbs hMs
       have HGX := Lib.hid (HGO.out.trans (by rw [HGT.out]))
       obtain ⟨A', cap0, hve⟩ : ∃ A' cap0, gv = .slice A' q cap0 := by have := row_shape HMW.out.blob.row; rwa [lookL_len] at this
       subst hve
       have c4 : W.cell? ⟨w1.heap.size, 4, none⟩ = some (.slice A' q cap0) := HMW.out.blob.blk.cell 4
       have g0 := HGB.out.cell 0
       have g1 := HGB.out.cell 1
       have g2 := HGB.out.cell 2
       have hlg := lt_cell g0
       have hlB := lt_cell c4
       obtain ⟨g', cap', w7, hrun, hown, -, hgr, hwh⟩ := own_app_new (c := 1) (m := 1) (C := #[.bool false, .bool true, .string pay]) Tryz.underlying91 info_got rfl (by omega) (by omega) (show W.drew.ownsRow 0 100 3 (.slice A' q cap0) q (gotsV (lookL p d k n q)) from by have := HMW.out.blob.row; rw [lookL_len] at this; exact this) rfl (by simp [Value.oneCell']) (by omega) (by omega) (Nat.zero_le _)
       obtain ⟨hfin, c4', z4⟩ := (HMW.out.ext (Stab.Ext.drew W)).more hown hgr hwh rfl HGX.out
       have HFIN := Lib.hid hfin
       clear hown hgr hwh hfin
       replace hrun : (appSem #[91, 91] 91 #[.slice A' q cap0, .slice (some ⟨W.heap.size, 0, none⟩) 1 1]).run Tryz.prog ((W.alloc (.cells #[.bool false, .bool true, .string pay] 100)).drew) = .ok (.slice (some ⟨g', 0, none⟩) (q + 1) cap') w7 := hrun
       go_region
       go_wp2_with fail
       go_roundw
       case rel => exact ⟨q + 1, _, _, by omega, by go_num, HFIN.out⟩
       case measure => simp [intOf]; omega
     ·skip
      clear HGB3 HGB0 HM3 HM2 HRD
      go_wp2_with fail
      generalize hW5 : w4.alloc (.cells #[.int .i64 K, .int .i64 N, .string dig, .int .i64 idx, .string pay] 84) = W5 at *
      clear hW5
      go_region
      go_wp2_with fail
      have hgbs := ((HGB5.out.set_ 0 (.bool false)).set_ 2 (.string pay)).below (Stab.Ext.drew _) (((HGB5.out.set_ 0 (.bool false)).set_ 2 (.string pay)).lt)
      have hMs := HM5.out.shut (g := w3.heap.size) (fun hm => by have := HM.out.wb.lt _ hm; omega) (HM.out.wb.fr.size) (fun hm => by have := HM.out.blob.lt _ hm; omega) (by omega) (.bool false) (.string pay)
      have HGT := Lib.hid (show gotOf (nmL d q) (xd, 0) (k : Int) (n : Int) = (⟨false, true, pay⟩ : Got) from hgot.trans (show _ = (⟨false, true, pay⟩ : Got) from by simp [*]))
      generalize hW : ((W5.setCell ⟨w3.heap.size, 0, none⟩ (.bool false)).setCell ⟨w3.heap.size, 2, none⟩ (.string pay)).drew = W at *
      have HMW := Lib.hid hMs
      have HGB := Lib.hid (show Blk W w3.heap.size 100 #[.bool false, .bool true, .string pay] from hgbs)
      clear hW hgbs hMs
      have HGX := Lib.hid (HGO.out.trans (by rw [HGT.out]))
      obtain ⟨A', cap0, hve⟩ : ∃ A' cap0, gv = .slice A' q cap0 := by have := row_shape HMW.out.blob.row; rwa [lookL_len] at this
      subst hve
      have c4 : W.cell? ⟨w1.heap.size, 4, none⟩ = some (.slice A' q cap0) := HMW.out.blob.blk.cell 4
      have g0 := HGB.out.cell 0
      have g1 := HGB.out.cell 1
      have g2 := HGB.out.cell 2
      have hlg := lt_cell g0
      have hlB := lt_cell c4
      obtain ⟨g', cap', w7, hrun, hown, -, hgr, hwh⟩ := own_app_new (c := 1) (m := 1) (C := #[.bool false, .bool true, .string pay]) Tryz.underlying91 info_got rfl (by omega) (by omega) (show W.drew.ownsRow 0 100 3 (.slice A' q cap0) q (gotsV (lookL p d k n q)) from by have := HMW.out.blob.row; rw [lookL_len] at this; exact this) rfl (by simp [Value.oneCell']) (by omega) (by omega) (Nat.zero_le _)
      obtain ⟨hfin, c4', z4⟩ := (HMW.out.ext (Stab.Ext.drew W)).more hown hgr hwh rfl HGX.out
      have HFIN := Lib.hid hfin
      clear hown hgr hwh hfin
      replace hrun : (appSem #[91, 91] 91 #[.slice A' q cap0, .slice (some ⟨W.heap.size, 0, none⟩) 1 1]).run Tryz.prog ((W.alloc (.cells #[.bool false, .bool true, .string pay] 100)).drew) = .ok (.slice (some ⟨g', 0, none⟩) (q + 1) cap') w7 := hrun
      go_region
      go_wp2_with fail
      go_roundw
      case rel => exact ⟨q + 1, _, _, by omega, by go_num, HFIN.out⟩
      case measure => simp [intOf]; omega
    ·have hx2 := Stab.Ext.alloc w3 (.cells #[.bool false, .bool true, .string ⟨#[]⟩] 100)
     have HMW := Lib.hid (HM.out.ext hx2)
     have HGB := Lib.hid (Blk.new w3 100 #[.bool false, .bool true, .string ⟨#[]⟩])
     have HGT := Lib.hid (show gotOf (nmL d q) ((⟨#[]⟩ : ByteArray), 5) (k : Int) (n : Int) = ⟨false, true, ⟨#[]⟩⟩ from by simp [gotOf])
     have hgb : ∃ gb, gb = w3.heap.size := ⟨_, rfl⟩
     clear hx2 k0 k1 HM
     go_wp2_with fail
     obtain ⟨gb, hgb⟩ := hgb
     generalize hW : w3.alloc (.cells #[.bool false, .bool true, .string ⟨#[]⟩] 100) = W at *
     rw [← hgb] at *
     clear hW hgb
     have HGX := Lib.hid (HGO.out.trans (by rw [HGT.out]))
     obtain ⟨A', cap0, hve⟩ : ∃ A' cap0, gv = .slice A' q cap0 := by have := row_shape HMW.out.blob.row; rwa [lookL_len] at this
     subst hve
     have c4 : W.cell? ⟨w1.heap.size, 4, none⟩ = some (.slice A' q cap0) := HMW.out.blob.blk.cell 4
     have g0 := HGB.out.cell 0
     have g1 := HGB.out.cell 1
     have g2 := HGB.out.cell 2
     have hlg := lt_cell g0
     have hlB := lt_cell c4
     have hmo : Tryz.prog.follows .mixedOrders = true := by kernel_rfl
     obtain ⟨g', cap', w7, hrun, hown, -, hgr, hwh⟩ := own_app_new (c := 1) (m := 1) (C := #[.bool false, .bool true, .string ⟨#[]⟩]) Tryz.underlying91 info_got rfl (by omega) (by omega) (show W.drew.ownsRow 0 100 3 (.slice A' q cap0) q (gotsV (lookL p d k n q)) from by have := HMW.out.blob.row; rw [lookL_len] at this; exact this) rfl (by simp [Value.oneCell']) (by omega) (by omega) (Nat.zero_le _)
     obtain ⟨hfin, c4', z4⟩ := (HMW.out.ext (Stab.Ext.drew W)).more hown hgr hwh rfl HGX.out
     have HFIN := Lib.hid hfin
     clear hown hgr hwh hfin
     replace hrun : (appSem #[91, 91] 91 #[.slice A' q cap0, .slice (some ⟨W.heap.size, 0, none⟩) 1 1]).run Tryz.prog ((W.alloc (.cells #[.bool false, .bool true, .string ⟨#[]⟩] 100)).drew) = .ok (.slice (some ⟨g', 0, none⟩) (q + 1) cap') w7 := hrun
     go_region
     go_wp2_with fail
     go_roundw
     case rel => exact ⟨q + 1, _, _, by omega, by go_num, HFIN.out⟩
     case measure => simp [intOf]; omega
    ·have hx2 := Stab.Ext.alloc w3 (.cells #[.bool false, .bool false, .string ⟨#[]⟩] 100)
     have HMW := Lib.hid (HM.out.ext hx2)
     have HGB := Lib.hid (Blk.new w3 100 #[.bool false, .bool false, .string ⟨#[]⟩])
     have HGT := Lib.hid (show gotOf (nmL d q) ((⟨#[]⟩ : ByteArray), 51) (k : Int) (n : Int) = ⟨false, false, ⟨#[]⟩⟩ from by simp [gotOf])
     have hgb : ∃ gb, gb = w3.heap.size := ⟨_, rfl⟩
     clear hx2 k0 k1 HM
     go_wp2_with fail
     obtain ⟨gb, hgb⟩ := hgb
     generalize hW : w3.alloc (.cells #[.bool false, .bool false, .string ⟨#[]⟩] 100) = W at *
     rw [← hgb] at *
     clear hW hgb
     have HGX := Lib.hid (HGO.out.trans (by rw [HGT.out]))
     obtain ⟨A', cap0, hve⟩ : ∃ A' cap0, gv = .slice A' q cap0 := by have := row_shape HMW.out.blob.row; rwa [lookL_len] at this
     subst hve
     have c4 : W.cell? ⟨w1.heap.size, 4, none⟩ = some (.slice A' q cap0) := HMW.out.blob.blk.cell 4
     have g0 := HGB.out.cell 0
     have g1 := HGB.out.cell 1
     have g2 := HGB.out.cell 2
     have hlg := lt_cell g0
     have hlB := lt_cell c4
     have hmo : Tryz.prog.follows .mixedOrders = true := by kernel_rfl
     obtain ⟨g', cap', w7, hrun, hown, -, hgr, hwh⟩ := own_app_new (c := 1) (m := 1) (C := #[.bool false, .bool false, .string ⟨#[]⟩]) Tryz.underlying91 info_got rfl (by omega) (by omega) (show W.drew.ownsRow 0 100 3 (.slice A' q cap0) q (gotsV (lookL p d k n q)) from by have := HMW.out.blob.row; rw [lookL_len] at this; exact this) rfl (by simp [Value.oneCell']) (by omega) (by omega) (Nat.zero_le _)
     obtain ⟨hfin, c4', z4⟩ := (HMW.out.ext (Stab.Ext.drew W)).more hown hgr hwh rfl HGX.out
     have HFIN := Lib.hid hfin
     clear hown hgr hwh hfin
     replace hrun : (appSem #[91, 91] 91 #[.slice A' q cap0, .slice (some ⟨W.heap.size, 0, none⟩) 1 1]).run Tryz.prog ((W.alloc (.cells #[.bool false, .bool false, .string ⟨#[]⟩] 100)).drew) = .ok (.slice (some ⟨g', 0, none⟩) (q + 1) cap') w7 := hrun
     go_region
     go_wp2_with fail
     go_roundw
     case rel => exact ⟨q + 1, _, _, by omega, by go_num, HFIN.out⟩
     case measure => simp [intOf]; omega
   ·have hqe : q = n := by omega
    subst hqe
    have HX := Lib.hid hI
    have d1 : ¬ ((q : Int) < (q : Int)) := by omega
    clear hI
    go_wp2_with fail
    go_ret2
    rw [← hn]
    exact ⟨_, gv, O', rfl, HX.out.blob, HX.out.wb, HX.out.off⟩
end Hlt
end Go.Proofs.YtnbkhdbligjifaaGreatDoor
