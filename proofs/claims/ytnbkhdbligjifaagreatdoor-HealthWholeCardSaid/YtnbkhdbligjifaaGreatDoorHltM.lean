/-
 The health package: first, the walk.
-/
import Derived.Test.YtnbkhdbligjifaaGreatDoorRangeB
import Derived.Test.YtnbkhdbligjifaaGreatDoorTwoA
set_option linter.unusedVariables false
set_option linter.unusedSimpArgs false
set_option maxRecDepth 100000
set_option maxHeartbeats 40000000
namespace Go.Proofs.YtnbkhdbligjifaaGreatDoor
open Go Go.RowKit Go.Shelf Vm
namespace Hlt
attribute [local go_sem] Oper.semAt_some
attribute [local go_sem ↓] appSem_eq
def FirPost (w : World) (k n : Nat) (d : ByteArray) (l : List Got) (e : Ending) (w' : World) : Prop :=
 ∃ v1 v2, e = .returned (.tuple #[v1, v2, .bool (toldL k n d l)]) ∧ Cod.IntsN w' v1 (haveL l k) ∧ Cod.StrsN w' v2 (paysOf l k) ∧ Below w.heap.size w w' ∧ ∀ g, (v1.ownBlock = some g ∨ v2.ownBlock = some g) → w.heap.size ≤ g
theorem row_grown {X Y : World} {row : Option Nat} {base : Nat} {e : TypeId} {size n : Nat} {v : Value} {xs : List Value} {m : Nat} (h : X.ownsRow base e size v n xs) (hg : X.grownBy Y row) (hr : ∀ r, row = some r → m ≤ r ∧ ∃ o : Obj, X.heap[r]? = some o ∧ o.isCells = false) : Y.ownsRow base e size v n xs := by
 refine row_heap h fun g hgv => ?_
 refine hg.block g (row_lt h hgv) fun e' => ?_
 obtain ⟨_, o, ho, hc⟩ := hr g e'.symm
 rcases h.2 with ⟨rfl, _⟩ | ⟨g', cap, cur, rfl, _, hgb, _⟩
 ·cases hgv
 ·have : g' = g := by simpa [Value.ownBlock] using hgv
  subst this
  rw [hgb] at ho; cases ho; cases hc
theorem fr_grown {O : List Nat} {w X Y : World} {row : Option Nat} (h : Fr O w X) (hg : X.grownBy Y row) (hr : ∀ r, row = some r → w.heap.size ≤ r ∧ ∃ o : Obj, X.heap[r]? = some o ∧ o.isCells = false) : Fr O w Y :=
 ⟨hg.os.trans h.os, hg.tape.trans h.tape, hg.output.trans h.output, Nat.le_trans h.size hg.size, fun x hx hxn => (hg.block x (Nat.lt_of_lt_of_le hx h.size) (fun he => by have := (hr _ he.symm).1; omega)).trans (h.block x hx hxn)⟩
structure FRd (w0 B k m : Nat) (v : Value) (W : World) : Prop where
 c0 : W.cell? ⟨w0, 0, none⟩ = some (.pointer (some ⟨B, 0, none⟩))
 c1 : W.cell? ⟨B, 1, none⟩ = some (.int .i64 (k : Int))
 c2 : W.cell? ⟨w0 + 1, 0, none⟩ = some v
theorem FRd.ext {w0 B k m : Nat} {v : Value} {W W' : World} (h : FRd w0 B k m v W) (hE : Stab.Ext W W') : FRd w0 B k m v W' := ⟨hE.cell h.c0, hE.cell h.c1, hE.cell h.c2⟩
structure FSt (w0 r base : Nat) (v1 v2 : Value) (m : Nat) (xs1 xs2 : List Value) (pay : ByteArray) (W : World) : Prop where
 i1 : Boxed W (w0 + 1) 54 v1
 i2 : Boxed W (w0 + 2) 60 v2
 pay : W.cell? ⟨r, 2, none⟩ = some (.string pay)
 a0 : W.ownsRow base 3 1 v1 m xs1
 b0 : W.ownsRow base 9 1 v2 m xs2
 base : base ≤ W.heap.size
theorem blk_off {W : World} {g base : Nat} {t e : TypeId} {cs : Array Value} {size n : Nat} {v : Value} {xs : List Value} (h : Blk W g t cs) (hr : W.ownsRow base e size v n xs) (hne : t ≠ e) : v.ownBlock ≠ some g := by
 intro he
 rcases hr.2 with ⟨rfl, _⟩ | ⟨g1, c1, u1, rfl, _, h1, _⟩
 ·cases he
 ·have q : g1 = g := by simpa [Value.ownBlock] using he
  subst q
  rw [show W.heap[g1]? = _ from h] at h1
  simp at h1
  exact hne h1.2
structure DRd (w0 B k n : Nat) (d : ByteArray) (v1 v2 : Value) (hs : List Nat) (ps : List (List UInt8)) (W : World) : Prop where
 c0 : W.cell? ⟨w0, 0, none⟩ = some (.pointer (some ⟨B, 0, none⟩))
 c1 : W.cell? ⟨B, 1, none⟩ = some (.int .i64 (k : Int))
 c2 : W.cell? ⟨B, 2, none⟩ = some (.int .i64 (n : Int))
 c3 : W.cell? ⟨B, 3, none⟩ = some (.string d)
 i1 : Boxed W (w0 + 1) 54 v1
 i2 : Boxed W (w0 + 2) 60 v2
 ints : Cod.IntsN W v1 hs
 strs : Cod.StrsN W v2 ps
theorem DRd.ext {w0 B k n : Nat} {d : ByteArray} {v1 v2 : Value} {hs : List Nat} {ps : List (List UInt8)} {W W' : World} (h : DRd w0 B k n d v1 v2 hs ps W) (hE : Stab.Ext W W') : DRd w0 B k n d v1 v2 hs ps W' :=
 ⟨hE.cell h.c0, hE.cell h.c1, hE.cell h.c2, hE.cell h.c3, (hE.block _ h.i1.lt).trans h.i1, (hE.block _ h.i2.lt).trans h.i2, h.ints.ext hE, h.strs.ext hE⟩
def decS : Sum Nat (List UInt8 × List (List Nat)) → ByteArray
 | .inl _ => ⟨#[]⟩
 | .inr p => ⟨p.1.toArray⟩
def decE : Sum Nat (List UInt8 × List (List Nat)) → Int
 | .inl er => (er : Nat)
 | .inr _ => 0
theorem dec_calls {f : FuncId} {args : Array Value} {w : World} {K N : Nat} {hs : List Nat} {ps : List (List UInt8)} (h : Calls Tryz.prog f args w (Cod.DecPost w K N hs ps)) : Calls Tryz.prog f args w fun e w' => e = .returned (.tuple #[.string (decS (Cod.foundF K N hs ps)), .int .i64 (decE (Cod.foundF K N hs ps))]) ∧ Below w.heap.size w w' :=
 h.mono fun e w' ⟨hb, hp⟩ => by
  cases hf : Cod.foundF K N hs ps with
  | inl er => rw [hf] at hp; exact ⟨hp, hb⟩
  | inr p => rw [hf] at hp; exact ⟨hp, hb⟩
theorem found_len {K N : Nat} {hs : List Nat} {ps : List (List UInt8)} {p : List UInt8 × List (List Nat)} (h : Cod.foundF K N hs ps = .inr p) : p.1.length ≤ 32768 := by
 unfold Cod.foundF at h
 split at h
 ·cases h
 ·split at h
  ·cases h
  ·split at h
   ·cases h
   ·rename_i b hb
    split at h
    ·cases h
     unfold Cod.blobF at hb
     split at hb
     ·cases hb
     ·split at hb
      ·cases hb
      ·split at hb
       ·cases hb
       ·split at hb
        ·cases hb
        ·cases hb
         rw [List.length_take]
         omega
    ·cases h
theorem cell_put {W : World} {D : Nat} {o : Obj} {a : Addr} {v : Value} (h : W.cell? a = some v) (hD : W.heap[D]? = some o) (ho : o.isCells = false) (o' : Obj) : (W.putObj D o').cell? a = some v := by
 refine (World.cell?_of_block (World.putObj_heap_other fun e => ?_)).trans h
 unfold World.cell? at h
 rw [e, hD] at h
 cases o <;> simp [Obj.isCells] at ho h
theorem ints_put {W : World} {D : Nat} {o : Obj} {v : Value} {l : List Nat} (h : Cod.IntsN W v l) (hD : W.heap[D]? = some o) (ho : o.isCells = false) (o' : Obj) : Cod.IntsN (W.putObj D o') v l := by
 obtain ⟨A, c, h1, h5, h2⟩ := h
 exact ⟨A, c, h1, h5, fun i x hi => by obtain ⟨b, q, h3, h4⟩ := h2 i x hi; exact ⟨b, q, h3, cell_put h4 hD ho o'⟩⟩
theorem strs_put {W : World} {D : Nat} {o : Obj} {v : Value} {l : List (List UInt8)} (h : Cod.StrsN W v l) (hD : W.heap[D]? = some o) (ho : o.isCells = false) (o' : Obj) : Cod.StrsN (W.putObj D o') v l := by
 obtain ⟨A, c, h1, h5, h2⟩ := h
 exact ⟨A, c, h1, h5, fun i x hi => by obtain ⟨b, q, h3, h4⟩ := h2 i x hi; exact ⟨b, q, h3, cell_put h4 hD ho o'⟩⟩
theorem told_eq (l : List UInt8) (d : ByteArray) [Decidable (l = d.data.toList)] : decide (l = d.data.toList) = (l == d.toList) := by
 rw [show d.toList = d.data.toList from ByteArray.toList_eq d]
 by_cases h : l = d.data.toList <;> simp [h]
def FirI (w w5 : World) (k : Nat) (pre : List (Nat × Got)) (W : World) : Prop := ∃ v1 v2, Boxed W (w.heap.size + 1) 54 v1 ∧ Boxed W (w.heap.size + 2) 60 v2 ∧ W.ownsRow w5.heap.size 3 1 v1 (pre.take k).length ((pre.take k).map fun x => .int .i64 (x.1 : Nat)) ∧ W.ownsRow w5.heap.size 9 1 v2 (pre.take k).length ((pre.take k).map fun x => .string x.2.pay) ∧ Fr [w.heap.size + 1, w.heap.size + 2] w5 W
theorem first_any {w : World} {B b : Nat} {k n : Nat} {d : ByteArray} {gv : Value} {l : List Got} (hb : BlobIs w B b k n d gv l) (hk : Shd.codeB (k : Int) (n : Int) = true) (hl : l.length = n) (hd : d.size = 32) (hpz : ∀ g ∈ l, g.pay.size ≤ 1000000) :
 Calls Tryz.prog 47 #[.pointer (some ⟨B, 0, none⟩)] w (FirPost w k n d l) := by
 obtain ⟨h1, h2, h3⟩ := (Shd.codeB_iff _ _).1 hk
 have HB := Lib.hid hb
 have HK := Lib.hid hk
 have HL := Lib.hid hl
 have HPZ := Lib.hid hpz
 clear hb hk hl hpz
 refine (callsIn_wide (n := 5)).1 ?_
 have h15 : 1 ≤ 5 := by omega
 have hw33 : Fence.wide.fn 46 := trivial
 refine callsIn_of_wp_marks Tryz.func47 rfl trivial ?_ rfl
 simp only [Tryz.ntmps47, List.size_toArray, List.length_cons, List.length_nil, Nat.reduceAdd, Nat.reduceSub, Array.replicate_succ, Array.replicate_zero, List.push_toArray, List.append_toArray, List.nil_append, List.cons_append]
 gi_wp2_with (gi_at_call 46; refine (callsIn_wide.2 (which_any _ _ _)).mono ?_; rintro e w9 ⟨rfl, rfl⟩)
 have e1 := Stab.Ext.alloc w (.cells #[.pointer (some ⟨B, 0, none⟩)] 88)
 have e2 := Stab.Ext.alloc (w.alloc (.cells #[.pointer (some ⟨B, 0, none⟩)] 88)) (.cells #[.slice none 0 0] 54)
 have e3 := Stab.Ext.alloc ((w.alloc (.cells #[.pointer (some ⟨B, 0, none⟩)] 88)).alloc (.cells #[.slice none 0 0] 54)) (.cells #[.slice none 0 0] 60)
 have e4 := Stab.Ext.alloc (((w.alloc (.cells #[.pointer (some ⟨B, 0, none⟩)] 88)).alloc (.cells #[.slice none 0 0] 54)).alloc (.cells #[.slice none 0 0] 60)) (.cells #[.pointer (some ⟨B, 0, none⟩)] 88)
 have e5 := Stab.Ext.alloc ((((w.alloc (.cells #[.pointer (some ⟨B, 0, none⟩)] 88)).alloc (.cells #[.slice none 0 0] 54)).alloc (.cells #[.slice none 0 0] 60)).alloc (.cells #[.pointer (some ⟨B, 0, none⟩)] 88)) (.cells #[.bool true] 4)
 have hE5 := (((e1.trans e2).trans e3).trans e4).trans e5
 have b3 := (Blk.new (((w.alloc (.cells #[.pointer (some ⟨B, 0, none⟩)] 88)).alloc (.cells #[.slice none 0 0] 54)).alloc (.cells #[.slice none 0 0] 60)) 88 #[.pointer (some ⟨B, 0, none⟩)]).alloc (.cells #[.bool true] 4)
 have b4 := Blk.new ((((w.alloc (.cells #[.pointer (some ⟨B, 0, none⟩)] 88)).alloc (.cells #[.slice none 0 0] 54)).alloc (.cells #[.slice none 0 0] 60)).alloc (.cells #[.pointer (some ⟨B, 0, none⟩)] 88)) 4 #[.bool true]
 have x0 := (((Blk.new w 88 #[.pointer (some ⟨B, 0, none⟩)]).alloc (.cells #[.slice none 0 0] 54)).alloc (.cells #[.slice none 0 0] 60)).alloc (.cells #[.pointer (some ⟨B, 0, none⟩)] 88) |>.alloc (.cells #[.bool true] 4)
 have x1 := ((Boxed.new (w.alloc (.cells #[.pointer (some ⟨B, 0, none⟩)] 88)) 54 (.slice none 0 0)).alloc (.cells #[.slice none 0 0] 60)).alloc (.cells #[.pointer (some ⟨B, 0, none⟩)] 88) |>.alloc (.cells #[.bool true] 4)
 have x2 := ((Boxed.new ((w.alloc (.cells #[.pointer (some ⟨B, 0, none⟩)] 88)).alloc (.cells #[.slice none 0 0] 54)) 60 (.slice none 0 0)).alloc (.cells #[.pointer (some ⟨B, 0, none⟩)] 88)).alloc (.cells #[.bool true] 4)
 simp only [World.size_alloc] at b3 b4 x1 x2
 generalize hw5 : ((((w.alloc (.cells #[.pointer (some ⟨B, 0, none⟩)] 88)).alloc (.cells #[.slice none 0 0] 54)).alloc (.cells #[.slice none 0 0] 60)).alloc (.cells #[.pointer (some ⟨B, 0, none⟩)] 88)).alloc (.cells #[.bool true] 4) = w5 at *
 have hs5 : w5.heap.size = w.heap.size + 5 := by rw [← hw5]; simp
 have hlen : l.length ≤ 1000 := by have := HL.out; omega
 have hW5 : Wch (w.heap.size + 3) (w.heap.size + 4) B b k n d gv l true w5 := ⟨b3, b4, HB.out.keep (Fr.of_below (O := []) hE5) (by simp)⟩
 have hlow : ∀ x, x ∈ wchO (w.heap.size + 3) (w.heap.size + 4) B gv → x < w5.heap.size ∧ x ≠ w.heap.size + 1 ∧ x ≠ w.heap.size + 2 := fun x hx => by
  refine ⟨hW5.lt x hx, ?_⟩
  simp only [wchO, List.mem_cons] at hx
  rcases hx with h4 | h4 | h4
  ·omega
  ·omega
  ·have := HB.out.lt x h4; omega
 refine range_box h15 (gf := 86) (lb := #[.pointer (some ⟨w.heap.size + 3, 0, none⟩), .pointer (some ⟨w.heap.size + 4, 0, none⟩)]) rfl (enters_of Tryz.func86 (by kernel_rfl) rfl)
  (which_seq 4 (by omega) hlen (fun W W' => ∀ x, x < w5.heap.size → x ≠ w.heap.size + 1 → x ≠ w.heap.size + 2 → W'.heap[x]? = W.heap[x]?) (fun W W' hK x hx => hK x (hlow x hx).1 (hlow x hx).2.1 (hlow x hx).2.2) w5 hW5)
  (fun hA hB x hx h1 h2 => (hB x hx h1 h2).trans (hA x hx h1 h2)) (fun W l o o' hl _ _ _ x hx _ _ => World.putObj_heap_other (by omega)) (Below.refl _ _) (fun _ => rfl)
  (FirI w w5 k)
  (fun _ _ _ => False)
  (fun pre A1 A2 row ⟨v1, v2, i1, i2, i3, i4, i5⟩ hg hr => ⟨v1, v2, i1.kept hg (fun e' => by have := (hr _ e'.symm).1; omega), i2.kept hg (fun e' => by have := (hr _ e'.symm).1; omega), row_grown i3 hg hr, row_grown i4 hg hr, fr_grown i5 hg hr⟩)
  (fun _ _ _ _ _ hs _ _ => hs) ⟨_, _, x1, x2, by simpa using row_nil w5 _ _ _, by simpa using row_nil w5 _ _ _, Fr.refl _ _⟩
  (fun x r => { tmps := #[.pointer (some ⟨B, 0, none⟩), .pointer (some ⟨w.heap.size, 0, none⟩), .pointer (some ⟨w.heap.size + 1, 0, none⟩), .pointer (some ⟨w.heap.size + 2, 0, none⟩), .bool false, .int .i64 (x.1 : Nat), .pointer (some ⟨r, 0, none⟩), undef, undef, .pointer (some ⟨B, 0, none⟩), .func (.func 86) #[] #[.pointer (some ⟨w.heap.size + 3, 0, none⟩), .pointer (some ⟨w.heap.size + 4, 0, none⟩)], .int .i64 (x.1 : Nat), .agg #[.bool x.2.sound, .bool x.2.there, .string x.2.pay], undef, undef, undef, undef, undef, undef, undef, undef, undef, undef, undef, undef, undef, undef, undef, undef, undef, undef, undef, undef, undef, undef, undef, undef, undef, undef, undef, undef, undef, undef, undef, undef, undef, undef, undef, undef, undef, undef, undef, undef], defers := [] }) (fun x r W => Blk W r 100 #[.bool x.2.sound, .bool x.2.there, .string x.2.pay])
  (fun x r pre A1 A2 row hb hg hr => (hg.block r hb.lt (fun e' => by
   obtain ⟨_, o, ho, hc⟩ := hr r e'.symm
   rw [show A1.heap[r]? = _ from hb] at ho; cases ho; cases hc)).trans hb)
  (fun pre W Wa hI hE x hx _ _ => hE.block x (by obtain ⟨_, _, _, _, _, _, i5⟩ := hI; exact Nat.lt_of_lt_of_le hx i5.size)) ?assign ?body ?done ?stop
 case assign =>
  intro lp pre x W K hI hK
  have hx7 := Stab.Ext.alloc W (.cells #[.bool x.2.sound, .bool x.2.there, .string x.2.pay] 100)
  obtain ⟨v1, v2, i1, i2, i3, i4, i5⟩ := hI
  have HK7 := Lib.hid (hK W.heap.size _ hx7 ⟨v1, v2, i1.alloc _, i2.alloc _, own_ext i3 hx7, own_ext i4 hx7, i5.trans (Fr.of_below (O := []) hx7) (by simp)⟩ (Blk.new W _ _))
  clear hK hx7 i1 i2 i3 i4 i5
  simp only [encG]
  gi_wp2
  exact HK7.out
 case body =>
  rintro lp pre x r W ⟨v1, v2, i1, i2, i3, i4, i5⟩ hBx hpx
  have g1 := (World.cell?_of_block (a := ⟨w.heap.size, 0, none⟩) (i5.block w.heap.size (by omega) (by simp))).trans (x0.cell 0)
  have hblk : Blk w5 B 93 #[.pointer (some ⟨b, 0, none⟩), .int .i64 (k : Int), .int .i64 (n : Int), .string d, gv] := hW5.blob.blk
  have hBl : B < w.heap.size := HB.out.blk.lt
  have g2 := (World.cell?_of_block (a := ⟨B, 1, none⟩) (i5.block B (by omega) (by simp; omega))).trans (hblk.cell 1)
  simp only [List.getElem?_toArray, List.getElem?_cons_zero, List.getElem?_cons_succ] at g1 g2
  obtain ⟨A1, c1, hv1⟩ := row_shape i3
  obtain ⟨A2, c2, hv2⟩ := row_shape i4
  subst hv1 hv2
  have g3 := i1.cell
  have g4 := i2.cell
  by_cases hlk : (pre.take k).length < k
  ·have hlk2 : (((pre.take k).length : Nat) : Int) < (k : Int) := by omega
   have hpl : pre.length < k := by rw [List.length_take] at hlk; omega
   have htk : pre.take k = pre := List.take_of_length_le (by omega)
   have htk2 : (pre ++ [x]).take k = pre ++ [x] := List.take_of_length_le (by simp; omega)
   rw [htk] at i3 i4 g3 g4 i1 i2 hlk2 hlk
   have hp1 : pre.length ≤ 1000 := by omega
   have hw0 : w5.heap.size ≤ W.heap.size := i5.size
   have hpay := (hBx : Blk W r 100 #[.bool x.2.sound, .bool x.2.there, .string x.2.pay]).cell 2
   simp only [List.getElem?_toArray, List.getElem?_cons_zero, List.getElem?_cons_succ] at hpay
   have FIN : ∀ (R : World) (u1 u2 : Value) (a : Act), EAB w5.heap.size 3 9 (.slice A1 pre.length c1) (.slice A2 pre.length c2) pre.length pre.length (pre.map fun x => .int .i64 (x.1 : Nat)) (pre.map fun x => .string x.2.pay) (.int .i64 (x.1 : Nat)) (.string x.2.pay) W R → R.ownsRow w5.heap.size 3 1 u1 (pre.length + 1) ((pre.map fun x => .int .i64 (x.1 : Nat)) ++ [.int .i64 (x.1 : Nat)]) → R.ownsRow w5.heap.size 9 1 u2 (pre.length + 1) ((pre.map fun x => .string x.2.pay) ++ [.string x.2.pay]) →
    Boxed R (w.heap.size + 1) 54 (.slice A1 pre.length c1) ∧ Boxed R (w.heap.size + 2) 60 (.slice A2 pre.length c2) ∧
    ownPostG w5.heap.size (fun W W' => ∀ x, x < w5.heap.size → x ≠ w.heap.size + 1 → x ≠ w.heap.size + 2 → W'.heap[x]? = W.heap[x]?) (FirI w w5 k) (fun _ _ _ => False) (pre ++ [x]) W .normal a ((R.setCell ⟨w.heap.size + 1, 0, none⟩ u1).setCell ⟨w.heap.size + 2, 0, none⟩ u2) := by
    intro R u1 u2 a hT hr1 hr2
    have q1 : Boxed R (w.heap.size + 1) 54 (.slice A1 pre.length c1) := (hT.blk _ i1.lt (i1.not_row (by decide) i3) (i1.not_row (by decide) i4)).trans i1
    have q2 : Boxed R (w.heap.size + 2) 60 (.slice A2 pre.length c2) := (hT.blk _ i2.lt (i2.not_row (by decide) i3) (i2.not_row (by decide) i4)).trans i2
    have s1 : Boxed (R.setCell ⟨w.heap.size + 1, 0, none⟩ u1) (w.heap.size + 1) 54 u1 := q1.set u1
    have s2 : Boxed (R.setCell ⟨w.heap.size + 1, 0, none⟩ u1) (w.heap.size + 2) 60 (.slice A2 pre.length c2) := (Below.heap_setCell _ _ _ _ (by simp)).trans q2
    have s3 : Boxed ((R.setCell ⟨w.heap.size + 1, 0, none⟩ u1).setCell ⟨w.heap.size + 2, 0, none⟩ u2) (w.heap.size + 1) 54 u1 := (Below.heap_setCell _ _ _ _ (by simp)).trans s1
    have s4 : Boxed ((R.setCell ⟨w.heap.size + 1, 0, none⟩ u1).setCell ⟨w.heap.size + 2, 0, none⟩ u2) (w.heap.size + 2) 60 u2 := s2.set u2
    have hold : ∀ y, y < w5.heap.size → y ≠ w.heap.size + 1 → y ≠ w.heap.size + 2 → ((R.setCell ⟨w.heap.size + 1, 0, none⟩ u1).setCell ⟨w.heap.size + 2, 0, none⟩ u2).heap[y]? = W.heap[y]? := fun y hy h1 h2 =>
     (Below.heap_setCell _ _ _ _ (by simpa using h2)).trans ((Below.heap_setCell _ _ _ _ (by simpa using h1)).trans (hT.blk y (by omega) (fun e => by have := (i3.lt y e.symm).1; omega) (fun e => by have := (i4.lt y e.symm).1; omega)))
    refine ⟨q1, q2, ((hT.keep.trans (KeepsOthers.setCell _ _ _)).trans (KeepsOthers.setCell _ _ _)).from _, hold, ?_⟩
    unfold FirI
    rw [htk2]
    refine ⟨u1, u2, s3, s4, ?_, ?_, ⟨hT.os.trans i5.os, hT.tape.trans i5.tape, hT.output.trans i5.output, ?_, fun y hy hn => (hold y hy (fun e => hn (by simp [e])) (fun e => hn (by simp [e]))).trans (i5.block y hy hn)⟩⟩
    ·rw [List.length_append, List.map_append]
     refine row_heap (row_heap hr1 fun g hg => Below.heap_setCell _ _ _ _ fun e => q1.not_row (by decide) hr1 (by rw [hg, e])) fun g hg => Below.heap_setCell _ _ _ _ fun e => q2.not_row (by decide) hr1 (by rw [hg, e])
    ·rw [List.length_append, List.map_append]
     refine row_heap (row_heap hr2 fun g hg => Below.heap_setCell _ _ _ _ fun e => q1.not_row (by decide) hr2 (by rw [hg, e])) fun g hg => Below.heap_setCell _ _ _ _ fun e => q2.not_row (by decide) hr2 (by rw [hg, e])
    ·have hk := hT.keep.size
     simp only [World.setCell, Array.size_modify]
     omega
   have HFIN := Lib.hid FIN
   have HI := Lib.hid (show Boxed W (w.heap.size + 1) 54 (.slice A1 pre.length c1) ∧ Boxed W (w.heap.size + 2) 60 (.slice A2 pre.length c2) ∧ W.ownsRow w5.heap.size 3 1 (.slice A1 pre.length c1) pre.length (pre.map fun x => .int .i64 (x.1 : Nat)) ∧ W.ownsRow w5.heap.size 9 1 (.slice A2 pre.length c2) pre.length (pre.map fun x => .string x.2.pay) ∧ w5.heap.size ≤ W.heap.size ∧ W.cell? ⟨r, 2, none⟩ = some (.string x.2.pay) ∧ Blk W r 100 #[.bool x.2.sound, .bool x.2.there, .string x.2.pay] from ⟨i1, i2, i3, i4, hw0, hpay, hBx⟩)
   have HRD := Lib.hid (show FRd w.heap.size B k pre.length (.slice A1 pre.length c1) W from ⟨g1, g2, g3⟩)
   clear i1 i2 i3 i4 i5 hpay hpx hBx FIN hw0 g1 g2 g3 g4
   gi_wp2_with fail
   refine Stab.wpIn_region_stable 8 53 [some 13, some 14, some 15, some 16, some 17, some 18, some 19, some 20] [[], [0], [], [2], [3], [4], [5], [1, 6]] [7] (FRd w.heap.size B k pre.length (.slice A1 pre.length c1)) [Stab.eqv ?r4e0, Stab.eqv ?r4e1, Stab.eqv ?r4e2, Stab.eqv ?r4e3, Stab.eqv ?r4e4, Stab.eqv ?r4e5, Stab.eqv ?r4e6, Stab.eqv ?r4e7] rfl (by kernel_rfl) rfl (by kernel_rfl) (fun ⟨_, _, h⟩ => h) (by kernel_rfl) (by kernel_rfl) (fun us => by simp only [Stab.putAll, Act.put, List.setIfInBounds_toArray, List.set_cons_zero, List.set_cons_succ]; rfl) (HRD.out.ext (Stab.Ext.drew _)) (fun _ _ h hE => h.ext hE) ?goals4 ?last4
   case goals4 =>
    simp only [List.take_succ_cons, List.take_zero]
    iterate 8
     refine Stab.gp (fun us w _ hE hS hp hK => ?_) ?_
     ·((try have e0 : _ = _ := hp.1); (try have e1 : _ = _ := hp.2.1); (try have e2 : _ = _ := hp.2.2.1); have c0 := hS.c0; have c1' := hS.c1; have c2' := hS.c2; go_simp; exact hK _ _ (by show _ = _; with_reducible rfl) (Stab.Ext.refl _))
    exact Stab.Goals.nil
   case last4 =>
    intro us W4 hE4 hS hp
    obtain ⟨h7, -⟩ := hp
    replace h7 : us 7 = _ := h7
    simp only [List.drop_succ_cons, List.drop_nil, List.drop_zero, h7]
    refine wpList_nil ?_
    have HE4 := Lib.hid ((Stab.Ext.drew W).trans hE4)
    clear hE4 hS
    gi_wp2_with fail
    have it : (Tryz.prog.info? 3).map (fun i => (i.zero, i.size, i.bytes)) = some (some (.int .i64 0), 1, 8) := by kernel_rfl
    have is_ : (Tryz.prog.info? 9).map (fun i => (i.zero, i.size, i.bytes)) = some (some (.string ⟨#[]⟩), 1, 16) := by kernel_rfl
    have hSS : ∀ w', EAB w5.heap.size 3 9 (.slice A1 pre.length c1) (.slice A2 pre.length c2) pre.length pre.length (pre.map fun x => .int .i64 (x.1 : Nat)) (pre.map fun x => .string x.2.pay) (.int .i64 (x.1 : Nat)) (.string x.2.pay) W4.drew w' → FSt w.heap.size r w5.heap.size (.slice A1 pre.length c1) (.slice A2 pre.length c2) pre.length (pre.map fun x => .int .i64 (x.1 : Nat)) (pre.map fun x => .string x.2.pay) x.2.pay w' := fun w' hE => by
     obtain ⟨i1, i2, i3, i4, hw0, hpay, hBx⟩ := HI.out
     have hE' := (EAB.ext (HE4.out.trans (Stab.Ext.drew W4))).trans hE
     exact ⟨(hE'.blk _ i1.lt (i1.not_row (by decide) i3) (i1.not_row (by decide) i4)).trans i1, (hE'.blk _ i2.lt (i2.not_row (by decide) i3) (i2.not_row (by decide) i4)).trans i2,
      (World.cell?_of_block (hE'.blk r hBx.lt (fun e => blk_off hBx i3 (by decide) e.symm) (fun e => blk_off hBx i4 (by decide) e.symm))).trans hpay, hE'.a0 i3, hE'.b0 i4, Nat.le_trans hw0 hE'.size⟩
    refine Stab.wpIn_region_E 9 53 [some 21, some 22, some 23, some 24, some 25, some 26, some 27, some 28, some 29] [[], [], [1], [0, 2], [], [], [5], [6], [4, 7, 3]] [3, 8] (FSt w.heap.size r w5.heap.size (.slice A1 pre.length c1) (.slice A2 pre.length c2) pre.length (pre.map fun x => .int .i64 (x.1 : Nat)) (pre.map fun x => .string x.2.pay) x.2.pay)
     [Stab.eqE (EAB w5.heap.size 3 9 (.slice A1 pre.length c1) (.slice A2 pre.length c2) pre.length pre.length (pre.map fun x => .int .i64 (x.1 : Nat)) (pre.map fun x => .string x.2.pay) (.int .i64 (x.1 : Nat)) (.string x.2.pay)) ?v0, Stab.eqE _ ?v1, ptrE w5.heap.size 3 9 (.slice A1 pre.length c1) (.slice A2 pre.length c2) pre.length pre.length (pre.map fun x => .int .i64 (x.1 : Nat)) (pre.map fun x => .string x.2.pay) (.int .i64 (x.1 : Nat)) (.string x.2.pay) 3 #[.int .i64 (x.1 : Nat)], oneE w5.heap.size 3 9 (.slice A1 pre.length c1) (.slice A2 pre.length c2) pre.length pre.length (pre.map fun x => .int .i64 (x.1 : Nat)) (pre.map fun x => .string x.2.pay) (.int .i64 (x.1 : Nat)) (.string x.2.pay), Stab.eqE _ ?v4, Stab.eqE _ ?v5, Stab.eqE _ ?v6, ptrE w5.heap.size 3 9 (.slice A1 pre.length c1) (.slice A2 pre.length c2) pre.length pre.length (pre.map fun x => .int .i64 (x.1 : Nat)) (pre.map fun x => .string x.2.pay) (.int .i64 (x.1 : Nat)) (.string x.2.pay) 9 #[.string x.2.pay], twoE w5.heap.size 3 9 (.slice A1 pre.length c1) (.slice A2 pre.length c2) pre.length pre.length (pre.map fun x => .int .i64 (x.1 : Nat)) (pre.map fun x => .string x.2.pay) (.int .i64 (x.1 : Nat)) (.string x.2.pay)] rfl (by kernel_rfl) rfl (by kernel_rfl) (fun ⟨_, _, h⟩ => h) (by kernel_rfl) (by kernel_rfl) (fun us => by simp only [Stab.putAll, Act.put, List.setIfInBounds_toArray, List.set_cons_zero, List.set_cons_succ]; rfl)
     EAB.refl (fun _ _ _ => EAB.trans) hSS ?goals5 ?last5
    case goals5 =>
     simp only [List.take_succ_cons, List.take_zero]
     refine Stab.GoalsE.plain rfl rfl (fun us w cK hE hS hp hK => ?_) ?_
     ·skip
      have d1 := hS.i1.cell
      go_simp
      refine hK _ _ ?_ EAB.refl
      show _ = _
      with_reducible rfl
     refine Stab.GoalsE.plain rfl rfl (fun us w cK hE hS hp hK => ?_) ?_
     ·skip
      go_simp
      refine hK _ _ ?_ EAB.refl
      show _ = _
      with_reducible rfl
     refine Stab.GoalsE.plain rfl rfl (fun us w cK hE hS hp hK => ?_) ?_
     ·skip
      obtain ⟨h1, -⟩ := hp
      replace h1 : us 1 = _ := h1
      go_simp
      exact hK _ _ ⟨_, rfl, fun e => by have := row_lt hS.a0 e.symm; omega, fun e => by have := row_lt hS.b0 e.symm; omega, Blk.new _ _ _⟩ (EAB.ext (Stab.Ext.alloc _ _))
     refine Stab.GoalsE.plain rfl rfl (fun us w cK hE hS hp hK => ?_) ?_
     ·obtain ⟨h0, ⟨z, h2, -, -, hz⟩, -⟩ := hp
      replace h0 : us 0 = _ := h0
      obtain ⟨g, cap, wa, hrun, o1, hg, k0, k1⟩ := own_app_kept (c := 1) Tryz.underlying54 it rfl (by omega) hS.a0 hz rfl (by omega) hS.base
      refine wp_app rfl rfl (by go_simp) (by go_simp) hrun ?_
      refine ⟨rfl, ?_⟩
      exact hK _ _ ⟨⟨g, cap, rfl⟩, o1⟩ (EAB.one (by decide) hS.a0 hg k0 k1)
     refine Stab.GoalsE.plain rfl rfl (fun us w cK hE hS hp hK => ?_) ?_
     ·skip
      have d1 := hS.i2.cell
      go_simp
      refine hK _ _ ?_ EAB.refl
      show _ = _
      with_reducible rfl
     refine Stab.GoalsE.plain rfl rfl (fun us w cK hE hS hp hK => ?_) ?_
     ·skip
      go_simp
      refine hK _ _ ?_ EAB.refl
      show _ = _
      with_reducible rfl
     refine Stab.GoalsE.plain rfl rfl (fun us w cK hE hS hp hK => ?_) ?_
     ·skip
      obtain ⟨h5, -⟩ := hp
      replace h5 : us 5 = _ := h5
      have d1 := hS.pay
      go_simp
      refine hK _ _ ?_ EAB.refl
      show _ = _
      with_reducible rfl
     refine Stab.GoalsE.plain rfl rfl (fun us w cK hE hS hp hK => ?_) ?_
     ·skip
      obtain ⟨h6, -⟩ := hp
      replace h6 : us 6 = _ := h6
      go_simp
      exact hK _ _ ⟨_, rfl, fun e => by have := row_lt hS.a0 e.symm; omega, fun e => by have := row_lt hS.b0 e.symm; omega, Blk.new _ _ _⟩ (EAB.ext (Stab.Ext.alloc _ _))
     refine Stab.GoalsE.plain rfl rfl (fun us w cK hE hS hp hK => ?_) ?_
     ·obtain ⟨h4, ⟨z, h7, -, -, hz⟩, -⟩ := hp
      replace h4 : us 4 = _ := h4
      obtain ⟨g, cap, wa, hrun, o1, hg, k0, k1⟩ := own_app_kept (c := 1) Tryz.underlying60 is_ rfl (by omega) hS.b0 hz rfl (by omega) hS.base
      refine wp_app rfl rfl (by go_simp) (by go_simp) hrun ?_
      refine ⟨rfl, ?_⟩
      exact hK _ _ ⟨⟨g, cap, rfl⟩, o1⟩ (EAB.two (by decide) hS.b0 hg k0 k1)
     exact Stab.GoalsE.nil
    case last5 =>
     intro us W9 hE9 hS hp
     obtain ⟨⟨⟨ga, ca, h3⟩, r1⟩, ⟨⟨gb, cb, h8⟩, r2⟩, -⟩ := hp
     rw [h3] at r1
     rw [h8] at r2
     simp only [List.drop_succ_cons, List.drop_nil, List.drop_zero, h3, h8]
     have q1 := hS.i1.cell
     have q2 := hS.i2.cell
     have z1 := hS.i1.frozen
     have z2 := hS.i2.frozen
     have HFF := Lib.hid (fun a => (HFIN.out W9 _ _ a ((EAB.ext (HE4.out.trans (Stab.Ext.drew W4))).trans hE9) r1 r2).2.2)
     clear hS r1 r2 hE9
     go_wp2_with fail
     exact HFF.out _
  ·have hlk2 : ¬ (((pre.take k).length : Nat) : Int) < (k : Int) := by omega
   have htk2 : (pre ++ [x]).take k = pre.take k := List.take_append_of_le_length (by rw [List.length_take] at hlk; omega)
   have HRD := Lib.hid (show FRd w.heap.size B k (pre.take k).length (.slice A1 (pre.take k).length c1) W from ⟨g1, g2, g3⟩)
   have HI := Lib.hid (show FirI w w5 k (pre ++ [x]) W from ⟨_, _, i1, i2, by rw [htk2]; exact i3, by rw [htk2]; exact i4, i5⟩)
   have hs5' := i5.size
   clear i1 i2 i3 i4 hpx hBx g1 g2 g3 g4
   clear hlk htk2
   generalize (pre.take k).length = m at *
   gi_wp2_with fail
   refine Stab.wpIn_region_stable 8 53 [some 13, some 14, some 15, some 16, some 17, some 18, some 19, some 20] [[], [0], [], [2], [3], [4], [5], [1, 6]] [7] (FRd w.heap.size B k m (.slice A1 m c1)) [Stab.eqv ?r4be0, Stab.eqv ?r4be1, Stab.eqv ?r4be2, Stab.eqv ?r4be3, Stab.eqv ?r4be4, Stab.eqv ?r4be5, Stab.eqv ?r4be6, Stab.eqv ?r4be7] rfl (by kernel_rfl) rfl (by kernel_rfl) (fun ⟨_, _, h⟩ => h) (by kernel_rfl) (by kernel_rfl) (fun us => by simp only [Stab.putAll, Act.put, List.setIfInBounds_toArray, List.set_cons_zero, List.set_cons_succ]; rfl) (HRD.out.ext (Stab.Ext.drew _)) (fun _ _ h hE => h.ext hE) ?goals4b ?last4b
   case goals4b =>
    simp only [List.take_succ_cons, List.take_zero]
    iterate 8
     refine Stab.gp (fun us w _ hE hS hp hK => ?_) ?_
     ·((try have e0 : _ = _ := hp.1); (try have e1 : _ = _ := hp.2.1); (try have e2 : _ = _ := hp.2.2.1); have c0 := hS.c0; have c1' := hS.c1; have c2' := hS.c2; go_simp; exact hK _ _ (by show _ = _; with_reducible rfl) (Stab.Ext.refl _))
    exact Stab.Goals.nil
   case last4b =>
    intro us W4 hE4 hS hp
    obtain ⟨h7, -⟩ := hp
    replace h7 : us 7 = _ := h7
    simp only [List.drop_succ_cons, List.drop_nil, List.drop_zero, h7]
    refine wpList_nil ?_
    have HE4 := Lib.hid ((Stab.Ext.drew W).trans hE4)
    clear hE4 hS
    gi_wp2_with fail
    obtain ⟨v1, v2, j1, j2, j3, j4, j5⟩ := HI.out
    exact ⟨(keeps_ext HE4.out).from _, fun y hy _ _ => HE4.out.block y (Nat.lt_of_lt_of_le hy hs5'), v1, v2, j1.kept ⟨HE4.out.os, HE4.out.tape, HE4.out.output, HE4.out.size, fun k hk _ => HE4.out.block k hk⟩ (row := none) (by simp), j2.kept ⟨HE4.out.os, HE4.out.tape, HE4.out.output, HE4.out.size, fun k hk _ => HE4.out.block k hk⟩ (row := none) (by simp), own_ext j3 HE4.out, own_ext j4 HE4.out, j5.trans (Fr.of_below (O := []) HE4.out) (by simp)⟩
 case done =>
  rintro D ys W hD rfl ⟨v1, v2, j1, j2, j3, j4, j5⟩ hK
  have g1 := (World.cell?_of_block (a := ⟨w.heap.size, 0, none⟩) (j5.block w.heap.size (by omega) (by simp))).trans (x0.cell 0)
  have hblk : Blk w5 B 93 #[.pointer (some ⟨b, 0, none⟩), .int .i64 (k : Int), .int .i64 (n : Int), .string d, gv] := hW5.blob.blk
  have hBl : B < w.heap.size := HB.out.blk.lt
  have g2 := (World.cell?_of_block (a := ⟨B, 1, none⟩) (j5.block B (by omega) (by simp; omega))).trans (hblk.cell 1)
  have g3 := (World.cell?_of_block (a := ⟨B, 2, none⟩) (j5.block B (by omega) (by simp; omega))).trans (hblk.cell 2)
  have g4 := (World.cell?_of_block (a := ⟨B, 3, none⟩) (j5.block B (by omega) (by simp; omega))).trans (hblk.cell 3)
  simp only [List.getElem?_toArray, List.getElem?_cons_zero, List.getElem?_cons_succ] at g1 g2 g3 g4
  obtain ⟨A1, c1, hv1⟩ := row_shape j3
  obtain ⟨A2, c2, hv2⟩ := row_shape j4
  have hog : ∀ g, (v1.ownBlock = some g ∨ v2.ownBlock = some g) → w.heap.size ≤ g := fun g hg => by
   rcases hg with hg | hg
   ·have := (j3.lt g hg).1; omega
   ·have := (j4.lt g hg).1; omega
  have e1 : ((sel true 0 l).take k).map (fun x => Value.int .i64 (x.1 : Nat)) = (haveL l k).map fun x => .int .i64 (x : Nat) := by unfold haveL; rw [List.map_map]; rfl
  have e2 : ((sel true 0 l).take k).map (fun x => Value.string x.2.pay) = (paysOf l k).map fun x => .string ⟨x.toArray⟩ := by unfold paysOf; rw [List.map_map]; rfl
  have e3 : ((sel true 0 l).take k).length = (haveL l k).length := by simp [haveL]
  have e4 : ((sel true 0 l).take k).length = (paysOf l k).length := by simp [paysOf]
  rw [e1, e3] at j3
  rw [e2, e4] at j4
  rw [e3] at hv1
  rw [e4] at hv2
  have hI := ints_row j3
  have hS := strs_row j4
  subst hv1 hv2
  have HOG := Lib.hid hog
  clear hog
  have HRD := Lib.hid (show DRd w.heap.size B k n d (.slice A1 (haveL l k).length c1) (.slice A2 (paysOf l k).length c2) (haveL l k) (paysOf l k) W from ⟨g1, g2, g3, g4, j1, j2, hI, hS⟩)
  have HJ5 := Lib.hid j5
  have HDK := Lib.hid hK
  have HDEC := Lib.hid (fun (W' : World) (h : DRd w.heap.size B k n d (.slice A1 (haveL l k).length c1) (.slice A2 (paysOf l k).length c2) (haveL l k) (paysOf l k) W') =>
   dec_calls (Cod.decode_any HK.out h.ints h.strs (have_pays l k) (haveL_nodup l k) (fun x hx => by rw [← HL.out]; exact haveL_lt l k x hx) (haveL_len l k) (fun s hs => by
    obtain ⟨y, hy, rfl⟩ := List.mem_map.1 hs
    have hm := (sel_mem true l 0 y.1 y.2).1 (List.mem_of_mem_take hy)
    have := HPZ.out y.2 (List.mem_of_getElem? hm.2.1)
    simpa using this)))
  clear g1 g2 g3 g4 e1 e2 e3 e4 j1 j2 j3 j4 j5 hI hS hK hblk
  have HLEN := Lib.hid (have_pays l k)
  generalize hHL : haveL l k = hl at *
  generalize hPL : paysOf l k = pl at *
  gi_wp2_with fail
  refine Stab.wpIn_region_stable 12 53 [some 31, some 32, some 33, some 34, some 35, some 36, some 37, some 30, some 38, some 39, some 7, some 8] [[], [0], [1], [2], [], [], [3, 4, 5], [6], [7], [7], [8], [9]] [10, 11] (DRd w.heap.size B k n d (.slice A1 hl.length c1) (.slice A2 pl.length c2) hl pl) [Stab.eqv ?r6e0, Stab.eqv ?r6e1, Stab.eqv ?r6e2, Stab.eqv ?r6e3, Stab.eqv ?r6e4, Stab.eqv ?r6e5, Stab.eqv ?r6e6, Stab.eqv ?r6e7, Stab.eqv ?r6e8, Stab.eqv ?r6e9, Stab.eqv ?r6e10, Stab.eqv ?r6e11] rfl (by kernel_rfl) rfl (by kernel_rfl) (fun ⟨_, _, h⟩ => (by obtain ⟨_, _, h', _⟩ := h; cases h')) (by kernel_rfl) (by kernel_rfl) (fun us => by simp only [Stab.putAll, Act.put, List.setIfInBounds_toArray, List.set_cons_zero, List.set_cons_succ]; rfl) (HRD.out.ext (Stab.Ext.drew _)) (fun _ _ h hE => h.ext hE) ?goals6 ?last6
  case goals6 =>
   simp only [List.take_succ_cons, List.take_zero]
   iterate 6
    refine Stab.gp (fun us w _ hE hS hp hK => ?_) ?_
    ·((try have e0 : _ = _ := hp.1); (try have e1 : _ = _ := hp.2.1); (try have e2 : _ = _ := hp.2.2.1); have d0 := hS.c0; have d1 := hS.c1; have d2 := hS.c2; have d3 := hS.i1.cell; have d4 := hS.i2.cell; go_simp; exact hK _ _ (by show _ = _; with_reducible rfl) (Stab.Ext.refl _))
   refine Stab.Goals.plain rfl rfl (fun us w cK hE hS hp hK => ?_) ?_
   ·obtain ⟨h3, h4, h5, -⟩ := hp
    replace h3 : us 3 = _ := h3
    replace h4 : us 4 = _ := h4
    replace h5 : us 5 = _ := h5
    go_simp
    go_wp2_with (go_at_call 63; ((with_reducible refine (HDEC.out _ hS).mono ?_); rintro e w1 ⟨rfl, hb⟩))
    refine hK _ _ ?_ hb
    show _ = _
    with_reducible rfl
   iterate 5
    refine Stab.gp (fun us w _ hE hS hp hK => ?_) ?_
    ·((try have e0 : _ = _ := hp.1); (try have e1 : _ = _ := hp.2.1); (try have e2 : _ = _ := hp.2.2.1); have d0 := hS.c0; have d1 := hS.c1; have d2 := hS.c2; have d3 := hS.i1.cell; have d4 := hS.i2.cell; go_simp; exact hK _ _ (by show _ = _; with_reducible rfl) (Stab.Ext.refl _))
   exact Stab.Goals.nil
  case last6 =>
   intro us W6 hE6 hS hp
   obtain ⟨h10, h11, -⟩ := hp
   replace h10 : us 10 = _ := h10
   replace h11 : us 11 = _ := h11
   have HRD6 := Lib.hid hS
   have HE6 := Lib.hid ((Stab.Ext.drew W).trans hE6)
   clear hS hE6
   cases hf : Cod.foundF k n hl pl with
   | inl er =>
     have hz : (((er : Nat) : Int) == 0) = false := by rcases Cod.foundF_err hf with rfl | rfl <;> rfl
     rw [hf] at h10 h11
     simp only [List.drop_succ_cons, List.drop_nil, List.drop_zero, h10, h11, decS, decE]
     refine wpList_nil ?_
     have HFF := Lib.hid hf
     clear hf h10 h11
     gi_wp2_with fail
     refine Stab.wpIn_region_stable 16 53 [some 40, some 41, some 42, some 43, some 44, some 45, some 46, some 47, some 48, some 49, some 50, some 51, some 52, none, none, some 4] [[], [], [], [2], [3], [4], [5, 4], [4], [7, 4], [8, 4], [9, 4], [6, 10, 4], [4, 11], [0], [1], [12]] [15] (DRd w.heap.size B k n d (.slice A1 hl.length c1) (.slice A2 pl.length c2) hl pl) [Stab.eqv ?r7xe0, Stab.eqv ?r7xe1, Stab.eqv ?r7xe2, Stab.eqv ?r7xe3, Stab.eqv ?r7xe4, Stab.eqv ?r7xe5, Stab.eqv ?r7xe6, Stab.eqv ?r7xe7, Stab.eqv ?r7xe8, Stab.eqv ?r7xe9, Stab.eqv ?r7xe10, Stab.eqv ?r7xe11, Stab.eqv ?r7xe12, Stab.anyv, Stab.anyv, Stab.eqv ?r7xe15] rfl (by kernel_rfl) rfl (by kernel_rfl) (fun ⟨_, _, h⟩ => (by obtain ⟨_, _, h', _⟩ := h; cases h')) (by kernel_rfl) (by kernel_rfl) (fun us => by simp only [Stab.putAll, Act.put, List.setIfInBounds_toArray, List.set_cons_zero, List.set_cons_succ]; rfl) (HRD6.out.ext (Stab.Ext.drew _)) (fun _ _ h hE => h.ext hE) ?goals7x ?last7x
     case goals7x =>
      simp only [List.take_succ_cons, List.take_zero]
      iterate 5
       refine Stab.gp (fun us w _ hE hS hp hK => ?_) ?_
       ·((try have e0 : _ = _ := hp.1); (try have e1 : _ = _ := hp.2.1); (try have e2 : _ = _ := hp.2.2.1); have d0 := hS.c0; have d1 := hS.c3; have d3 := hS.i1.cell; have d4 := hS.i2.cell; go_simp; exact hK _ _ (by show _ = _; with_reducible rfl) (Stab.Ext.refl _))
      iterate 7
       refine Stab.gs (fun us w _ hE hS hp hK => ?_) ?_
       ·((try have e0 : _ = _ := hp.1); (try have e1 : _ = _ := hp.2.1); (try have e2 : _ = _ := hp.2.2.1); exact ⟨(by first | exact e0 | exact e1 | exact e2), hK _ _ (by show _ = _; with_reducible rfl) (Stab.Ext.refl _)⟩)
      refine Stab.gp (fun us w _ hE hS hp hK => ?_) ?_
      ·((try have e0 : _ = _ := hp.1); (try have e1 : _ = _ := hp.2.1); (try have e2 : _ = _ := hp.2.2.1); have d0 := hS.c0; have d1 := hS.c3; have d3 := hS.i1.cell; have d4 := hS.i2.cell; go_simp; exact hK _ _ (by show _ = _; with_reducible rfl) (Stab.Ext.refl _))
      refine Stab.Goals.store rfl rfl (fun us w cK hE hS hp hK => ?_) ?_
      ·obtain ⟨h0, -⟩ := hp
       replace h0 : us 0 = _ := h0
       have d3 := hS.i1.cell
       have z3 := hS.i1.frozen
       go_simp
       exact hK _ _ trivial (Stab.ext_same hS.i1)
      refine Stab.Goals.store rfl rfl (fun us w cK hE hS hp hK => ?_) ?_
      ·obtain ⟨h1, -⟩ := hp
       replace h1 : us 1 = _ := h1
       have d4 := hS.i2.cell
       have z4 := hS.i2.frozen
       go_simp
       exact hK _ _ trivial (Stab.ext_same hS.i2)
      refine Stab.gp (fun us w _ hE hS hp hK => ?_) ?_
      ·((try have e0 : _ = _ := hp.1); (try have e1 : _ = _ := hp.2.1); (try have e2 : _ = _ := hp.2.2.1); go_simp; exact hK _ _ (by show _ = _; with_reducible rfl) (Stab.Ext.refl _))
      exact Stab.Goals.nil
     case last7x =>
      intro vs W7 hE7 hS hp
      obtain ⟨h15', -⟩ := hp
      replace h15' : vs 15 = _ := h15'
      simp only [List.drop_succ_cons, List.drop_nil, List.drop_zero, h15']
      refine wpList_nil ?_
      have HE7 := Lib.hid ((HE6.out.trans (Stab.Ext.drew W6)).trans hE7)
      have HS7 := Lib.hid hS
      clear hE7 hS
      gi_wp2_with fail
      have hK7 : W7.heap[D]? = some (.deferred (some [])) := (HE7.out.block D (Array.getElem?_eq_some_iff.1 HDK.out).1).trans HDK.out
      refine ⟨by simp, .inl ⟨_, _, rfl, run_takeDeferred hK7, ?_⟩⟩
      have hne1 : D ≠ w.heap.size + 1 := by omega
      have hne2 : D ≠ w.heap.size + 2 := by omega
      have d3 : ∀ o, (W7.putObj D o).cell? ⟨w.heap.size + 1, 0, none⟩ = some (.slice A1 hl.length c1) := fun o => (World.cell?_of_block (World.putObj_heap_other (Ne.symm hne1))).trans HS7.out.i1.cell
      have d4 : ∀ o, (W7.putObj D o).cell? ⟨w.heap.size + 2, 0, none⟩ = some (.slice A2 pl.length c2) := fun o => (World.cell?_of_block (World.putObj_heap_other (Ne.symm hne2))).trans HS7.out.i2.cell
      refine ⟨.tuple #[.slice A1 hl.length c1, .slice A2 pl.length c2, .bool false], ?_, ?_⟩
      ·have hres : Tryz.f47.results = #[ResultVar.cell 2 54, ResultVar.cell 3 60, ResultVar.tmp 4] := rfl
       have d3' := d3 (.deferred none)
       have d4' := d4 (.deferred none)
       clear d3 d4 HE6 HE7 HRD6 HS7 HJ5 HRD hs5 hlow hW5 x0 x1 x2 b3 b4 hE5
       generalize W7.putObj D (.deferred none) = W8 at *
       simp only [results, hres, List.mapM_toArray, List.mapM_cons, List.mapM_nil]
       go_simp
      ·have hf1 : Fr [] w W := (Fr.of_below (O := []) hE5).trans HJ5.out fun y hy hl => by simp only [List.mem_cons, List.not_mem_nil, or_false] at hy; omega
       have hf2 : Fr [] w W7 := hf1.trans (Fr.of_below (O := []) HE7.out) (by simp)
       have hf3 : ∀ o, Fr [] w (W7.putObj D o) := fun o => hf2.trans (O' := [D]) ⟨rfl, rfl, rfl, by simp [World.putObj], fun y hy hn => World.putObj_heap_other (by simpa using fun he : y = D => hn (by simp [he]))⟩ fun y hy hl => by simp only [List.mem_singleton] at hy; omega
       refine ⟨.slice A1 hl.length c1, .slice A2 pl.length c2, ?_, ?_, ?_, (hf3 _).below, HOG.out⟩
       ·unfold toldL
        rw [hHL, hPL, HFF.out]
       ·rw [hHL]; exact ints_put HS7.out.ints hK7 rfl _
       ·rw [hPL]; exact strs_put HS7.out.strs hK7 rfl _
   | inr p =>
     have hlen : p.1.length ≤ 32768 := found_len hf
     have HSUM := Lib.hid (fun W : World => show Calls Tryz.prog 33 #[.string ⟨p.1.toArray⟩] W fun e w' => e = .returned (.string ⟨(Shd.sumL p.1).toArray⟩) ∧ Below W.heap.size W w' from Sha.sum_any ⟨p.1.toArray⟩ (by show p.1.length ≤ _; omega) W)
     rw [hf] at h10 h11
     simp only [List.drop_succ_cons, List.drop_nil, List.drop_zero, h10, h11, decS, decE]
     refine wpList_nil ?_
     have HFF := Lib.hid hf
     clear hf h10 h11
     gi_wp2_with fail
     refine Stab.wpIn_region_stable 16 53 [some 40, some 41, some 42, some 43, some 44, some 45, some 46, some 47, some 48, some 49, some 50, some 51, some 52, none, none, some 4] [[], [], [], [2], [3], [4], [5, 4], [4], [7, 4], [8, 4], [9, 4], [6, 10, 4], [4, 11], [0], [1], [12]] [15] (DRd w.heap.size B k n d (.slice A1 hl.length c1) (.slice A2 pl.length c2) hl pl) [Stab.eqv ?r7ye0, Stab.eqv ?r7ye1, Stab.eqv ?r7ye2, Stab.eqv ?r7ye3, Stab.eqv ?r7ye4, Stab.eqv ?r7ye5, Stab.eqv ?r7ye6, Stab.eqv ?r7ye7, Stab.eqv ?r7ye8, Stab.eqv ?r7ye9, Stab.eqv ?r7ye10, Stab.eqv ?r7ye11, Stab.eqv ?r7ye12, Stab.anyv, Stab.anyv, Stab.eqv ?r7ye15] rfl (by kernel_rfl) rfl (by kernel_rfl) (fun ⟨_, _, h⟩ => (by obtain ⟨_, _, h', _⟩ := h; cases h')) (by kernel_rfl) (by kernel_rfl) (fun us => by simp only [Stab.putAll, Act.put, List.setIfInBounds_toArray, List.set_cons_zero, List.set_cons_succ]; rfl) (HRD6.out.ext (Stab.Ext.drew _)) (fun _ _ h hE => h.ext hE) ?goals7y ?last7y
     case goals7y =>
      simp only [List.take_succ_cons, List.take_zero]
      iterate 5
       refine Stab.gp (fun us w _ hE hS hp hK => ?_) ?_
       ·((try have e0 : _ = _ := hp.1); (try have e1 : _ = _ := hp.2.1); (try have e2 : _ = _ := hp.2.2.1); have d0 := hS.c0; have d1 := hS.c3; have d3 := hS.i1.cell; have d4 := hS.i2.cell; go_simp; exact hK _ _ (by show _ = _; with_reducible rfl) (Stab.Ext.refl _))
      refine Stab.gt (fun us w _ hE hS hp hK => ?_) ?_
      ·((try have e0 : _ = _ := hp.1); (try have e1 : _ = _ := hp.2.1); (try have e2 : _ = _ := hp.2.2.1); refine ⟨(by first | exact e0 | exact e1 | exact e2), ?_⟩; have d0 := hS.c0; have d1 := hS.c3; have d3 := hS.i1.cell; have d4 := hS.i2.cell; go_simp; exact hK _ _ (by show _ = _; with_reducible rfl) (Stab.Ext.refl _))
      refine Stab.Goals.guarded rfl rfl (fun us w cK hE hS hp hK => ?_) ?_
      ·obtain ⟨h5, h4, -⟩ := hp
       replace h5 : us 5 = _ := h5
       replace h4 : us 4 = _ := h4
       refine ⟨_, h4, fun _ => ?_, fun h => absurd rfl h⟩
       go_simp
       go_wp2_with (go_at_call 33; ((with_reducible refine (HSUM.out _).mono ?_); rintro e w1 ⟨rfl, hb⟩))
       refine hK _ _ ?_ hb
       show _ = _
       with_reducible rfl
      iterate 5
       refine Stab.gt (fun us w _ hE hS hp hK => ?_) ?_
       ·((try have e0 : _ = _ := hp.1); (try have e1 : _ = _ := hp.2.1); (try have e2 : _ = _ := hp.2.2.1); refine ⟨(by first | exact e0 | exact e1 | exact e2), ?_⟩; have d0 := hS.c0; have d1 := hS.c3; have d3 := hS.i1.cell; have d4 := hS.i2.cell; go_simp; exact hK _ _ (by show _ = _; with_reducible rfl) (Stab.Ext.refl _))
      refine Stab.gp (fun us w _ hE hS hp hK => ?_) ?_
      ·((try have e0 : _ = _ := hp.1); (try have e1 : _ = _ := hp.2.1); (try have e2 : _ = _ := hp.2.2.1); have d0 := hS.c0; have d1 := hS.c3; have d3 := hS.i1.cell; have d4 := hS.i2.cell; go_simp; exact hK _ _ (by show _ = _; with_reducible rfl) (Stab.Ext.refl _))
      refine Stab.Goals.store rfl rfl (fun us w cK hE hS hp hK => ?_) ?_
      ·obtain ⟨h0, -⟩ := hp
       replace h0 : us 0 = _ := h0
       have d3 := hS.i1.cell
       have z3 := hS.i1.frozen
       go_simp
       exact hK _ _ trivial (Stab.ext_same hS.i1)
      refine Stab.Goals.store rfl rfl (fun us w cK hE hS hp hK => ?_) ?_
      ·obtain ⟨h1, -⟩ := hp
       replace h1 : us 1 = _ := h1
       have d4 := hS.i2.cell
       have z4 := hS.i2.frozen
       go_simp
       exact hK _ _ trivial (Stab.ext_same hS.i2)
      refine Stab.gp (fun us w _ hE hS hp hK => ?_) ?_
      ·((try have e0 : _ = _ := hp.1); (try have e1 : _ = _ := hp.2.1); (try have e2 : _ = _ := hp.2.2.1); go_simp; exact hK _ _ (by show _ = _; with_reducible rfl) (Stab.Ext.refl _))
      exact Stab.Goals.nil
     case last7y =>
      intro vs W7 hE7 hS hp
      obtain ⟨h15', -⟩ := hp
      replace h15' : vs 15 = _ := h15'
      simp only [List.drop_succ_cons, List.drop_nil, List.drop_zero, h15']
      refine wpList_nil ?_
      have HE7 := Lib.hid ((HE6.out.trans (Stab.Ext.drew W6)).trans hE7)
      have HS7 := Lib.hid hS
      clear hE7 hS
      gi_wp2_with fail
      have hK7 : W7.heap[D]? = some (.deferred (some [])) := (HE7.out.block D (Array.getElem?_eq_some_iff.1 HDK.out).1).trans HDK.out
      refine ⟨by simp, .inl ⟨_, _, rfl, run_takeDeferred hK7, ?_⟩⟩
      have hne1 : D ≠ w.heap.size + 1 := by omega
      have hne2 : D ≠ w.heap.size + 2 := by omega
      have d3 : ∀ o, (W7.putObj D o).cell? ⟨w.heap.size + 1, 0, none⟩ = some (.slice A1 hl.length c1) := fun o => (World.cell?_of_block (World.putObj_heap_other (Ne.symm hne1))).trans HS7.out.i1.cell
      have d4 : ∀ o, (W7.putObj D o).cell? ⟨w.heap.size + 2, 0, none⟩ = some (.slice A2 pl.length c2) := fun o => (World.cell?_of_block (World.putObj_heap_other (Ne.symm hne2))).trans HS7.out.i2.cell
      refine ⟨.tuple #[.slice A1 hl.length c1, .slice A2 pl.length c2, .bool (Shd.sumL p.fst == d.toList)], ?_, ?_⟩
      ·have hres : Tryz.f47.results = #[ResultVar.cell 2 54, ResultVar.cell 3 60, ResultVar.tmp 4] := rfl
       have d3' := d3 (.deferred none)
       have d4' := d4 (.deferred none)
       clear d3 d4 HE6 HE7 HRD6 HS7 HJ5 HRD hs5 hlow hW5 x0 x1 x2 b3 b4 hE5
       generalize W7.putObj D (.deferred none) = W8 at *
       simp only [results, hres, List.mapM_toArray, List.mapM_cons, List.mapM_nil]
       go_simp
      ·have hf1 : Fr [] w W := (Fr.of_below (O := []) hE5).trans HJ5.out fun y hy hl => by simp only [List.mem_cons, List.not_mem_nil, or_false] at hy; omega
       have hf2 : Fr [] w W7 := hf1.trans (Fr.of_below (O := []) HE7.out) (by simp)
       have hf3 : ∀ o, Fr [] w (W7.putObj D o) := fun o => hf2.trans (O' := [D]) ⟨rfl, rfl, rfl, by simp [World.putObj], fun y hy hn => World.putObj_heap_other (by simpa using fun he : y = D => hn (by simp [he]))⟩ fun y hy hl => by simp only [List.mem_singleton] at hy; omega
       refine ⟨.slice A1 hl.length c1, .slice A2 pl.length c2, ?_, ?_, ?_, (hf3 _).below, HOG.out⟩
       ·unfold toldL
        rw [hHL, hPL, HFF.out]
        simp only [told_eq]
       ·rw [hHL]; exact ints_put HS7.out.ints hK7 rfl _
       ·rw [hPL]; exact strs_put HS7.out.strs hK7 rfl _
 case stop =>
  rintro D c pre W _ _ h _
  exact h.elim
end Hlt
end Go.Proofs.YtnbkhdbligjifaaGreatDoor
