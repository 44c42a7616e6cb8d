/-
 The stripe package: store by store a shard is asked for (each), whatever is done with what was got.
-/
import Derived.Test.YtnbkhdbligjifaaGreatDoorStrA
import Derived.Test.YtnbkhdbligjifaaGreatDoorShdRead
set_option linter.unusedVariables false
set_option linter.unusedSimpArgs false
set_option maxRecDepth 100000
set_option maxHeartbeats 40000000
namespace Go.Proofs.YtnbkhdbligjifaaGreatDoor
open Go Go.RowKit Vm
namespace Str
open Hlt
def getsP (p : PW) : Nat → PW
 | 0 => p
 | q + 1 => getP (getsP p q) q
def saysO (p : PW) (d : ByteArray) (q : Nat) : ByteArray × Int := wgetO (getsP p q) q (nmB d q)
noncomputable def gotN (p : PW) (d : ByteArray) (k n : Int) (q : Nat) : Got := gotOf (nmL d q) (saysO p d q) k n
def cutN (p : PW) (d : ByteArray) (q : Nat) : Bool := (saysO p d q).2 == 56
def eachF (cut more : Nat → Bool) : Nat → Nat → Bool × Nat
 | 0, q => (false, q)
 | m + 1, q => if cut q = true then (true, q) else if more q = true then eachF cut more m (q + 1) else (false, q + 1)
def RdP (d : ByteArray) (q : Nat) (xd : ByteArray) (k n : Int) (w : World) (e : Ending) (w' : World) : Prop :=
 ((∃ (K N : Int) (pay : ByteArray), e = .returned (.tuple #[.agg #[.int .i64 K, .int .i64 N, .string d, .int .i64 (q : Int), .string pay], .int .i64 0]) ∧ gotOf (nmL d q) (xd, 0) k n = ⟨K == k && N == n, true, pay⟩) ∨
   (e = .returned (.tuple #[.agg #[.int .i64 0, .int .i64 0, .string ⟨#[]⟩, .int .i64 0, .string ⟨#[]⟩], .int .i64 4]) ∧ gotOf (nmL d q) (xd, 0) k n = ⟨false, true, ⟨#[]⟩⟩)) ∧ Below w.heap.size w w'
theorem rd_any (d : ByteArray) (q : Nat) (xd : ByteArray) (k n : Int) (w : World) (hv : Shd.Vars w) : Calls Tryz.prog 65 #[.agg #[.string (nmB d q), .string xd]] w (RdP d q xd k n w) := by
 refine (Shd.read_any (nmB d q) xd w hv).mono ?_
 rintro e w' ⟨hr, hb⟩
 have hnm : (nmB d q).data.toList = nmL d q := by simp [nmB]
 rw [hnm] at hr
 refine ⟨?_, hb⟩
 rcases hr with ⟨hl, rfl⟩ | ⟨hl, rfl⟩
 ·left
  obtain ⟨h1, h2⟩ := Shd.name_inj _ _ _ _ hl.2.2.2.2.2.2.2
  refine ⟨(Shd.readS xd.data.toList).K, (Shd.readS xd.data.toList).N, ⟨(Shd.readS xd.data.toList).pay.toArray⟩, ?_, by simp [gotOf, hl]⟩
  show Ending.returned (.tuple #[.agg #[_, _, .string ⟨(Shd.readS xd.data.toList).dig.toArray⟩, .int .i64 (Shd.readS xd.data.toList).idx, _], _]) = _
  rw [← h1, ← h2]
 ·right
  exact ⟨rfl, by simp [gotOf, hl]⟩
structure EInv (w0 : World) (O0 : List Nat) (b : Nat) (k n : Int) (p : PW) (bx : Nat) (I : Nat → List Nat → World → Prop) (q : Nat) (pq : PW) (S O' : List Nat) (wr : World) : Prop where
 st : I q S wr
 wb : WB w0 O0 b pq O' wr
 box : Blk wr bx 25 #[.int .i64 k, .int .i64 n]
 bo : bx ∉ O'
 bs : bx ∉ S
 so : ∀ x, x ∈ S → x ∉ O' ∧ w0.heap.size ≤ x ∧ x < wr.heap.size
section
variable {w0 wr w2 : World} {O0 O' S S' Y : List Nat} {b bx q : Nat} {k n : Int} {p pq p2 : PW} {I : Nat → List Nat → World → Prop}
theorem EInv.aside (hst : ∀ q S W W' Y, I q S W → Fr Y W W' → (∀ y, y ∈ Y → y ∉ S) → I q S W') (h : EInv w0 O0 b k n p bx I q pq S O' wr) (hf : Fr Y wr w2) (hY : ∀ y, y ∈ Y → y ∉ S ∧ y ∉ O' ∧ y ≠ bx ∧ w0.heap.size ≤ y) : EInv w0 O0 b k n p bx I q pq S O' w2 :=
 ⟨hst _ _ _ _ _ h.st hf fun y hy => (hY y hy).1, h.wb.keep hf fun y hy => ⟨(hY y hy).2.1, (hY y hy).2.2.2⟩, hf.blk h.box fun hm => (hY _ hm).2.2.1 rfl, h.bo, h.bs, fun x hx => ⟨(h.so x hx).1, (h.so x hx).2.1, Nat.lt_of_lt_of_le (h.so x hx).2.2 hf.size⟩⟩
theorem EInv.ext (hst : ∀ q S W W' Y, I q S W → Fr Y W W' → (∀ y, y ∈ Y → y ∉ S) → I q S W') (h : EInv w0 O0 b k n p bx I q pq S O' wr) (hE : Stab.Ext wr w2) : EInv w0 O0 b k n p bx I q pq S O' w2 := h.aside hst (Fr.of_below (O := []) hE) (by simp)
theorem EInv.next (hst : ∀ q S W W' Y, I q S W → Fr Y W W' → (∀ y, y ∈ Y → y ∉ S) → I q S W') (h : EInv w0 O0 b k n p bx I q pq S O' wr) {x : Value} {e : Ending} (hp : WPost wr b O' x p2 e w2) : ∃ O3, EInv w0 O0 b k n p bx I q p2 S O3 w2 ∧ Fr O' wr w2 ∧ ∀ y, y ∈ O3 → y ∈ O' ∨ wr.heap.size ≤ y := by
 obtain ⟨O3, h1, h2, h3⟩ := h.wb.next hp
 have hl := h.box.lt
 refine ⟨O3, ⟨hst _ _ _ _ _ h.st h2 fun y hy hs => (h.so y hs).1 hy, h1, h2.blk h.box h.bo, fun hm => ?_, h.bs, fun y hy => ⟨fun hm => ?_, (h.so y hy).2.1, Nat.lt_of_lt_of_le (h.so y hy).2.2 h2.size⟩⟩, h2, h3⟩
 ·rcases h3 _ hm with h4 | h4
  ·exact h.bo h4
  ·omega
 ·rcases h3 _ hm with h4 | h4
  ·exact (h.so y hy).1 h4
  ·have := (h.so y hy).2.2; omega
theorem EInv.on (h : EInv w0 O0 b k n p bx I q pq S O' wr) (hi : I (q + 1) S' w2) (hf : Fr S wr w2) (hS : ∀ x, x ∈ S' → x ∈ S ∨ wr.heap.size ≤ x) (hl : ∀ x, x ∈ S' → x < w2.heap.size) : EInv w0 O0 b k n p bx I (q + 1) pq S' O' w2 := by
 have hb := h.box.lt
 refine ⟨hi, h.wb.keep hf fun x hx => ⟨(h.so x hx).1, (h.so x hx).2.1⟩, hf.blk h.box h.bs, h.bo, fun hm => ?_, fun x hx => ?_⟩
 ·rcases hS _ hm with h4 | h4
  ·exact h.bs h4
  ·omega
 ·rcases hS x hx with h4 | h4
  ·exact ⟨(h.so x h4).1, (h.so x h4).2.1, hl x hx⟩
  ·exact ⟨fun hm => by have := h.wb.lt x hm; omega, Nat.le_trans h.wb.fr.size h4, hl x hx⟩
end
def OnP (I : Nat → List Nat → World → Prop) (more : Nat → Bool) (q : Nat) (S : List Nat) (w : World) (e : Ending) (w' : World) : Prop :=
 e = .returned (.bool (more q)) ∧ ∃ S', I (q + 1) S' w' ∧ Fr S w w' ∧ (∀ x, x ∈ S' → x ∈ S ∨ w.heap.size ≤ x) ∧ ∀ x, x ∈ S' → x < w'.heap.size
def OnQ (w0 : World) (O0 : List Nat) (b : Nat) (k n : Int) (p : PW) (bx : Nat) (I : Nat → List Nat → World → Prop) (more : Nat → Bool) (q : Nat) (pq : PW) (O' : List Nat) (e : Ending) (w' : World) : Prop :=
 e = .returned (.bool (more q)) ∧ ∃ S', EInv w0 O0 b k n p bx I (q + 1) pq S' O' w'
theorem onq_of {w0 wr w2 : World} {O0 O' S : List Nat} {b bx q : Nat} {k n : Int} {p pq : PW} {I : Nat → List Nat → World → Prop} {more : Nat → Bool} {e : Ending} (h : EInv w0 O0 b k n p bx I q pq S O' wr) (ho : OnP I more q S wr e w2) : OnQ w0 O0 b k n p bx I more q pq O' e w2 := by
 obtain ⟨h1, S', h2, h3, h4, h5⟩ := ho
 exact ⟨h1, S', h.on h2 h3 h4 h5⟩
theorem fr5 (w : World) (g : Nat) (v0 v1 v2 v3 v4 : Value) : Fr [g] w (((((w.setCell ⟨g, 0, none⟩ v0).setCell ⟨g, 1, none⟩ v1).setCell ⟨g, 2, none⟩ v2).setCell ⟨g, 3, none⟩ v3).setCell ⟨g, 4, none⟩ v4) :=
 ((((Fr.cell w ⟨g, 0, none⟩ v0).next (Fr.cell _ ⟨g, 1, none⟩ v1)).next (Fr.cell _ ⟨g, 2, none⟩ v2)).next (Fr.cell _ ⟨g, 3, none⟩ v3)).next (Fr.cell _ ⟨g, 4, none⟩ v4)
def EachP (w0 : World) (O0 : List Nat) (b : Nat) (p : PW) (I : Nat → List Nat → World → Prop) (c : Bool) (q : Nat) (e : Ending) (w' : World) : Prop :=
 e = .returned (.int .i64 (if c = true then 56 else 0)) ∧ ∃ S O', I q S w' ∧ WB w0 O0 b (getsP p (if c = true then q + 1 else q)) O' w' ∧ ∀ x, x ∈ S → x ∉ O' ∧ w0.heap.size ≤ x ∧ x < w'.heap.size
theorem each_any {w0 w : World} {b : Nat} {p : PW} {O0 O S : List Nat} (h : WB w0 O0 b p O w) (hO : Far O0) (hv : Shd.Vars w0) (k n : Nat) (hn : n ≤ 12) (d : ByteArray) (hd : d.size = 32) {f : FuncId} {caps : Array Value} (hcf : ∀ (args : Array Value) (W : World), (callFunc f args).run Tryz.prog W = .ok (.enter f args) W)
 (I : Nat → List Nat → World → Prop) (more : Nat → Bool) (hst : ∀ q S W W' Y, I q S W → Fr Y W W' → (∀ y, y ∈ Y → y ∉ S) → I q S W') (h0 : I 0 S w) (hS : ∀ x, x ∈ S → x ∉ O ∧ w0.heap.size ≤ x ∧ x < w.heap.size)
 (hon : ∀ q S W, q < n → I q S W → (∀ x, x ∈ S → x < W.heap.size) → Calls Tryz.prog f (#[.int .i64 (q : Int), .string (gotN p d k n q).pay, .bool (gotN p d k n q).sound] ++ caps) W (OnP I more q S W)) :
 Calls Tryz.prog 61 #[.pointer (some ⟨b, 0, none⟩), .agg #[.int .i64 (k : Int), .int .i64 (n : Int)], .string d, .func (.func f) #[] caps] w (EachP w0 O0 b p I (eachF (cutN p d) more n 0).1 (eachF (cutN p d) more n 0).2) := by
 have hE0 := Stab.Ext.alloc w (.cells #[.int .i64 (k : Int), .int .i64 (n : Int)] 25)
 have bx := Blk.new w 25 #[.int .i64 (k : Int), .int .i64 (n : Int)]
 have c1 := bx.cell 1
 simp only [List.getElem?_toArray, List.getElem?_cons_zero, List.getElem?_cons_succ] at c1
 have HI0 := Lib.hid (show EInv w0 O0 b k n p w.heap.size I 0 p S O (w.alloc (.cells #[.int .i64 (k : Int), .int .i64 (n : Int)] 25)) from
  ⟨hst _ _ _ _ [] h0 (Fr.of_below hE0) (by simp), h.ext hE0, bx, fun hm => by have := h.lt _ hm; omega, fun hm => by have := (hS _ hm).2.2; omega, fun x hx => ⟨(hS x hx).1, (hS x hx).2.1, Nat.lt_of_lt_of_le (hS x hx).2.2 hE0.size⟩⟩)
 have HST := Lib.hid hst
 have HCF := Lib.hid hcf
 have HON := Lib.hid hon
 have HV := Lib.hid hv
 have HO := Lib.hid hO
 have HE := Lib.hid (show (eachF (cutN p d) more n 0).1 = (eachF (cutN p d) more n 0).1 ∧ (eachF (cutN p d) more n 0).2 = (eachF (cutN p d) more n 0).2 from ⟨rfl, rfl⟩)
 clear h hO hv hst h0 hS hon hE0 bx hcf
 go_enter Tryz.func61, Tryz.ntmps61
 go_wp2_with fail
 generalize w.heap.size = bxn at *
 generalize w.alloc (.cells #[.int .i64 (k : Int), .int .i64 (n : Int)] 25) = w1 at *
 go_loopw [17] (fun i wr => ∃ (q : Nat) (S' O' : List Nat), q ≤ n ∧ i = .int .i64 (q : Int) ∧ EInv w0 O0 b k n p bxn I q (getsP p q) S' O' wr ∧ eachF (cutN p d) more n 0 = eachF (cutN p d) more (n - q) q) (fun i _ => n - (intOf i).toNat)
 case atStart => exact ⟨0, S, O, by omega, rfl, HI0.out, by rw [Nat.sub_zero]⟩
 case round =>
  obtain ⟨q, S', O', hq, rfl, hI, hE⟩ := hrel
  by_cases hlt : q < n
  ·have hlt2 : (q : Int) < (n : Int) := by omega
   rw [show n - q = (n - (q + 1)) + 1 by omega, eachF] at hE
   have HVV := Lib.hid (vars_fr HV.out hI.wb.fr HO.out)
   have HNM := Lib.hid (show ∀ W, Stab.Ext wr W → Calls Tryz.prog 19 #[.string d, .int .i64 (q : Int)] W fun e w' => e = .returned (.string (nmB d q)) ∧ Below W.heap.size W w' from fun W hW => Shd.name_any d (by omega) (q : Int) ⟨by omega, by omega⟩ W (HVV.out.below hW))
   have HGET := Lib.hid (fun W (hE : Stab.Ext wr W) => (show Calls _ _ _ _ (WPost W b O' (.tuple #[.string (saysO p d q).1, .int .i64 (saysO p d q).2]) (getsP p (q + 1))) from wget_any (hI.wb.ext hE).at_ (q : Int) (nmB d q)))
   have HGN := Lib.hid (show gotN p d k n q = gotOf (nmL d q) (saysO p d q) k n from rfl)
   have HCUT := Lib.hid (show cutN p d q = ((saysO p d q).2 == 56) from rfl)
   have HONQ := Lib.hid (HON.out q)
   have HI := Lib.hid hI
   have HEE := Lib.hid hE
   generalize saysO p d q = xo at *
   obtain ⟨x, er⟩ := xo
   simp only at HGET HCUT
   have l0 := hI.box.cell 0
   have l1 := hI.box.cell 1
   simp only [List.getElem?_toArray, List.getElem?_cons_zero, List.getElem?_cons_succ] at l0 l1
   clear hI hE
   go_wp2_with (go_at_call 19; with_reducible refine (HNM.out _ (Stab.Ext.refl _)).mono ?_)
   rintro e w2 ⟨rfl, hb2⟩
   have HX2 := Lib.hid (show Stab.Ext wr w2 from hb2)
   clear hb2
   go_wp2_with (go_at_call 85; with_reducible refine (HGET.out _ HX2.out).mono ?_)
   intro e w3 hq3
   obtain ⟨O3, hI3, hf3, hk3⟩ := (HI.out.ext HST.out HX2.out).next HST.out hq3
   obtain ⟨rfl, -⟩ := hq3
   have HI3 := Lib.hid hI3
   have m0 := hI3.box.cell 0
   have m1 := hI3.box.cell 1
   simp only [List.getElem?_toArray, List.getElem?_cons_zero, List.getElem?_cons_succ] at m0 m1
   have HV3 := Lib.hid (vars_fr HV.out hI3.wb.fr HO.out)
   clear hI3 hf3 hk3 HGET HNM
   by_cases h56 : er = 56
   ·subst h56
    have he := HEE.out.trans (if_pos (by rw [HCUT.out]; rfl))
    have HR := Lib.hid he
    clear he
    go_wp2_with fail
    go_ret
    rw [HR.out]
    exact ⟨rfl, S', O3, HI3.out.st, HI3.out.wb, HI3.out.so⟩
   ·have hcut : cutN p d q = false := by rw [HCUT.out]; simpa using h56
    have HE2 := Lib.hid (HEE.out.trans (if_neg (by rw [hcut]; exact Bool.false_ne_true)))
    clear HEE HCUT hcut
    by_cases h0 : er = 0
    ·subst h0
     have HRD := Lib.hid (rd_any d q x k n (w3.alloc (.cells #[.int .i64 0, .int .i64 0, .string ⟨#[]⟩, .int .i64 0, .string ⟨#[]⟩] 84)) (HV3.out.alloc _))
     go_wp2_with (go_at_call 65; with_reducible refine HRD.out.mono ?_)
     rintro e w4 ⟨hr, hb4⟩
     have bz := (Blk.new w3 84 #[.int .i64 0, .int .i64 0, .string ⟨#[]⟩, .int .i64 0, .string ⟨#[]⟩]).below hb4 (Blk.new w3 84 #[.int .i64 0, .int .i64 0, .string ⟨#[]⟩, .int .i64 0, .string ⟨#[]⟩]).lt
     have hX4 : Stab.Ext w3 w4 := (Stab.Ext.alloc w3 (.cells #[.int .i64 0, .int .i64 0, .string ⟨#[]⟩, .int .i64 0, .string ⟨#[]⟩] 84)).trans hb4
     have z0 := bz.cell 0
     have z1 := bz.cell 1
     have z2 := bz.cell 2
     have z3 := bz.cell 3
     have z4 := bz.cell 4
     have y0 := bz.frozen 0
     have y1 := bz.frozen 1
     have y2 := bz.frozen 2
     have y3 := bz.frozen 3
     have y4 := bz.frozen 4
     have l3 := bz.lt
     simp only [List.getElem?_toArray, List.getElem?_cons_zero, List.getElem?_cons_succ] at z0 z1 z2 z3 z4
     have n0 := hX4.cell m0
     have n1 := hX4.cell m1
     have hbxl := lt_cell m0
     have HI4 := Lib.hid (HI3.out.ext HST.out hX4)
     have hbne : bxn ≠ w3.heap.size := by omega
     have HF4 := Lib.hid (show ∀ W, Fr [w3.heap.size] w4 W → EInv w0 O0 b k n p bxn I q (getsP p (q + 1)) S' O3 W from fun W hf => HI4.out.aside HST.out hf fun y hy => by
      simp only [List.mem_singleton] at hy
      subst hy
      exact ⟨fun hm => by have := (HI3.out.so _ hm).2.2; omega, fun hm => by have := HI3.out.wb.lt _ hm; omega, fun e => hbne e.symm, HI3.out.wb.fr.size⟩)
     clear hb4 hX4 bz HRD
     have HONX := Lib.hid (fun (W : World) (hf : Fr [w3.heap.size] w4 W) => (HONQ.out S' W hlt (HF4.out W hf).st (fun x hx => ((HF4.out W hf).so x hx).2.2)).mono (R' := OnQ w0 O0 b k n p bxn I more q (getsP p (q + 1)) O3) (fun e w' h => onq_of (HF4.out W hf) h))
     clear HONQ HF4
     rcases hr with ⟨K, N, pay, rfl, hg⟩ | ⟨rfl, hg⟩
     ·rw [hg] at HGN
      rw [HGN.out] at HONX
      simp only at HONX
      by_cases hK : K = k
      ·by_cases hN : N = n
       ·have hKb : (K == (k : Int)) = true := by simp [hK]
        have hNb : (N == (n : Int)) = true := by simp [hN]
        rw [hKb, hNb] at HONX
        clear hg HGN
        go_wp2_with fail
        rw [HCF.out]
        refine Calls.mono (HONX.out _ ?fr) ?_
        case fr => first | rfl | exact fr5 _ _ _ _ _ _ _
        rintro e w6 ⟨rfl, S6, hI6⟩
        have HI6 := Lib.hid hI6
        clear hI6 HONX
        cases hm : more q with
        | true =>
          have HE3 := Lib.hid (HE2.out.trans (if_pos hm))
          clear HE2
          go_wp2_with fail
          go_roundw
          case rel => exact ⟨q + 1, S6, O3, by omega, by go_num, HI6.out, HE3.out⟩
          case measure => simp [intOf]; omega
        | false =>
          have HE3 := Lib.hid (HE2.out.trans (if_neg (by rw [hm]; exact Bool.false_ne_true)))
          clear HE2
          go_wp2_with fail
          go_ret
          rw [HE3.out]
          exact ⟨rfl, S6, O3, HI6.out.st, HI6.out.wb, HI6.out.so⟩
       ·have hKb : (K == (k : Int)) = true := by simp [hK]
        have hNb : (N == (n : Int)) = false := by simp [hN]
        rw [hKb, hNb] at HONX
        clear hg HGN
        go_wp2_with fail
        rw [HCF.out]
        refine Calls.mono (HONX.out _ ?fr) ?_
        case fr => first | rfl | exact fr5 _ _ _ _ _ _ _
        rintro e w6 ⟨rfl, S6, hI6⟩
        have HI6 := Lib.hid hI6
        clear hI6 HONX
        cases hm : more q with
        | true =>
          have HE3 := Lib.hid (HE2.out.trans (if_pos hm))
          clear HE2
          go_wp2_with fail
          go_roundw
          case rel => exact ⟨q + 1, S6, O3, by omega, by go_num, HI6.out, HE3.out⟩
          case measure => simp [intOf]; omega
        | false =>
          have HE3 := Lib.hid (HE2.out.trans (if_neg (by rw [hm]; exact Bool.false_ne_true)))
          clear HE2
          go_wp2_with fail
          go_ret
          rw [HE3.out]
          exact ⟨rfl, S6, O3, HI6.out.st, HI6.out.wb, HI6.out.so⟩
      ·have hKb : (K == (k : Int)) = false := by simp [hK]
       rw [hKb] at HONX
       clear hg HGN
       go_wp2_with fail
       rw [HCF.out]
       refine Calls.mono (HONX.out _ ?fr) ?_
       case fr => first | rfl | exact fr5 _ _ _ _ _ _ _
       rintro e w6 ⟨rfl, S6, hI6⟩
       have HI6 := Lib.hid hI6
       clear hI6 HONX
       cases hm : more q with
       | true =>
         have HE3 := Lib.hid (HE2.out.trans (if_pos hm))
         clear HE2
         go_wp2_with fail
         go_roundw
         case rel => exact ⟨q + 1, S6, O3, by omega, by go_num, HI6.out, HE3.out⟩
         case measure => simp [intOf]; omega
       | false =>
         have HE3 := Lib.hid (HE2.out.trans (if_neg (by rw [hm]; exact Bool.false_ne_true)))
         clear HE2
         go_wp2_with fail
         go_ret
         rw [HE3.out]
         exact ⟨rfl, S6, O3, HI6.out.st, HI6.out.wb, HI6.out.so⟩
     ·rw [hg] at HGN
      rw [HGN.out] at HONX
      simp only at HONX
      clear hg HGN
      go_wp2_with fail
      rw [HCF.out]
      refine Calls.mono (HONX.out _ ?fr) ?_
      case fr => first | rfl | exact fr5 _ _ _ _ _ _ _
      rintro e w6 ⟨rfl, S6, hI6⟩
      have HI6 := Lib.hid hI6
      clear hI6 HONX
      cases hm : more q with
      | true =>
        have HE3 := Lib.hid (HE2.out.trans (if_pos hm))
        clear HE2
        go_wp2_with fail
        go_roundw
        case rel => exact ⟨q + 1, S6, O3, by omega, by go_num, HI6.out, HE3.out⟩
        case measure => simp [intOf]; omega
      | false =>
        have HE3 := Lib.hid (HE2.out.trans (if_neg (by rw [hm]; exact Bool.false_ne_true)))
        clear HE2
        go_wp2_with fail
        go_ret
        rw [HE3.out]
        exact ⟨rfl, S6, O3, HI6.out.st, HI6.out.wb, HI6.out.so⟩
    ·have hg : gotN p d k n q = ⟨false, er == 5, ⟨#[]⟩⟩ := by rw [HGN.out]; simp [gotOf, h0]
     have hX4 := Stab.Ext.alloc w3 (.cells #[.int .i64 0, .int .i64 0, .string ⟨#[]⟩, .int .i64 0, .string ⟨#[]⟩] 84)
     have HI4 := Lib.hid (HI3.out.ext HST.out hX4)
     have HONX := Lib.hid (fun (W : World) (hf : W = w3.alloc (.cells #[.int .i64 0, .int .i64 0, .string ⟨#[]⟩, .int .i64 0, .string ⟨#[]⟩] 84)) => (HONQ.out S' W hlt (by rw [hf]; exact HI4.out.st) (fun x hx => by rw [hf]; exact (HI4.out.so x hx).2.2)).mono (R' := OnQ w0 O0 b k n p bxn I more q (getsP p (q + 1)) O3) (fun e w' h => onq_of (by rw [hf]; exact HI4.out) h))
     rw [hg] at HONX
     simp only at HONX
     clear hg HGN hX4 HONQ
     go_wp2_with fail
     rw [HCF.out]
     refine Calls.mono (HONX.out _ ?fr) ?_
     case fr => first | rfl | exact fr5 _ _ _ _ _ _ _
     rintro e w6 ⟨rfl, S6, hI6⟩
     have HI6 := Lib.hid hI6
     clear hI6 HONX
     cases hm : more q with
     | true =>
       have HE3 := Lib.hid (HE2.out.trans (if_pos hm))
       clear HE2
       go_wp2_with fail
       go_roundw
       case rel => exact ⟨q + 1, S6, O3, by omega, by go_num, HI6.out, HE3.out⟩
       case measure => simp [intOf]; omega
     | false =>
       have HE3 := Lib.hid (HE2.out.trans (if_neg (by rw [hm]; exact Bool.false_ne_true)))
       clear HE2
       go_wp2_with fail
       go_ret
       rw [HE3.out]
       exact ⟨rfl, S6, O3, HI6.out.st, HI6.out.wb, HI6.out.so⟩
  ·have hqe : q = n := by omega
   subst hqe
   rw [Nat.sub_self, eachF] at hE
   have HX := Lib.hid hI
   have HR := Lib.hid hE
   have d1 : ¬ ((q : Int) < (q : Int)) := by omega
   clear hI hE
   go_wp2_with fail
   go_ret
   rw [HR.out]
   exact ⟨rfl, S', O', HX.out.st, HX.out.wb, HX.out.so⟩
end Str
end Go.Proofs.YtnbkhdbligjifaaGreatDoor
