/-
 Plain words for SHA-256: bytes block by block, the filling, the digest. No program is named. Bytes that a slice shows, wherever they lie; an append onto a slice without room. No program is named. The walks of package sha: take, Add, Copy. The walks of package sha: Add, Copy. The walk of package sha: Copy.
-/
import Derived.Test.YtnbkhdbligjifaaGreatDoorShaState
import Derived.Deep.Upon
import Derived.Test.YtnbkhdbligjifaaGreatDoorShaChange
import Derived.Lib.AtoiErrMem
import Derived.Test.YtnbkhdbligjifaaGreatDoorShdName
import Derived.Laws.CopyOwn
set_option linter.unusedVariables false
set_option linter.unusedSimpArgs false
set_option maxRecDepth 100000
set_option maxHeartbeats 40000000
namespace Go.Proofs.YtnbkhdbligjifaaGreatDoor
open Go.RowKit
namespace Sha
def eatF (r : List Int) : Nat → List UInt8 → St → St × List UInt8
 | 0, l, s => (s, l)
 | f + 1, l, s => if 64 ≤ l.length then eatF r f (l.drop 64) (comp r (l.take 64) s) else (s, l)
def eat (r : List Int) (l : List UInt8) (s : St) : St × List UInt8 := eatF r l.length l s
theorem eatF_more (r : List Int) (f g : Nat) (l : List UInt8) (s : St) (h1 : l.length ≤ f) (h2 : l.length ≤ g) : eatF r f l s = eatF r g l s := by
 induction f generalizing g l s with
 | zero =>
   cases g with
   | zero => rfl
   | succ g => rw [eatF, eatF, if_neg (by omega)]
 | succ f ih =>
   cases g with
   | zero => rw [eatF, eatF, if_neg (by omega)]
   | succ g =>
     rw [eatF, eatF]
     by_cases h : 64 ≤ l.length
     ·rw [if_pos h, if_pos h]; exact ih g _ _ (by simp; omega) (by simp; omega)
     ·rw [if_neg h, if_neg h]
theorem eat_step (r : List Int) (l : List UInt8) (s : St) (h : 64 ≤ l.length) : eat r l s = eat r (l.drop 64) (comp r (l.take 64) s) := by
 unfold eat
 obtain ⟨n, hn⟩ : ∃ n, l.length = n + 1 := ⟨l.length - 1, by omega⟩
 rw [hn, eatF, if_pos h]
 exact eatF_more r _ _ _ _ (by simp; omega) (Nat.le_refl _)
theorem eat_end (r : List Int) (l : List UInt8) (s : St) (h : l.length < 64) : eat r l s = (s, l) := by
 unfold eat
 cases hl : l.length with
 | zero => rfl
 | succ n => rw [eatF, if_neg (by omega)]
theorem eat_append (r : List Int) (l m : List UInt8) (s : St) : eat r ((eat r l s).2 ++ m) (eat r l s).1 = eat r (l ++ m) s := by
 induction hn : l.length using Nat.strongRecOn generalizing l s with
 | _ n ih =>
   by_cases h : 64 ≤ l.length
   ·rw [eat_step r l s h, ih (l.drop 64).length (by simp; omega) _ _ rfl, eat_step r (l ++ m) s (by simp; omega)]
    rw [List.drop_append_of_le_length h, List.take_append_of_le_length h]
   ·rw [eat_end r l s (by omega)]
theorem eat_left (r : List Int) (l : List UInt8) (s : St) : (eat r l s).2.length < 64 := by
 induction hn : l.length using Nat.strongRecOn generalizing l s with
 | _ n ih =>
   by_cases h : 64 ≤ l.length
   ·rw [eat_step r l s h]; exact ih (l.drop 64).length (by simp; omega) _ _ rfl
   ·rw [eat_end r l s (by omega)]; show l.length < 64; omega
theorem comp_ok (r : List Int) (b : List UInt8) (s : St) : (comp r b s).ok := addSt_ok _ _
theorem eat_ok (r : List Int) (l : List UInt8) (s : St) (h : s.ok) : (eat r l s).1.ok := by
 induction hn : l.length using Nat.strongRecOn generalizing l s with
 | _ n ih =>
   by_cases hl : 64 ≤ l.length
   ·rw [eat_step r l s hl]; exact ih (l.drop 64).length (by simp; omega) _ _ (comp_ok _ _ _) rfl
   ·rw [eat_end r l s (by omega)]; exact h
def zeros (n : Nat) : Nat := (119 - n % 64) % 64
def lenBytes (n : Nat) : List UInt8 := (List.range 8).map fun i => UInt8.ofNat (n * 8 % 18446744073709551616 / 256 ^ (7 - i))
def pad (n : Nat) : List UInt8 := 128 :: List.replicate (zeros n) 0 ++ lenBytes n
def bytes4 (x : Int) : List UInt8 := (List.range 4).map fun i => UInt8.ofNat (x.toNat / 256 ^ (3 - i))
def stBytes (s : St) : List UInt8 := s.list.flatMap bytes4
theorem stBytes_length (s : St) : (stBytes s).length = 32 := rfl
def digest (r : List Int) (s : St) (l : List UInt8) : List UInt8 := stBytes (eat r (l ++ pad l.length) s).1
end Sha
end Go.Proofs.YtnbkhdbligjifaaGreatDoor
namespace Go.Proofs.YtnbkhdbligjifaaGreatDoor
open Go.RowKit
namespace Sha
def b8 (l : List UInt8) (j : Nat) : Value := .int .u8 (at8 l j)
def RestIs (W : World) (H : Nat) (v : Value) (l : List UInt8) : Prop :=
 ∃ A c, v = .slice A l.length c ∧ l.length ≤ c ∧ ((A = none ∧ c = 0) ∨ ∃ g o, A = some ⟨g, o, none⟩ ∧ g ≠ H ∧ g < W.heap.size ∧ ∀ j, j < l.length → W.cell? ⟨g, o + j, none⟩ = some (b8 l j))
theorem RestIs.nil (W : World) (H : Nat) : RestIs W H (.slice none 0 0) [] := ⟨none, 0, rfl, Nat.le_refl _, .inl ⟨rfl, rfl⟩⟩
theorem RestIs.drewN {W : World} {H : Nat} {v : Value} {l : List UInt8} (h : RestIs W H v l) (n : Nat) : RestIs (W.drewN n) H v l := h
theorem RestIs.keep {W W' : World} {H : Nat} {v : Value} {l : List UInt8} (h : RestIs W H v l) (hk : Keep H W W') (hs : W.heap.size ≤ W'.heap.size) : RestIs W' H v l := by
 obtain ⟨A, c, rfl, hc, h⟩ := h
 refine ⟨A, c, rfl, hc, ?_⟩
 rcases h with h | ⟨g, o, rfl, hg, hlt, hx⟩
 ·exact .inl h
 ·refine .inr ⟨g, o, rfl, hg, by omega, fun j hj => ?_⟩
  rw [← hx j hj]
  exact World.cell?_of_block (a := ⟨g, o + j, none⟩) (hk g hlt hg)
theorem getD_drop (l : List UInt8) (k j : Nat) : at8 (l.drop k) j = at8 l (k + j) := by simp [at8, List.getD, List.getElem?_drop]
section
variable {P : Program} {t e : TypeId}
theorem cells_b8 (l : List UInt8) (j : Nat) (u : Value) (h : (Lib.byteCells l)[j]? = some u) : j < l.length ∧ u = b8 l j := by
 have hj : j < l.length := by
  rcases Nat.lt_or_ge j l.length with h' | h'
  ·exact h'
  ·rw [List.getElem?_eq_none (by rw [Lib.byteCells_length]; exact h')] at h; cases h
 refine ⟨hj, ?_⟩
 simp only [Lib.byteCells, List.getElem?_map, List.getElem?_eq_getElem hj, Option.map_some, Option.some.injEq] at h
 rw [← h, b8, at8, List.getD, List.getElem?_eq_getElem hj]; rfl
theorem one_b8 (l : List UInt8) : ∀ u ∈ Lib.byteCells l, u.oneCell' = true := by
 intro u hu
 obtain ⟨x, _, rfl⟩ := List.mem_map.1 hu
 rfl
theorem src_of (ht : P.underlying t = some (.slice e)) {W : World} {H : Nat} {v : Value} {l : List UInt8} (h : RestIs W H v l) : Src P 1 t v l.length (Lib.byteCells l) W := by
 obtain ⟨A, c, rfl, hc, h⟩ := h
 rcases h with ⟨rfl, rfl⟩ | ⟨g, o, rfl, hg, hlt, hx⟩
 ·obtain rfl : l = [] := List.length_eq_zero_iff.1 (by omega)
  exact Src.ofNil W ht 0
 ·refine Src.ofSlice W ht ⟨g, o, none⟩ l.length c _ (by rw [Lib.byteCells_length, Nat.mul_one]) (fun j u hu => ?_) (one_b8 l)
  obtain ⟨hj, rfl⟩ := cells_b8 l j u hu
  have hp : (⟨g, o, none⟩ : Addr).add j = ⟨g, o + j, none⟩ := by unfold Addr.add; split <;> simp_all
  rw [hp]; exact hx j hj
theorem run_app (ht : P.underlying t = some (.slice e)) (he : (P.info? e).map (fun i => (i.zero, i.size, i.bytes)) = some (some (.int .u8 0), 1, 1)) {W : World} {H : Nat} {A : Option Addr} {c : Nat} {vb : Value} {l m : List UInt8}
 (hv : RestIs W H (.slice A l.length c) l) (hb : RestIs W H vb m) (hlen : l.length + m.length ≤ 70368744177664) (hH : H < W.heap.size) :
 ∃ v' W', (appSem #[t, t] t #[.slice A l.length l.length, vb]).run P W = .ok v' W' ∧ RestIs W' H v' (l ++ m) ∧ Below W.heap.size W W' := by
 obtain ⟨i, hi, hz0, hz1, hz2⟩ := info_parts he
 have hsv : RestIs W H (.slice A l.length l.length) l := by
  obtain ⟨A', c', h1, h2, h3⟩ := hv
  injection h1 with h1 h1'
  subst h1
  refine ⟨A, l.length, rfl, Nat.le_refl _, ?_⟩
  rcases h3 with ⟨hA, h0⟩ | h3
  ·exact .inl ⟨hA, by omega⟩
  ·exact .inr h3
 have hs := src_of ht hb
 have hs' : Src P i.size t vb m.length (Lib.byteCells m) W := by rw [hz1]; exact hs
 unfold appSem
 by_cases hm : m = []
 ·subst hm
  refine ⟨_, W, run_append_nothing W t t t e i ht hi A l.length l.length (Nat.le_refl _) vb hs', ?_, Below.refl _ _⟩
  rw [List.append_nil]; exact hsv
 ·have hmp : 0 < m.length := List.length_pos_iff.2 hm
  have hold := (src_of ht hsv).cellsD
  rw [← hz1] at hold
  have hg := run_append_grow_src W t t t e i (.int .u8 0) ht hi hz0 A l.length l.length (Lib.byteCells l) hold vb m.length (Lib.byteCells m) hs' (by omega) (by omega) (by rw [hz2]; exact growslice_fits (by omega) (by omega))
  refine ⟨_, _, hg, ?_, ((Below.refl _ _).drew).alloc (Nat.le_refl _) _⟩
  refine ⟨_, _, by rw [List.length_append], ?_, .inr ⟨W.heap.size, 0, rfl, by omega, by simp, fun j hj => ?_⟩⟩
  ·rw [List.length_append]; exact grownCap_ge W _ _ _
  ·have hb := Blk.new W.drew e ((Lib.byteCells l ++ Lib.byteCells m).toArray ++ Builtin.zeroCells (Value.int .u8 0).cells (grownCap W (l.length + m.length) l.length e - (l.length + m.length)))
   rw [Nat.zero_add]
   refine (hb.cell j).trans ?_
   rw [← Lib.byteCells_append, Array.getElem?_append_left (by simpa [Lib.byteCells] using hj), List.getElem?_toArray]
   have hjl : j < (Lib.byteCells (l ++ m)).length := by rw [Lib.byteCells_length]; exact hj
   rw [List.getElem?_eq_getElem hjl]
   obtain ⟨_, h2⟩ := cells_b8 (l ++ m) j _ (List.getElem?_eq_getElem hjl)
   rw [h2]
end
end Sha
end Go.Proofs.YtnbkhdbligjifaaGreatDoor
namespace Go.Proofs.YtnbkhdbligjifaaGreatDoor
open Go.RowKit
namespace Sha
attribute [local go_sem ↓] appSem_eq
def rlen (H : Nat) (W : World) : Nat := match W.cell? ⟨H, 8, none⟩ with
 | some (.slice _ n _) => n
 | _ => 0
theorem take_any (s : St) (hs : s.ok) (l m : List UInt8) (v vb : Value) (total : Int) (rb rcap : Nat) (roots : List Int) (hsm : Small roots) (H : Nat) (w : World)
 (hH : Blk w H 174 (hcells s v total (.slice (some ⟨rb, 0, none⟩) 64 rcap)))
 (hrb : rb < w.heap.size) (hrH : rb ≠ H) (hroots : ∀ j, j < 64 → w.cell? ⟨rb, j, none⟩ = some (.int .u32 (roots.getD j 0)))
 (hv : RestIs w H v l) (hvb : RestIs w H vb m) (hlen : l.length + m.length ≤ 70368744177664) :
 Calls Tryz.prog 101 #[.pointer (some ⟨H, 0, none⟩), vb] w fun e w' =>
  e = .returned (.tuple #[]) ∧ (∃ v', Blk w' H 174 (hcells (eat roots (l ++ m) s).1 v' total (.slice (some ⟨rb, 0, none⟩) 64 rcap)) ∧ RestIs w' H v' (eat roots (l ++ m) s).2) ∧ Below H w w' ∧ Keep H w w' := by
 obtain ⟨A, c, rfl, hc, hA⟩ := id hv
 have hHlt := hH.lt
 have c8 : w.cell? ⟨H, 8, none⟩ = some (.slice A l.length c) := hH.cell 8
 have hcI : (l.length : Int) ≤ (c : Int) := by omega
 have hl0 : (0 : Int) ≤ (l.length : Int) := by omega
 have HR := Lib.hid hroots
 clear hroots
 go_enter Tryz.func101, Tryz.ntmps101
 go_wp2_with fail
 obtain ⟨v1, w3, hrun, hv1, hb3⟩ := run_app (P := Tryz.prog) (t := 136) (e := 5) Tryz.underlying136 info5 (W := w.drew) (H := H) (A := A) (c := c) (vb := vb) (l := l) (m := m) hv hvb hlen hHlt
 obtain ⟨A1, c1, rfl, hc1, hA1⟩ := id hv1
 have hH3 : Blk w3 H 174 (hcells s (.slice A l.length c) total (.slice (some ⟨rb, 0, none⟩) 64 rcap)) := (hH.drew).below hb3 hHlt
 have d8 : w3.cell? ⟨H, 8, none⟩ = some (.slice A l.length c) := hH3.cell 8
 have f8 := hH3.frozen 8
 have HH3 := Lib.hid hH3
 have HV1 := Lib.hid hv1
 have HB3 := Lib.hid hb3
 clear hH3 hv1 hb3 hA hA1 hv hvb hH
 go_region
 have hH5 : Blk (w3.setCell ⟨H, 8, none⟩ (.slice A1 (l.length + m.length) c1)) H 174 (hcells s (.slice A1 (l.length + m.length) c1) total (.slice (some ⟨rb, 0, none⟩) 64 rcap)) := HH3.out.set_ 8 _
 have hk35 : Keep H w3 (w3.setCell ⟨H, 8, none⟩ (.slice A1 (l.length + m.length) c1)) := (Keep.refl H w3).set_ 8 _
 have hv5 : RestIs (w3.setCell ⟨H, 8, none⟩ (.slice A1 (l.length + m.length) c1)) H (.slice A1 (l.length + m.length) c1) (l ++ m) := by
  have h := HV1.out.keep hk35 (by simp)
  rwa [List.length_append] at h
 have hb5 : Below H w (w3.setCell ⟨H, 8, none⟩ (.slice A1 (l.length + m.length) c1)) := (((Below.refl H w).drew).trans (HB3.out.mono (Nat.le_of_lt hHlt))).setCell (p := ⟨H, 8, none⟩) (Nat.le_refl _) _
 have hk5 : Keep H w (w3.setCell ⟨H, 8, none⟩ (.slice A1 (l.length + m.length) c1)) := Keep.set_ (fun k hk _ => HB3.out.block k hk) 8 _
 generalize w3.setCell ⟨H, 8, none⟩ (.slice A1 (l.length + m.length) c1) = w5 at *
 generalize hx0 : l ++ m = x0 at *
 have HX0 := Lib.hid hx0
 generalize Value.slice A1 (l.length + m.length) c1 = v5 at *
 clear c8 hcI hl0 hrun hc1 d8 f8 HH3 HV1 HB3 hk35 hx0
 go_wp2_with fail
 go_loopw [24] (fun _ wr => ∃ (x : List UInt8) (q : St) (v : Value), eat roots x q = eat roots x0 s ∧ q.ok ∧ Blk wr H 174 (hcells q v total (.slice (some ⟨rb, 0, none⟩) 64 rcap)) ∧ RestIs wr H v x ∧ Below H w wr ∧ Keep H w wr) (fun _ wr => rlen H wr)
 case atStart => exact ⟨x0, s, v5, rfl, hs, hH5, hv5, hb5, hk5⟩
 case round =>
  obtain ⟨x, q, v, he, hq, hHr, hvr, hbl, hke⟩ := hrel
  obtain ⟨B, d, rfl, hd, hB⟩ := id hvr
  have c8 : wr.cell? ⟨H, 8, none⟩ = some (.slice B x.length d) := hHr.cell 8
  have hsz := hbl.size
  by_cases h64 : 64 ≤ x.length
  ·have t1 : (64 : Int) ≤ (x.length : Int) := by omega
   have t2 : (64 : Int) ≤ (d : Int) := by omega
   obtain ⟨g, o, rfl, hgH, hglt, hrow⟩ : ∃ g o, B = some ⟨g, o, none⟩ ∧ g ≠ H ∧ g < wr.heap.size ∧ ∀ j, j < x.length → wr.cell? ⟨g, o + j, none⟩ = some (b8 x j) := by
    rcases hB with ⟨_, h0⟩ | h
    ·omega
    ·exact h
   have hchg := change_any q hq (.slice (some ⟨g, o, none⟩) x.length d) total rb rcap roots hsm (x.take 64) (by simp; omega) g o d H wr hHr (by omega) hrH
    (fun j hj => by rw [← HR.out j hj]; exact World.cell?_of_block (a := ⟨rb, j, none⟩) (hke rb hrb hrH)) hglt
    (fun j hj => by rw [hrow j (by omega), b8]; congr 2; simp [at8, List.getD, hj])
   have HC := Lib.hid hchg
   have HE := Lib.hid (show eat roots (x.drop 64) (comp roots (x.take 64) q) = eat roots x0 s by rw [← eat_step roots x q h64]; exact he)
   have HV := Lib.hid hvr
   have HRow := Lib.hid hrow
   have HBL := Lib.hid hbl
   have HKE := Lib.hid hke
   clear hchg he hvr hrow hbl hke hB hHr
   go_wp2_with (go_at_call 138; refine HC.out.mono ?_)
   rintro e w6 ⟨rfl, hH6, hb6, hk6⟩
   have c86 : w6.cell? ⟨H, 8, none⟩ = some (.slice (some ⟨g, o, none⟩) x.length d) := hH6.cell 8
   have f86 := hH6.frozen 8
   have HH6 := Lib.hid hH6
   have HB6 := Lib.hid hb6
   have HK6 := Lib.hid hk6
   clear hH6 hb6 hk6
   go_wp2_with fail
   obtain ⟨A2, hA2⟩ : ∃ A2 : Option Addr, A2 = (if d = 64 then some ⟨g, o, none⟩ else some ⟨g, o + 64, none⟩) := ⟨_, rfl⟩
   rw [← hA2]
   have hk7 : Keep H w6 (w6.setCell ⟨H, 8, none⟩ (.slice A2 (x.length - 64) (d - 64))) := (Keep.refl H w6).set_ 8 _
   have hs6 := HB6.out.size
   have hk07 : Keep H w (w6.setCell ⟨H, 8, none⟩ (.slice A2 (x.length - 64) (d - 64))) := (HKE.out.trans hsz HK6.out).trans (by omega) hk7
   have hH7 := HH6.out.set_ 8 (.slice A2 (x.length - 64) (d - 64))
   have hxl : (x.drop 64).length = x.length - 64 := by simp
   have hR7 : RestIs (w6.setCell ⟨H, 8, none⟩ (.slice A2 (x.length - 64) (d - 64))) H (.slice A2 (x.length - 64) (d - 64)) (x.drop 64) := by
    refine ⟨A2, d - 64, by rw [hxl], by rw [hxl]; omega, .inr ?_⟩
    by_cases hd64 : d = 64
    ·refine ⟨g, o, by rw [hA2, if_pos hd64], hgH, by simp; omega, fun j hj => ?_⟩
     rw [hxl] at hj; omega
    ·refine ⟨g, o + 64, by rw [hA2, if_neg hd64], hgH, by simp; omega, fun j hj => ?_⟩
     rw [hxl] at hj
     have hw : wr.cell? ⟨g, o + 64 + j, none⟩ = some (b8 x (64 + j)) := by
      rw [Nat.add_assoc]; exact HRow.out (64 + j) (by omega)
     rw [b8, getD_drop, ← b8, ← hw]
     exact World.cell?_of_block (a := ⟨g, o + 64 + j, none⟩) ((HK6.out.trans (by omega) hk7) g hglt hgH)
   refine ⟨⟨x.drop 64, _, _, HE.out, comp_ok _ _ _, hH7, hR7, (HBL.out.trans HB6.out).setCell (p := ⟨H, 8, none⟩) (Nat.le_refl _) _, hk07⟩, ?_⟩
   have e1 : rlen H wr = x.length := by unfold rlen; rw [c8]
   have e2 : rlen H (w6.setCell ⟨H, 8, none⟩ (.slice A2 (x.length - 64) (d - 64))) = x.length - 64 := by
    unfold rlen; rw [hH7.cell 8]; rfl
   rw [e1, e2]; omega
  ·have t1 : ¬ ((64 : Int) ≤ (x.length : Int)) := by omega
   rw [eat_end roots x q (by omega)] at he
   have HE := Lib.hid he
   have HV := Lib.hid hvr
   have HHr := Lib.hid hHr
   clear he hvr hHr hB
   go_wp2_with fail
   go_end0
   rw [HX0.out, ← HE.out]
   exact ⟨rfl, ⟨_, HHr.out, HV.out⟩, hbl, hke⟩
end Sha
end Go.Proofs.YtnbkhdbligjifaaGreatDoor
namespace Go.Proofs.YtnbkhdbligjifaaGreatDoor
open Go.RowKit
namespace Sha
theorem below_keep {H : Nat} {a b c : World} (h : Keep H a b) (hs : a.heap.size ≤ b.heap.size) (k : Below b.heap.size b c) : Keep H a c := fun i hi hne => (k.block i (by omega)).trans (h i hi hne)
theorem hcells_total (s : St) (v : Value) (t t' : Int) (r : Value) : (hcells s v t r).setIfInBounds 9 (.int .i64 t') = hcells s v t' r := by
 apply Array.toList_inj.1
 simp [hcells]
theorem rest_conv (w : World) (H : Nat) (e : TypeId) (b : ByteArray) (hH : H < w.heap.size) : RestIs (Lib.bytesWorld w e b) H (.slice (some ⟨w.heap.size, 0, none⟩) b.size (grownCap w b.size 0 e)) b.data.toList := by
 have hl : b.data.toList.length = b.size := by simp
 refine ⟨_, _, by rw [hl], by rw [hl]; exact grownCap_ge w _ _ _, .inr ⟨w.heap.size, 0, rfl, by omega, ?_, fun j hj => ?_⟩⟩
 ·exact (Array.getElem?_eq_some_iff.1 (Lib.bytesWorld_at_new w e b)).1
 ·rw [Nat.zero_add, cell_of_row _ _ j _ _ _ (Lib.bytesWorld_at_new w e b)]
  have hj' : j < b.size := by rw [← hl]; exact hj
  have hx : (Lib.bytesCells w e b)[j]? = some (.int .u8 (b.data.toList[j].toNat : Int)) := by
   unfold Lib.bytesCells
   rw [Array.getElem?_append_left (by simpa using hj')]
   simp [hj']
  rw [hx, b8, at8, List.getD, List.getElem?_eq_getElem hj]; rfl
theorem add_any (s : St) (hs : s.ok) (l : List UInt8) (b : ByteArray) (v : Value) (total : Int) (rb rcap : Nat) (roots : List Int) (hsm : Small roots) (H : Nat) (w : World)
 (hH : Blk w H 174 (hcells s v total (.slice (some ⟨rb, 0, none⟩) 64 rcap)))
 (hrb : rb < w.heap.size) (hrH : rb ≠ H) (hroots : ∀ j, j < 64 → w.cell? ⟨rb, j, none⟩ = some (.int .u32 (roots.getD j 0)))
 (hv : RestIs w H v l) (hlen : l.length + b.size ≤ 70368744177664) (ht0 : 0 ≤ total) (ht1 : total ≤ 70368744177664) :
 Calls Tryz.prog 68 #[.pointer (some ⟨H, 0, none⟩), .string b] w fun e w' =>
  e = .returned (.int .i64 0) ∧ (∃ v', Blk w' H 174 (hcells (eat roots (l ++ b.data.toList) s).1 v' (total + b.size) (.slice (some ⟨rb, 0, none⟩) 64 rcap)) ∧ RestIs w' H v' (eat roots (l ++ b.data.toList) s).2) ∧ Below H w w' ∧ Keep H w w' := by
 have hHlt := hH.lt
 have c9 : w.cell? ⟨H, 9, none⟩ = some (.int .i64 total) := hH.cell 9
 have f9 := hH.frozen 9
 have HR := Lib.hid hroots
 have HH := Lib.hid hH
 have HV := Lib.hid hv
 clear hroots hH hv
 go_enter Tryz.func68, Tryz.ntmps68
 go_wp2_with fail
 rw [Lib.run_convert_string_bytes _ 9 136 5 b Tryz.underlying9 Tryz.underlying136 Tryz.underlying5]
 simp only [Result.andThen]
 rw [Oper.upon_value]
 have hH1 := HH.out.set_ 9 (.int .i64 (total + b.size))
 rw [hcells_total] at hH1
 have hk1 : Keep H w (w.setCell ⟨H, 9, none⟩ (.int .i64 (total + b.size))) := (Keep.refl H w).set_ 9 _
 have hb1 : Below H w (w.setCell ⟨H, 9, none⟩ (.int .i64 (total + b.size))) := (Below.refl H w).setCell (p := ⟨H, 9, none⟩) (Nat.le_refl _) _
 have hs1 : (w.setCell ⟨H, 9, none⟩ (.int .i64 (total + b.size))).heap.size = w.heap.size := by simp
 generalize w.setCell ⟨H, 9, none⟩ (.int .i64 (total + b.size)) = w1 at *
 have hb2 := Lib.bytesWorld_below w1 5 b
 have hr2 := rest_conv w1 H 5 b (by omega)
 generalize Lib.bytesWorld w1 5 b = w2 at *
 generalize Value.slice (some ⟨w1.heap.size, 0, none⟩) b.size (grownCap w1 b.size 0 5) = vb at *
 have hk2 : Keep H w w2 := below_keep hk1 (by omega) hb2
 have hlb : b.data.toList.length = b.size := by simp
 have hT := take_any s hs l b.data.toList v _ (total + b.size) rb rcap roots hsm H w2 (hH1.below hb2 (by omega)) (by have := hb2.size; omega) hrH
  (fun j hj => (World.cell?_of_block (a := ⟨rb, j, none⟩) (hk2 rb hrb hrH)).trans (HR.out j hj)) (HV.out.keep hk2 (by have := hb2.size; omega)) hr2 (by rw [hlb]; exact hlen)
 have HT := Lib.hid hT
 clear hT hr2 hH1 c9 f9
 go_wp2_with (go_at_call 101; refine HT.out.mono ?_)
 rintro e w3 ⟨rfl, ⟨v', hH3, hR3⟩, hb3, hk3⟩
 have HH3 := Lib.hid hH3
 have HR3 := Lib.hid hR3
 clear hH3 hR3
 go_wp2_with fail
 go_ret
 exact ⟨rfl, ⟨v', HH3.out, HR3.out⟩, (hb1.trans (hb2.mono (by omega))).trans hb3, hk2.trans (by have := hb2.size; omega) hk3⟩
end Sha
end Go.Proofs.YtnbkhdbligjifaaGreatDoor
namespace Go.Proofs.YtnbkhdbligjifaaGreatDoor
open Go.RowKit
namespace Sha
def copSem (ts : Array TypeId) (ty : TypeId) (args : Array Value) : Sem Value := Builtin.copy_ ts ty args
theorem copSem_eq (ts : Array TypeId) (ty : TypeId) (args : Array Value) : Builtin.copy_ ts ty args = copSem ts ty args := rfl
theorem byteCells_nums (l : List UInt8) : (Lib.byteCells l).toArray = nums l := rfl
theorem run_cop {P : Program} {t e ty : TypeId} (ht : P.underlying t = some (.slice e)) (he : (P.info? e).map (fun i => (i.zero, i.size, i.bytes)) = some (some (.int .u8 0), 1, 1)) {W : World} {H g c : Nat} {t0 : TypeId} {A : Option Addr} {l : List UInt8}
 (hg : Blk W g t0 (nums (List.replicate l.length 0))) (hR : RestIs W H (.slice A l.length c) l) :
 ∃ W', (copSem #[t, t] ty #[.slice (some ⟨g, 0, none⟩) l.length l.length, .slice A l.length c]).run P W = .ok (goInt l.length) W' ∧ Blk W' g t0 (nums l) ∧ Keep g W W' ∧ Below g W W' := by
 obtain ⟨i, hi, hz0, hz1, hz2⟩ := info_parts he
 have hsz : (P.info? e).map (·.size) = some 1 := by rw [hi]; simp [hz1]
 unfold copSem
 by_cases h0 : l = []
 ·subst h0
  exact ⟨W, run_copy_none W t t ty e _ _ _ _ _ _ ht hsz rfl, hg, Keep.refl _ _, Below.refl _ _⟩
 ·obtain ⟨A', c', h1, h2, h3⟩ := hR
  injection h1 with h1 h1' h1''
  subst h1; subst h1''
  rcases h3 with ⟨rfl, h3⟩ | ⟨gs, o, rfl, hgH, hlt, hx⟩
  ·have : l = [] := List.length_eq_zero_iff.1 (by omega)
   exact absurd this h0
  ·have hrun := run_copy_row (P := P) W t t ty e g 0 l.length l.length ⟨gs, o, none⟩ l.length c (nums (List.replicate l.length 0)) t0 (Lib.byteCells l) ht hsz hg
    (by rw [Lib.byteCells_length]; exact (Nat.min_self _).symm)
    (fun j u hu => by
     obtain ⟨hj, rfl⟩ := cells_b8 l j u hu
     have hp : (⟨gs, o, none⟩ : Addr).add j = ⟨gs, o + j, none⟩ := by unfold Addr.add; split <;> simp_all
     rw [hp]; exact hx j hj)
    (by rw [Lib.byteCells_length, nums_size]; simp) (one_b8 l)
   rw [Lib.byteCells_length] at hrun
   refine ⟨_, hrun, ?_, fun k hk hne => setRow_other W g k _ hne, below_setRow (Below.refl _ _) (Nat.le_refl _) _⟩
   have hb := setRow_heap W g _ ((nums (List.replicate l.length 0)).toList.take 0 ++ Lib.byteCells l ++ (nums (List.replicate l.length 0)).toList.drop (0 + l.length)).toArray t0 _ hg
   unfold Blk
   rw [hb]
   congr 2
   have : (nums (List.replicate l.length 0)).toList.drop (0 + l.length) = [] := by
    apply List.drop_eq_nil_of_le
    rw [Array.length_toList, nums_size]; simp
   rw [this]
   simp [← byteCells_nums]
attribute [local go_sem ↓] copSem_eq
theorem copy_any (s : St) (l : List UInt8) (v : Value) (total : Int) (rb rcap : Nat) (H : Nat) (w : World)
 (hH : Blk w H 174 (hcells s v total (.slice (some ⟨rb, 0, none⟩) 64 rcap))) (hv : RestIs w H v l) (hlen : l.length < 64) :
 Calls Tryz.prog 102 #[.pointer (some ⟨H, 0, none⟩)] w fun e w' =>
  ∃ H' v', e = .returned (.pointer (some ⟨H', 0, none⟩)) ∧ w.heap.size ≤ H' ∧ Blk w' H' 174 (hcells s v' total (.slice (some ⟨rb, 0, none⟩) 64 rcap)) ∧ RestIs w' H' v' l ∧ Below w.heap.size w w' := by
 obtain ⟨A, c, rfl, hc, hA⟩ := id hv
 have k0 : w.cell? ⟨H, 0, none⟩ = some (.int .u32 s.a) := hH.cell 0
 have k1 : w.cell? ⟨H, 1, none⟩ = some (.int .u32 s.b) := hH.cell 1
 have k2 : w.cell? ⟨H, 2, none⟩ = some (.int .u32 s.c) := hH.cell 2
 have k3 : w.cell? ⟨H, 3, none⟩ = some (.int .u32 s.d) := hH.cell 3
 have k4 : w.cell? ⟨H, 4, none⟩ = some (.int .u32 s.e) := hH.cell 4
 have k5 : w.cell? ⟨H, 5, none⟩ = some (.int .u32 s.f) := hH.cell 5
 have k6 : w.cell? ⟨H, 6, none⟩ = some (.int .u32 s.g) := hH.cell 6
 have k7 : w.cell? ⟨H, 7, none⟩ = some (.int .u32 s.h) := hH.cell 7
 have k8 : w.cell? ⟨H, 8, none⟩ = some (.slice A l.length c) := hH.cell 8
 have k9 : w.cell? ⟨H, 9, none⟩ = some (.int .i64 total) := hH.cell 9
 have k10 : w.cell? ⟨H, 10, none⟩ = some (.slice (some ⟨rb, 0, none⟩) 64 rcap) := hH.cell 10
 have hHlt := hH.lt
 go_enter Tryz.func102, Tryz.ntmps102
 have hmk := run_mk (P := Tryz.prog) (t := 136) (e := 5) (z := .int .u8 0) (bytes := 1) Tryz.underlying136 info5 rfl l.length (by omega) (by omega) (w.alloc (.cells (hcells s (.slice A l.length c) total (.slice (some ⟨rb, 0, none⟩) 64 rcap)) 174))
 rw [nums_zero] at hmk
 have hmk' := hmk
 unfold hcells at hmk'
 go_wp2_with fail
 have hC2 : Blk ((w.alloc (.cells (hcells s (.slice (some ⟨w.heap.size + 1, 0, none⟩) l.length l.length) total (.slice (some ⟨rb, 0, none⟩) 64 rcap)) 174)).alloc (.cells (nums (List.replicate l.length 0)) 5)) w.heap.size 174 (hcells s (.slice (some ⟨w.heap.size + 1, 0, none⟩) l.length l.length) total (.slice (some ⟨rb, 0, none⟩) 64 rcap)) := (Blk.new _ _ _).alloc _
 have hR2 : Blk ((w.alloc (.cells (hcells s (.slice (some ⟨w.heap.size + 1, 0, none⟩) l.length l.length) total (.slice (some ⟨rb, 0, none⟩) 64 rcap)) 174)).alloc (.cells (nums (List.replicate l.length 0)) 5)) (w.heap.size + 1) 5 (nums (List.replicate l.length 0)) := by
  have h := Blk.new (w.alloc (.cells (hcells s (.slice (some ⟨w.heap.size + 1, 0, none⟩) l.length l.length) total (.slice (some ⟨rb, 0, none⟩) 64 rcap)) 174)) 5 (nums (List.replicate l.length 0))
  simpa using h
 have hb2 : Below w.heap.size w ((w.alloc (.cells (hcells s (.slice (some ⟨w.heap.size + 1, 0, none⟩) l.length l.length) total (.slice (some ⟨rb, 0, none⟩) 64 rcap)) 174)).alloc (.cells (nums (List.replicate l.length 0)) 5)) := ((Below.refl _ _).alloc (Nat.le_refl _) _).alloc (by simp) _
 unfold hcells at hC2 hR2 hb2
 clear hmk hmk' k0 k1 k2 k3 k4 k5 k6 k7 k9 k10
 generalize (w.alloc _).alloc _ = w2 at *
 have hC3 : Blk w2 w.heap.size 174 (hcells s (.slice (some ⟨w.heap.size + 1, 0, none⟩) l.length l.length) total (.slice (some ⟨rb, 0, none⟩) 64 rcap)) := hC2
 clear hC2
 have hv2 : RestIs w2 H (.slice A l.length c) l := hv.keep (fun k hk _ => hb2.block k hk) hb2.size
 obtain ⟨w3, hrun, hR3, hk3, hb3⟩ := run_cop (P := Tryz.prog) (t := 136) (e := 5) (ty := 3) Tryz.underlying136 info5 (W := w2.drew) hR2.drew (hv2.drewN 1)
 have c8 : w2.cell? ⟨w.heap.size, 8, none⟩ = some (.slice (some ⟨w.heap.size + 1, 0, none⟩) l.length l.length) := hC3.cell 8
 have h8 : w2.cell? ⟨H, 8, none⟩ = some (.slice A l.length c) := (World.cell?_of_block (a := ⟨H, 8, none⟩) (hb2.block H hHlt)).trans k8
 go_region
 go_wp2_with fail
 go_ret
 have hR4 : RestIs w3 w.heap.size (.slice (some ⟨w.heap.size + 1, 0, none⟩) l.length l.length) l := by
  refine ⟨_, _, rfl, Nat.le_refl _, .inr ⟨w.heap.size + 1, 0, rfl, by omega, hR3.lt, fun j hj => ?_⟩⟩
  rw [Nat.zero_add, hR3.cell j, nums_get l j hj, b8, at8, List.getD, List.getElem?_eq_getElem hj]; rfl
 exact ⟨_, _, rfl, Nat.le_refl _, (hk3 w.heap.size (by exact hC3.lt) (by omega)).trans hC3, hR4, hb2.trans ((Below.refl _ _).drew.trans (hb3.mono (by omega)))⟩
end Sha
end Go.Proofs.YtnbkhdbligjifaaGreatDoor
