/-
 Bytes that a slice shows, wherever they lie; an append onto a slice without room. No program is named.
-/
import Derived.Test.YtfkchheildfkpaaGreatDoorShaEat
import Derived.Deep.Upon
namespace Go.Proofs.YtfkchheildfkpaaGreatDoor
open Go.RowKit
namespace Sha
def b8 (l : List UInt8) (j : Nat) : Value := .int .u8 (at8 l j)
def RestIs (W : World) (H : Nat) (v : Value) (l : List UInt8) : Prop :=
 ∃ A c, v = .slice A l.length c ∧ l.length ≤ c ∧ ((A = none ∧ c = 0) ∨ ∃ g o, A = some ⟨g, o, none⟩ ∧ g ≠ H ∧ g < W.heap.size ∧ ∀ j, j < l.length → W.cell? ⟨g, o + j, none⟩ = some (b8 l j))
theorem RestIs.nil (W : World) (H : Nat) : RestIs W H (.slice none 0 0) [] := ⟨none, 0, rfl, Nat.le_refl _, .inl ⟨rfl, rfl⟩⟩
theorem RestIs.drewN {W : World} {H : Nat} {v : Value} {l : List UInt8} (h : RestIs W H v l) (n : Nat) : RestIs (W.drewN n) H v l := h
theorem RestIs.keep {W W' : World} {H : Nat} {v : Value} {l : List UInt8} (h : RestIs W H v l) (hk : Keep H W W') (hs : W.heap.size ≤ W'.heap.size) : RestIs W' H v l := by
 obtain ⟨A, c, rfl, hc, h⟩ := h
 refine ⟨A, c, rfl, hc, ?_⟩
 rcases h with h | ⟨g, o, rfl, hg, hlt, hx⟩
 · exact .inl h
 · refine .inr ⟨g, o, rfl, hg, by omega, fun j hj => ?_⟩
   rw [← hx j hj]
   exact World.cell?_of_block (a := ⟨g, o + j, none⟩) (hk g hlt hg)
theorem getD_drop (l : List UInt8) (k j : Nat) : at8 (l.drop k) j = at8 l (k + j) := by simp [at8, List.getD, List.getElem?_drop]
section
variable {P : Program} {t e : TypeId}
theorem cells_b8 (l : List UInt8) (j : Nat) (u : Value) (h : (Lib.byteCells l)[j]? = some u) : j < l.length ∧ u = b8 l j := by
 have hj : j < l.length := by
   rcases Nat.lt_or_ge j l.length with h' | h'
   · exact h'
   · rw [List.getElem?_eq_none (by rw [Lib.byteCells_length]; exact h')] at h; cases h
 refine ⟨hj, ?_⟩
 simp only [Lib.byteCells, List.getElem?_map, List.getElem?_eq_getElem hj, Option.map_some, Option.some.injEq] at h
 rw [← h, b8, at8, List.getD, List.getElem?_eq_getElem hj]; rfl
theorem one_b8 (l : List UInt8) : ∀ u ∈ Lib.byteCells l, u.oneCell' = true := by
 intro u hu
 obtain ⟨x, _, rfl⟩ := List.mem_map.1 hu
 rfl
theorem src_of (ht : P.underlying t = some (.slice e)) {W : World} {H : Nat} {v : Value} {l : List UInt8} (h : RestIs W H v l) : Src P 1 t v l.length (Lib.byteCells l) W := by
 obtain ⟨A, c, rfl, hc, h⟩ := h
 rcases h with ⟨rfl, rfl⟩ | ⟨g, o, rfl, hg, hlt, hx⟩
 · obtain rfl : l = [] := List.length_eq_zero_iff.1 (by omega)
   exact Src.ofNil W ht 0
 · refine Src.ofSlice W ht ⟨g, o, none⟩ l.length c _ (by rw [Lib.byteCells_length, Nat.mul_one]) (fun j u hu => ?_) (one_b8 l)
   obtain ⟨hj, rfl⟩ := cells_b8 l j u hu
   have hp : (⟨g, o, none⟩ : Addr).add j = ⟨g, o + j, none⟩ := by unfold Addr.add; split <;> simp_all
   rw [hp]; exact hx j hj
theorem run_app (ht : P.underlying t = some (.slice e)) (he : (P.info? e).map (fun i => (i.zero, i.size, i.bytes)) = some (some (.int .u8 0), 1, 1)) {W : World} {H : Nat} {A : Option Addr} {c : Nat} {vb : Value} {l m : List UInt8}
   (hv : RestIs W H (.slice A l.length c) l) (hb : RestIs W H vb m) (hlen : l.length + m.length ≤ 70368744177664) (hH : H < W.heap.size) :
   ∃ v' W', (appSem #[t, t] t #[.slice A l.length l.length, vb]).run P W = .ok v' W' ∧ RestIs W' H v' (l ++ m) ∧ Below W.heap.size W W' := by
 obtain ⟨i, hi, hz0, hz1, hz2⟩ := info_parts he
 have hsv : RestIs W H (.slice A l.length l.length) l := by
   obtain ⟨A', c', h1, h2, h3⟩ := hv
   injection h1 with h1 h1'
   subst h1
   refine ⟨A, l.length, rfl, Nat.le_refl _, ?_⟩
   rcases h3 with ⟨hA, h0⟩ | h3
   · exact .inl ⟨hA, by omega⟩
   · exact .inr h3
 have hs := src_of ht hb
 have hs' : Src P i.size t vb m.length (Lib.byteCells m) W := by rw [hz1]; exact hs
 unfold appSem
 by_cases hm : m = []
 · subst hm
   refine ⟨_, W, run_append_nothing W t t t e i ht hi A l.length l.length (Nat.le_refl _) vb hs', ?_, Below.refl _ _⟩
   rw [List.append_nil]; exact hsv
 · have hmp : 0 < m.length := List.length_pos_iff.2 hm
   have hold := (src_of ht hsv).cellsD
   rw [← hz1] at hold
   have hg := run_append_grow_src W t t t e i (.int .u8 0) ht hi hz0 A l.length l.length (Lib.byteCells l) hold vb m.length (Lib.byteCells m) hs' (by omega) (by omega) (by rw [hz2]; exact growslice_fits (by omega) (by omega))
   refine ⟨_, _, hg, ?_, ((Below.refl _ _).drew).alloc (Nat.le_refl _) _⟩
   refine ⟨_, _, by rw [List.length_append], ?_, .inr ⟨W.heap.size, 0, rfl, by omega, by simp, fun j hj => ?_⟩⟩
   · rw [List.length_append]; exact grownCap_ge W _ _ _
   · have hb := Blk.new W.drew e ((Lib.byteCells l ++ Lib.byteCells m).toArray ++ Builtin.zeroCells (Value.int .u8 0).cells (grownCap W (l.length + m.length) l.length e - (l.length + m.length)))
     rw [Nat.zero_add]
     refine (hb.cell j).trans ?_
     rw [← Lib.byteCells_append, Array.getElem?_append_left (by simpa [Lib.byteCells] using hj), List.getElem?_toArray]
     have hjl : j < (Lib.byteCells (l ++ m)).length := by rw [Lib.byteCells_length]; exact hj
     rw [List.getElem?_eq_getElem hjl]
     obtain ⟨_, h2⟩ := cells_b8 (l ++ m) j _ (List.getElem?_eq_getElem hjl)
     rw [h2]
end
end Sha
end Go.Proofs.YtfkchheildfkpaaGreatDoor
