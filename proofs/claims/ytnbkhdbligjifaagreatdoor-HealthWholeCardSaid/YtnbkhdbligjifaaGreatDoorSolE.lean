/-
 Elimination: what it computes; the rows' values turned.
-/
import Derived.Test.YtnbkhdbligjifaaGreatDoorNew
import Derived.Test.YtnbkhdbligjifaaGreatDoorCodC
set_option linter.unusedVariables false
set_option linter.unusedSimpArgs false
namespace Go.Proofs.YtnbkhdbligjifaaGreatDoor
open Go Go.RowKit
namespace Sol
def seek (F : Nat → Nat → Nat) (c : Nat) : Nat → Nat → Option Nat
 | 0, _ => none
 | k + 1, a => if F a c = 0 then seek F c k (a + 1) else some a
theorem seek_some {F : Nat → Nat → Nat} {c : Nat} : ∀ {k a b : Nat}, seek F c k a = some b → a ≤ b ∧ b < a + k ∧ F b c ≠ 0
 | 0, a, b, h => by cases h
 | k + 1, a, b, h => by
   rw [seek] at h
   by_cases h0 : F a c = 0
   ·rw [if_pos h0] at h
    have := seek_some h
    omega
   ·rw [if_neg h0] at h
    cases h
    exact ⟨Nat.le_refl _, by omega, h0⟩
def sig (d a i : Nat) : Nat := if i = d then a else if d < i ∧ i ≤ a then i - 1 else i
theorem sig_lt {d a N i : Nat} (ha : a < N) (hi : i < N) : sig d a i < N := by unfold sig; split; exact ha; split <;> omega
theorem sig_inj {d a i j : Nat} (hd : d ≤ a) (h : sig d a i = sig d a j) : i = j := by
 unfold sig at h
 split at h <;> split at h <;> (try split at h) <;> (try split at h) <;> omega
def pivF (G : Nat → Nat → Nat) (d c : Nat) (j : Nat) : Nat := Fld.gm (G d j) (Cod.gi (G d c))
def elimF (G : Nat → Nat → Nat) (d c i : Nat) : Nat → Nat := if i = d then pivF G d c else plusF (G i) (pivF G d c) (G i c)
def stepC (N c : Nat) (s : Nat × (Nat → Nat → Nat)) : Nat × (Nat → Nat → Nat) :=
 if s.1 = N then s else match seek s.2 c (N - s.1) s.1 with
  | none => s
  | some a => (s.1 + 1, elimF (fun i => s.2 (sig s.1 a i)) s.1 c)
def downs (N : Nat) (F : Nat → Nat → Nat) : Nat → Nat × (Nat → Nat → Nat)
 | 0 => (0, F)
 | c + 1 => stepC N c (downs N F c)
theorem stepC_le {N c : Nat} {s : Nat × (Nat → Nat → Nat)} (h : s.1 ≤ N) : (stepC N c s).1 ≤ N := by
 unfold stepC
 split
 ·exact h
 ·split
  ·exact h
  ·show s.1 + 1 ≤ N; omega
theorem downs_le (N : Nat) (F : Nat → Nat → Nat) : ∀ c, (downs N F c).1 ≤ N
 | 0 => Nat.zero_le _
 | c + 1 => stepC_le (downs_le N F c)
theorem downs_stop {N : Nat} {F : Nat → Nat → Nat} {c : Nat} (h : (downs N F c).1 = N) : ∀ k, downs N F (c + k) = downs N F c
 | 0 => rfl
 | k + 1 => by
   show stepC N (c + k) (downs N F (c + k)) = _
   rw [downs_stop h k]
   unfold stepC
   rw [if_pos h]
def Byt (F : Nat → Nat → Nat) (N L : Nat) : Prop := ∀ i, i < N → ∀ j, j < L → F i j < 256
theorem pivF_lt (G : Nat → Nat → Nat) (d c j : Nat) : pivF G d c j < 256 := Fld.gm_lt _ _
theorem elimF_byt {G : Nat → Nat → Nat} {d c N L : Nat} (h : Byt G N L) : Byt (elimF G d c) N L := fun i hi j hj => by
 unfold elimF
 split
 ·exact pivF_lt _ _ _ _
 ·exact plusF_lt (h i hi j hj)
theorem Byt.turn {F : Nat → Nat → Nat} {d a N L : Nat} (h : Byt F N L) (ha : a < N) : Byt (fun i => F (sig d a i)) N L := fun i hi j hj => h _ (sig_lt ha hi) j hj
def seg (xs : List Value) : Nat → List Value → List Value
 | _, [] => xs
 | o, c :: cs => seg (xs.set o c) (o + 1) cs
theorem seg_get : ∀ (cs xs : List Value) (o j : Nat), (seg xs o cs)[j]? = if o ≤ j ∧ j < o + cs.length ∧ j < xs.length then cs[j - o]? else xs[j]?
 | [], xs, o, j => by
   rw [seg, if_neg]
   simp; omega
 | c :: cs, xs, o, j => by
   rw [seg, seg_get cs (xs.set o c) (o + 1) j]
   simp only [List.length_set, List.length_cons]
   by_cases h1 : j = o
   ·subst h1
    rw [if_neg (show ¬ (j + 1 ≤ j ∧ j < j + 1 + cs.length ∧ j < xs.length) by omega), List.getElem?_set, if_pos rfl]
    by_cases h2 : j < xs.length
    ·rw [if_pos h2, if_pos (show j ≤ j ∧ j < j + (cs.length + 1) ∧ j < xs.length by omega), Nat.sub_self]; rfl
    ·rw [if_neg h2, if_neg (by omega), List.getElem?_eq_none (by omega)]
   ·by_cases h2 : o + 1 ≤ j ∧ j < o + 1 + cs.length ∧ j < xs.length
    ·rw [if_pos h2, if_pos (by omega), show j - o = (j - (o + 1)) + 1 by omega, List.getElem?_cons_succ]
    ·rw [if_neg h2, if_neg (by omega), List.getElem?_set, if_neg (fun h => h1 h.symm)]
theorem row_seg {g : Nat} {base : Nat} {e : TypeId} {n cap : Nat} : ∀ (cs : List Value) {w : World} {xs : List Value} (o : Nat), w.ownsRow base e 1 (.slice (some ⟨g, 0, none⟩) n cap) n xs → o + cs.length ≤ n → (w.setCells g o cs).ownsRow base e 1 (.slice (some ⟨g, 0, none⟩) n cap) n (seg xs o cs)
 | [], w, xs, o, h, _ => h
 | c :: cs, w, xs, o, h, hl => by
   simp only [List.length_cons] at hl
   exact row_seg cs (o + 1) (Vm.row_set h o (by omega) c) (by omega)
theorem setCells_fr (g : Nat) : ∀ (cs : List Value) (w : World) (o : Nat), Vm.Fr [g] w (w.setCells g o cs)
 | [], w, o => Vm.Fr.refl _ _
 | c :: cs, w, o => (Vm.Fr.cell w ⟨g, o, none⟩ c).next (setCells_fr g cs _ (o + 1))
def midV (R C : Nat → Nat) (L d a : Nat) : List Value := (List.range (a - d)).map fun i => .slice (some ⟨R (d + i), 0, none⟩) L (C (d + i))
theorem midV_len (R C : Nat → Nat) (L d a : Nat) : (midV R C L d a).length = a - d := by simp [midV]
theorem midV_get (R C : Nat → Nat) (L : Nat) {d a i : Nat} (h : i < a - d) : (midV R C L d a)[i]? = some (.slice (some ⟨R (d + i), 0, none⟩) L (C (d + i))) := by simp [midV, h]
theorem midV_one (R C : Nat → Nat) (L d a : Nat) : ∀ v ∈ midV R C L d a, v.oneCell' = true := by
 intro v hv
 simp only [midV, List.mem_map] at hv
 obtain ⟨i, _, rfl⟩ := hv
 rfl
theorem rowsV_turn (R C : Nat → Nat) (N L : Nat) {d a : Nat} (hd : d ≤ a) (ha : a < N) :
 (seg (rowsV N L R C) (d + 1) (midV R C L d a)).set d (.slice (some ⟨R a, 0, none⟩) L (C a)) = rowsV N L (fun i => R (sig d a i)) (fun i => C (sig d a i)) := by
 apply List.ext_getElem?
 intro j
 have hlen : (seg (rowsV N L R C) (d + 1) (midV R C L d a)).length = N := by
  have h1 : ∀ i, (seg (rowsV N L R C) (d + 1) (midV R C L d a))[i]? = none ↔ N ≤ i := fun i => by
   rw [seg_get, rowsV_len, midV_len]
   split
   ·rw [midV_get _ _ _ (by omega)]; simp; omega
   ·rw [List.getElem?_eq_none_iff, rowsV_len]
  have h2 := (h1 N).2 (Nat.le_refl _)
  have h3 := List.getElem?_eq_none_iff.1 h2
  rcases Nat.lt_or_ge (seg (rowsV N L R C) (d + 1) (midV R C L d a)).length N with h | h
  ·have := (h1 _).1 (List.getElem?_eq_none (Nat.le_refl _)); omega
  ·omega
 rw [List.getElem?_set, hlen]
 by_cases hj : j < N
 ·rw [rowsV_get _ _ _ _ hj]
  by_cases h1 : d = j
  ·rw [if_pos h1, if_pos (by omega)]
   unfold sig; rw [if_pos h1.symm]
  ·rw [if_neg h1, seg_get, rowsV_len, midV_len]
   by_cases h2 : d + 1 ≤ j ∧ j < d + 1 + (a - d) ∧ j < N
   ·rw [if_pos h2, midV_get _ _ _ (by omega)]
    unfold sig
    rw [if_neg (fun h => h1 h.symm), if_pos (by omega), show d + (j - (d + 1)) = j - 1 by omega]
   ·rw [if_neg h2, rowsV_get _ _ _ _ hj]
    unfold sig
    rw [if_neg (fun h => h1 h.symm), if_neg (by omega)]
 ·rw [if_neg (by omega), seg_get, rowsV_len, if_neg (by omega), List.getElem?_eq_none (by rw [rowsV_len]; omega), List.getElem?_eq_none (by rw [rowsV_len]; omega)]
section
variable {w w' : World} {base : Nat} {v : Value} {N L g cap : Nat} {R C : Nat → Nat} {F G : Nat → Nat → Nat}
theorem Mat.turn (h : Mat w base (.slice (some ⟨g, 0, none⟩) N cap) N L R C F) {d a : Nat} (hd : d ≤ a) (ha : a < N) :
 Mat ((w.setCells g (d + 1) (midV R C L d a)).setCell ⟨g, d, none⟩ (.slice (some ⟨R a, 0, none⟩) L (C a))) base (.slice (some ⟨g, 0, none⟩) N cap) N L (fun i => R (sig d a i)) (fun i => C (sig d a i)) (fun i => F (sig d a i)) := by
 have hfr : Vm.Fr [g] w ((w.setCells g (d + 1) (midV R C L d a)).setCell ⟨g, d, none⟩ (.slice (some ⟨R a, 0, none⟩) L (C a))) := (setCells_fr g _ w (d + 1)).next (Vm.Fr.cell _ ⟨g, d, none⟩ _)
 have hoff : ∀ i, i < N → R i ≠ g := fun i hi e => h.off i hi (by rw [e]; rfl)
 refine ⟨?_, fun i hi => ?_, fun i hi => h.low _ (sig_lt ha hi), fun i j hi hj he => sig_inj hd (h.inj _ _ (sig_lt ha hi) (sig_lt ha hj) he), fun i hi => h.off _ (sig_lt ha hi)⟩
 ·have := Vm.row_set (row_seg (midV R C L d a) (d + 1) h.row (by rw [midV_len]; omega)) d (by omega) (.slice (some ⟨R a, 0, none⟩) L (C a))
  rw [rowsV_turn R C N L hd ha] at this
  exact this
 ·have hr := h.st _ (sig_lt (d := d) ha hi)
  exact hr.keep (hfr.block _ hr.lt (by simpa using hoff _ (sig_lt ha hi)))
theorem Mat.row_ (h : Mat w base v N L R C F) {i : Nat} (hi : i < N) {f : Nat → Nat} (hr : RowAt w' (R i) L (C i) f) (hfr : Vm.Fr [R i] w w') (hG : ∀ k, k < N → ∀ j, j < L → (if k = i then f else F k) j = G k j) : Mat w' base v N L R C G := by
 refine ⟨Vm.row_heap h.row fun g hg => ?_, fun k hk => ?_, h.low, h.inj, h.off⟩
 ·refine hfr.block g (Vm.row_lt h.row hg) ?_
  have := h.off i hi
  rw [hg] at this
  simpa using fun e => this (by rw [e])
 ·by_cases he : k = i
  ·subst he
   exact hr.congr fun j hj => by have := hG k hk j hj; rwa [if_pos rfl] at this
  ·have h2 := h.st k hk
   refine (h2.keep (hfr.block _ h2.lt ?_)).congr fun j hj => by have := hG k hk j hj; rwa [if_neg he] at this
   simpa using fun e => he (h.inj k i hk hi e)
end
end Sol
end Go.Proofs.YtnbkhdbligjifaaGreatDoor
