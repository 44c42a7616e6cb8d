/-
 Any K rows of a code's matrix can be turned about: Cauchy's rows are told apart, and elimination finds a row for each column (plain). Read and Shards in a calm world, in plain words. The stripe laws: a world of three stores; how many calls a write takes; stores that are well.
-/
import Derived.Test.YtnbkhdbligjifaaGreatDoorCodP
import Derived.Test.YtnbkhdbligjifaaGreatDoorStrH
set_option linter.unusedVariables false
set_option linter.unusedSimpArgs false
set_option maxRecDepth 100000
set_option maxHeartbeats 40000000
namespace Go.Proofs.YtnbkhdbligjifaaGreatDoor
open Go Go.RowKit
namespace Gf
/-! ### inverses -/
theorem gm_gi {a : Nat} (ha : a < 256) (h0 : a ≠ 0) : Fld.gm a (Cod.gi a) = 1 := (by decide +kernel : ∀ x : Fin 256, x.1 ≠ 0 → Fld.gm x.1 (Cod.gi x.1) = 1) ⟨a, ha⟩ h0
theorem gi_ne {a : Nat} (ha : a < 256) (h0 : a ≠ 0) : Cod.gi a ≠ 0 := fun h => by
 have := gm_gi ha h0
 rw [h, gm_zr] at this
 cases this
theorem gm_cancel {a x : Nat} (ha : a < 256) (hx : x < 256) (h0 : a ≠ 0) (h : Fld.gm a x = 0) : x = 0 := by
 rcases Nat.eq_zero_or_pos x with h1 | h1
 ·exact h1
 ·exact absurd h (gm_ne ha hx h0 (by omega))
theorem xor_eq {a b : Nat} (h : Nat.xor a b = 0) : a = b := by
 have := congrArg (fun x => Nat.xor x b) h
 simp only [xor_a, xor_s, xor_0, zero_x] at this
 exact this
theorem xor_ne {a b : Nat} (h : a ≠ b) : Nat.xor a b ≠ 0 := fun e => h (xor_eq e)
/-! ### sums over lists -/
def ls (S : List Nat) (f : Nat → Nat) : Nat := match S with
 | [] => 0
 | j :: r => Nat.xor (f j) (ls r f)
theorem ls_lt {f : Nat → Nat} (hf : ∀ j, f j < 256) : ∀ S, ls S f < 256
 | [] => by simp [ls]
 | j :: r => xor_lt8 (hf j) (ls_lt hf r)
theorem ls_xor (f g : Nat → Nat) : ∀ S, ls S (fun j => Nat.xor (f j) (g j)) = Nat.xor (ls S f) (ls S g)
 | [] => (xor_s 0).symm
 | j :: r => by rw [ls, ls, ls, ls_xor f g r, xor_4]
theorem ls_gm {a : Nat} (ha : a < 256) {f : Nat → Nat} (hf : ∀ j, f j < 256) : ∀ S, Fld.gm a (ls S f) = ls S fun j => Fld.gm a (f j)
 | [] => gm_zr a
 | j :: r => by rw [ls, ls, gm_xor ha (hf j) (ls_lt hf r), ls_gm ha hf r]
theorem ls_congr {f g : Nat → Nat} : ∀ {S : List Nat}, (∀ j ∈ S, f j = g j) → ls S f = ls S g
 | [], _ => rfl
 | j :: r, h => by rw [ls, ls, h j (by simp), ls_congr fun i hi => h i (by simp [hi])]
theorem ls_zero : ∀ S, ls S (fun _ => 0) = 0
 | [] => rfl
 | j :: r => by rw [ls, ls_zero r]; rfl
def cy (i j : Nat) : Nat := Cod.gi (Nat.xor i j)
theorem cy_lt (i j : Nat) : cy i j < 256 := Cod.gi_lt _
theorem cy_split {i j t : Nat} (hi : i < 256) (hj : j < 256) (ht : t < 256) (hn : i ≠ j) : Fld.gm (Nat.xor i t) (cy i j) = Nat.xor 1 (Fld.gm (Nat.xor t j) (cy i j)) := by
 rw [show Nat.xor i t = Nat.xor (Nat.xor i j) (Nat.xor t j) by rw [xor_4, xor_s, xor_0], xor_gm (xor_lt8 hi hj) (xor_lt8 ht hj) (cy_lt i j), cy, gm_gi (xor_lt8 hi hj) (xor_ne hn)]
theorem cy_diff {i j r : Nat} (hi : i < 256) (hj : j < 256) (hr : r < 256) (hn : i ≠ j) (hn2 : r ≠ j) : Nat.xor (cy i j) (cy r j) = Fld.gm (Nat.xor i r) (Fld.gm (cy r j) (cy i j)) := by
 have h1 : cy r j = Fld.gm (Fld.gm (Nat.xor i j) (cy i j)) (cy r j) := by rw [cy, cy, gm_gi (xor_lt8 hi hj) (xor_ne hn), gm_one (Cod.gi_lt _)]
 have h2 : cy i j = Fld.gm (Fld.gm (Nat.xor r j) (cy r j)) (cy i j) := by rw [cy, cy, gm_gi (xor_lt8 hr hj) (xor_ne hn2), gm_one (Cod.gi_lt _)]
 have h3 : Fld.gm (Fld.gm (Nat.xor i j) (cy i j)) (cy r j) = Fld.gm (Nat.xor i j) (Fld.gm (cy r j) (cy i j)) := by
  rw [gm_assoc (xor_lt8 hi hj) (cy_lt _ _) (cy_lt _ _), gm_comm (cy i j)]
 have h4 : Fld.gm (Fld.gm (Nat.xor r j) (cy r j)) (cy i j) = Fld.gm (Nat.xor r j) (Fld.gm (cy r j) (cy i j)) := gm_assoc (xor_lt8 hr hj) (cy_lt _ _) (cy_lt _ _)
 rw [h3] at h1
 rw [h4] at h2
 have h5 : Nat.xor (cy i j) (cy r j) = Nat.xor (Fld.gm (Nat.xor r j) (Fld.gm (cy r j) (cy i j))) (Fld.gm (Nat.xor i j) (Fld.gm (cy r j) (cy i j))) := by rw [← h1, ← h2]
 rw [h5, ← xor_gm (xor_lt8 hr hj) (xor_lt8 hi hj) (Fld.gm_lt _ _)]
 congr 1
 rw [xor_4, xor_s, xor_0, xor_c]
theorem cauchy : ∀ (S R : List Nat) (v : Nat → Nat), S.length = R.length → S.Nodup → R.Nodup → (∀ j ∈ S, j < 256) → (∀ i ∈ R, i < 256) → (∀ i ∈ R, ∀ j ∈ S, i ≠ j) → (∀ j, v j < 256) →
 (∀ i ∈ R, ls S (fun j => Fld.gm (v j) (cy i j)) = 0) → ∀ j ∈ S, v j = 0
 | [], _, _, _, _, _, _, _, _, _, _ => fun j hj => by cases hj
 | t :: S, [], _, h, _, _, _, _, _, _, _ => by simp at h
 | t :: S, r :: R, v, hl, hS, hR, bS, bR, hne, bv, h0 => by
   have bt := bS t (by simp)
   have br := bR r (by simp)
   have nrt := hne r (by simp) t (by simp)
   rw [List.nodup_cons] at hS hR
   have key : ∀ j ∈ S, Fld.gm (v j) (Fld.gm (Nat.xor t j) (cy r j)) = 0 := by
    refine cauchy S R (fun j => Fld.gm (v j) (Fld.gm (Nat.xor t j) (cy r j))) (by simpa using hl) hS.2 hR.2 (fun j hj => bS j (by simp [hj])) (fun i hi => bR i (by simp [hi])) (fun i hi j hj => hne i (by simp [hi]) j (by simp [hj])) (fun j => Fld.gm_lt _ _) fun i hi => ?_
    have bi := bR i (by simp [hi])
    have nir : i ≠ r := fun e => hR.1 (e ▸ hi)
    have e1 := h0 i (by simp [hi])
    have e2 := h0 r (by simp)
    -- both, times what takes t away, together
    have g1 : Fld.gm (Nat.xor i t) (ls (t :: S) fun j => Fld.gm (v j) (cy i j)) = 0 := by rw [e1, gm_zr]
    have g2 : Fld.gm (Nat.xor r t) (ls (t :: S) fun j => Fld.gm (v j) (cy r j)) = 0 := by rw [e2, gm_zr]
    rw [ls_gm (xor_lt8 bi bt) fun j => Fld.gm_lt _ _] at g1
    rw [ls_gm (xor_lt8 br bt) fun j => Fld.gm_lt _ _] at g2
    have g3 : ls (t :: S) (fun j => Fld.gm (Nat.xor i r) (Fld.gm (Fld.gm (v j) (Fld.gm (Nat.xor t j) (cy r j))) (cy i j))) = 0 := by
     have g12 : ls (t :: S) (fun j => Nat.xor (Fld.gm (Nat.xor i t) (Fld.gm (v j) (cy i j))) (Fld.gm (Nat.xor r t) (Fld.gm (v j) (cy r j)))) = 0 := by rw [ls_xor, g1, g2, xor_s]
     rw [← g12]
     refine ls_congr fun j hj => ?_
     have bj := bS j hj
     have nij := hne i (by simp [hi]) j hj
     have nrj := hne r (by simp) j hj
     have c1 : Fld.gm (Nat.xor i t) (Fld.gm (v j) (cy i j)) = Fld.gm (v j) (Nat.xor 1 (Fld.gm (Nat.xor t j) (cy i j))) := by
      rw [gm_comm (v j), ← gm_assoc (xor_lt8 bi bt) (cy_lt _ _) (bv j), cy_split bi bj bt nij, gm_comm]
     have c2 : Fld.gm (Nat.xor r t) (Fld.gm (v j) (cy r j)) = Fld.gm (v j) (Nat.xor 1 (Fld.gm (Nat.xor t j) (cy r j))) := by
      rw [gm_comm (v j), ← gm_assoc (xor_lt8 br bt) (cy_lt _ _) (bv j), cy_split br bj bt nrj, gm_comm]
     rw [c1, c2, ← gm_xor (bv j) (xor_lt8 (by decide) (Fld.gm_lt _ _)) (xor_lt8 (by decide) (Fld.gm_lt _ _)), xor_4, xor_s, zero_x, ← gm_xor (xor_lt8 bt bj) (cy_lt _ _) (cy_lt _ _), cy_diff bi bj br nij nrj]
     have q := xor_lt8 bi br
     have q2 := xor_lt8 bt bj
     generalize Nat.xor i r = X at *
     generalize Nat.xor t j = Y at *
     have y1 := cy_lt r j
     have y2 := cy_lt i j
     generalize cy r j = C at *
     generalize cy i j = D at *
     have bvj := bv j
     generalize v j = V at *
     rw [gm_assoc bvj (Fld.gm_lt _ _) y2, gm_assoc q2 y1 y2]
     rw [← gm_assoc q bvj (Fld.gm_lt _ _), gm_comm X V, gm_assoc bvj q (Fld.gm_lt _ _)]
     congr 1
     rw [← gm_assoc q q2 (Fld.gm_lt _ _), gm_comm X Y, gm_assoc q2 q (Fld.gm_lt _ _)]
    rw [← ls_gm (xor_lt8 bi br) fun j => Fld.gm_lt _ _] at g3
    have g4 := gm_cancel (xor_lt8 bi br) (ls_lt (fun j => Fld.gm_lt _ _) _) (xor_ne nir) g3
    rw [ls] at g4
    rw [xor_s t, gm_zl, gm_zr, gm_zl, zero_x] at g4
    exact g4
   have rest : ∀ j ∈ S, v j = 0 := fun j hj => by
    have bj := bS j (by simp [hj])
    have nrj := hne r (by simp) j (by simp [hj])
    have ntj : t ≠ j := fun e => hS.1 (e ▸ hj)
    have h1 := key j hj
    rw [gm_comm] at h1
    exact gm_cancel (Fld.gm_lt _ _) (bv j) (gm_ne (xor_lt8 bt bj) (cy_lt _ _) (xor_ne ntj) (gi_ne (xor_lt8 br bj) (xor_ne nrj))) h1
   intro j hj
   rcases List.mem_cons.1 hj with rfl | hj
   ·have e2 := h0 r (by simp)
    rw [ls, ls_congr (g := fun _ => 0) (fun i hi => by rw [rest i hi, gm_zl]), ls_zero, xor_0, gm_comm] at e2
    exact gm_cancel (cy_lt _ _) (bv j) (gi_ne (xor_lt8 br bt) (xor_ne nrt)) e2
   ·exact rest j hj
theorem ls_append (f : Nat → Nat) : ∀ S T, ls (S ++ T) f = Nat.xor (ls S f) (ls T f)
 | [], T => (zero_x _).symm
 | j :: S, T => by rw [List.cons_append, ls, ls, ls_append f S T, xor_a]
theorem sm_ls (f : Nat → Nat) : ∀ m, sm f m = ls (List.range m) f
 | 0 => rfl
 | m + 1 => by rw [sm, sm_ls f m, List.range_succ, ls_append, ls, ls, xor_0]
theorem ls_filter {f : Nat → Nat} {p : Nat → Bool} : ∀ {S : List Nat}, (∀ j ∈ S, p j = false → f j = 0) → ls S f = ls (S.filter p) f
 | [], _ => rfl
 | j :: S, h => by
   have ih := ls_filter (S := S) fun i hi => h i (by simp [hi])
   cases hp : p j with
   | true => rw [List.filter_cons_of_pos hp, ls, ls, ih]
   | false => rw [List.filter_cons_of_neg (by simp [hp]), ls, h j (by simp) hp, zero_x, ih]
def dot (K : Nat) (f v : Nat → Nat) : Nat := sm (fun j => Fld.gm (f j) (v j)) K
def Ker (K : Nat) (F : Nat → Nat → Nat) (v : Nat → Nat) : Prop := ∀ i, i < K → dot K (F i) v = 0
theorem dot_lt (K : Nat) (f v : Nat → Nat) : dot K f v < 256 := sm_lt fun _ _ => Fld.gm_lt _ _
theorem dot_mul {K y : Nat} {f v : Nat → Nat} (hf : ∀ j, j < K → f j < 256) (hv : ∀ j, j < K → v j < 256) (hy : y < 256) : dot K (fun j => Fld.gm (f j) y) v = Fld.gm y (dot K f v) := by
 unfold dot
 rw [gm_sm hy fun j _ => Fld.gm_lt _ _]
 refine sm_congr fun j hj => ?_
 show Fld.gm (Fld.gm (f j) y) (v j) = Fld.gm y (Fld.gm (f j) (v j))
 rw [gm_comm (f j) y, gm_assoc hy (hf j hj) (hv j hj)]
theorem dot_plus {K y : Nat} {f g v : Nat → Nat} (hf : ∀ j, j < K → f j < 256) (hg : ∀ j, j < K → g j < 256) (hv : ∀ j, j < K → v j < 256) (hy : y < 256) : dot K (fun j => Nat.xor (f j) (Fld.gm (g j) y)) v = Nat.xor (dot K f v) (Fld.gm y (dot K g v)) := by
 rw [← dot_mul hg hv hy]
 unfold dot
 rw [← sm_xor]
 refine sm_congr fun j hj => ?_
 rw [xor_gm (hf j hj) (Fld.gm_lt _ _) (hv j hj)]
end Gf
namespace Cod
open Gf
theorem filter_len {α : Type} (p : α → Bool) : ∀ l : List α, l.length = (l.filter p).length + (l.filter fun a => !p a).length
 | [] => rfl
 | a :: l => by
   have := filter_len p l
   cases h : p a <;> simp [h] <;> omega
theorem pick_ker {K N : Nat} {hs : List Nat} (hN : N ≤ 12) (hlen : hs.length = K) (hnd : hs.Nodup) (hlt : ∀ x ∈ hs, x < N) (hKN : K ≤ N) {v : Nat → Nat} (hv : ∀ j, v j < 256) (h : Ker K (Sol.pick (matL K N) hs) v) : ∀ j, j < K → v j = 0 := by
 have hrow : ∀ a ∈ hs, sm (fun j => Fld.gm (entN K a j) (v j)) K = 0 := by
  intro a ha
  obtain ⟨i, hi, rfl⟩ := List.getElem_of_mem ha
  have hg : hs.getD i 0 = hs[i] := by rw [List.getD, List.getElem?_eq_getElem hi, Option.getD_some]
  have := h i (by omega)
  unfold dot at this
  rw [sm_congr (g := fun j => Fld.gm (entN K hs[i] j) (v j)) fun j hj => by rw [pick_mat (by rw [hg]; exact hlt _ ha) hj, hg]] at this
  exact this
 have hun : ∀ a ∈ hs, a < K → v a = 0 := by
  intro a ha hak
  have := hrow a ha
  rw [sm_congr (g := fun l => Fld.gm (if a = l then 1 else 0) (v l)) fun j hj => ?_, sm_one hak, gm_one (hv a)] at this
  ·exact this
  ·rw [entN, if_pos hak, oneN]
   congr 1
   by_cases e : a = j
   ·rw [if_pos e, if_pos (by rw [e])]
   ·rw [if_neg e, if_neg (fun h => e (by exact_mod_cast h))]
 have key : ∀ j ∈ (List.range K).filter (fun j => !hs.contains j), v j = 0 := by
  refine cauchy _ (hs.filter fun a => !decide (a < K)) v ?_ ?_ ?_ ?_ ?_ ?_ hv ?_
  ·have h1 := filter_len (fun j => hs.contains j) (List.range K)
   have h2 := filter_len (fun a => decide (a < K)) hs
   have h3 : ((List.range K).filter fun j => hs.contains j).length = (hs.filter fun a => decide (a < K)).length := by
    refine List.Perm.length_eq ((List.perm_ext_iff_of_nodup (List.nodup_range.filter _) (hnd.filter _)).2 fun a => ?_)
    simp only [List.mem_filter, List.mem_range, List.contains_iff_mem, decide_eq_true_eq]
    exact And.comm
   rw [List.length_range] at h1
   omega
  ·exact List.nodup_range.filter _
  ·exact hnd.filter _
  ·intro j hj
   have := List.mem_range.1 (List.mem_filter.1 hj).1
   omega
  ·intro i hi
   have := hlt _ (List.mem_filter.1 hi).1
   omega
  ·intro i hi j hj
   have h1 := List.mem_range.1 (List.mem_filter.1 hj).1
   have h2 := (List.mem_filter.1 hi).2
   simp only [Bool.not_eq_true', decide_eq_false_iff_not] at h2
   omega
  ·intro i hi
   have h2 := (List.mem_filter.1 hi).2
   simp only [Bool.not_eq_true', decide_eq_false_iff_not] at h2
   have := hrow i (List.mem_filter.1 hi).1
   rw [sm_ls, ls_filter (p := fun j => !hs.contains j)] at this
   ·rw [← this]
    refine ls_congr fun j hj => ?_
    rw [entN, if_neg h2, gm_comm]; rfl
   ·intro j hj hp
    rw [hun j (by simpa using hp) (List.mem_range.1 hj), gm_zr]
 intro j hj
 by_cases hm : j ∈ hs
 ·exact hun j hm hj
 ·exact key j (List.mem_filter.2 ⟨List.mem_range.2 hj, by simpa using hm⟩)
end Cod
namespace Sol
open Gf
theorem seek_none {F : Nat → Nat → Nat} {c : Nat} : ∀ {k a : Nat}, seek F c k a = none → ∀ i, a ≤ i → i < a + k → F i c = 0
 | 0, a, _, i, h1, h2 => by omega
 | k + 1, a, h, i, h1, h2 => by
   rw [seek] at h
   by_cases h0 : F a c = 0
   ·rw [if_pos h0] at h
    by_cases e : i = a
    ·rw [e, h0]
    ·exact seek_none h i (by omega) (by omega)
   ·rw [if_neg h0] at h
    cases h
theorem sig_onto {d a N i : Nat} (hd : d ≤ a) (ha : a < N) (hi : i < N) : ∃ k, k < N ∧ sig d a k = i := by
 by_cases h1 : i = a
 ·exact ⟨d, by omega, by unfold sig; rw [if_pos rfl, h1]⟩
 ·by_cases h2 : d ≤ i ∧ i < a
  ·exact ⟨i + 1, by omega, by unfold sig; rw [if_neg (by omega), if_pos (by omega)]; omega⟩
  ·exact ⟨i, hi, by unfold sig; rw [if_neg (by omega), if_neg (by omega)]⟩
structure Inv (K L : Nat) (F : Nat → Nat → Nat) (c : Nat) (G : Nat → Nat → Nat) : Prop where
 byt : Byt G K L
 unit : ∀ i, i < K → ∀ j, j < c → G i j = if i = j then 1 else 0
 ker : ∀ v : Nat → Nat, (∀ j, v j < 256) → Ker K G v → Ker K F v
theorem Inv.step {K L c a : Nat} {F G : Nat → Nat → Nat} (h : Inv K L F c G) (hL : K ≤ L) (hc : c < K) (ha : c ≤ a) (ha2 : a < K) (h0 : G a c ≠ 0) : Inv K L F (c + 1) (elimF (fun i => G (sig c a i)) c c) := by
 have hb := h.byt.turn (d := c) ha2
 have hcc : sig c a c = a := by unfold sig; rw [if_pos rfl]
 have hle : ∀ i, i < c → sig c a i = i := fun i hi => by unfold sig; rw [if_neg (by omega), if_neg (by omega)]
 have hge : ∀ i, c ≤ i → c ≤ sig c a i := fun i hi => by unfold sig; split; exact ha; split <;> omega
 have hu : ∀ i, i < K → ∀ j, j < c → G (sig c a i) j = if i = j then 1 else 0 := fun i hi j hj => by
  rw [h.unit _ (sig_lt ha2 hi) j hj]
  by_cases hic : i < c
  ·rw [hle i hic]
  ·have := hge i (by omega)
   rw [if_neg (by omega), if_neg (by omega)]
 have hac := h.byt a ha2 c (by omega)
 have hp : ∀ j, j < c → pivF (fun i => G (sig c a i)) c c j = 0 := fun j hj => by
  unfold pivF
  show Fld.gm (G (sig c a c) j) _ = 0
  rw [hu c hc j hj, if_neg (by omega), gm_zl]
 have hp1 : pivF (fun i => G (sig c a i)) c c c = 1 := by
  unfold pivF
  simp only [hcc]
  exact gm_gi hac h0
 refine ⟨elimF_byt hb, fun i hi j hj => ?_, fun v hv hk => ?_⟩
 ·unfold elimF
  by_cases hjc : j = c
  ·subst hjc
   by_cases hij : i = j
   ·rw [if_pos hij, if_pos hij, hp1]
   ·rw [if_neg hij, if_neg hij]
    unfold plusF
    rw [hp1, gm_one (hb i hi j (by omega)), xor_s]
  ·have hj2 : j < c := by omega
   by_cases hic : i = c
   ·rw [if_pos hic, if_neg (by omega), hp j hj2]
   ·rw [if_neg hic]
    unfold plusF
    rw [hp j hj2, gm_zl, xor_0]
    exact hu i hi j hj2
 ·refine h.ker v hv fun i hi => ?_
  have hpv : dot K (pivF (fun i => G (sig c a i)) c c) v = 0 := by
   have := hk c hc
   unfold elimF at this
   rwa [if_pos rfl] at this
  obtain ⟨k, hk2, rfl⟩ := sig_onto ha ha2 hi
  by_cases hkc : k = c
  ·subst hkc
   have hd : dot K (pivF (fun i => G (sig k a i)) k k) v = Fld.gm (Cod.gi (G (sig k a k) k)) (dot K (G (sig k a k)) v) :=
    dot_mul (f := G (sig k a k)) (fun j hj => hb k hk2 j (by omega)) (fun j _ => hv j) (Cod.gi_lt _)
   rw [hd] at hpv
   refine gm_cancel (Cod.gi_lt _) (dot_lt _ _ _) (gi_ne ?_ ?_) hpv
   ·rw [hcc]; exact hac
   ·rw [hcc]; exact h0
  ·have := hk k hk2
   unfold elimF at this
   rw [if_neg hkc] at this
   have hd : dot K (plusF (G (sig c a k)) (pivF (fun i => G (sig c a i)) c c) (G (sig c a k) c)) v = Nat.xor (dot K (G (sig c a k)) v) (Fld.gm (G (sig c a k) c) (dot K (pivF (fun i => G (sig c a i)) c c) v)) :=
    dot_plus (f := G (sig c a k)) (g := pivF (fun i => G (sig c a i)) c c) (fun j hj => hb k hk2 j (by omega)) (fun j _ => pivF_lt _ _ _ _) (fun j _ => hv j) (hb k hk2 c (by omega))
   rw [hd, hpv, gm_zr, xor_0] at this
   exact this
theorem Inv.no {K L c : Nat} {F G : Nat → Nat → Nat} (h : Inv K L F c G) (hL : K ≤ L) (hc : c < K) (h0 : ∀ i, c ≤ i → i < K → G i c = 0) (hF : ∀ v : Nat → Nat, (∀ j, v j < 256) → Ker K F v → ∀ j, j < K → v j = 0) : False := by
 have hv : ∀ j, (if j < c then G j c else if j = c then 1 else 0) < 256 := fun j => by
  split
  ·exact h.byt j (by omega) c (by omega)
  ·split <;> omega
 have := hF _ hv (h.ker _ hv fun i hi => ?_) c hc
 ·simp at this
 ·unfold dot
  by_cases hic : i < c
  ·have e : ∀ m, m ≤ K → sm (fun j => Fld.gm (G i j) (if j < c then G j c else if j = c then 1 else 0)) m = if m ≤ i then 0 else if m ≤ c then G i c else 0 := by
    intro m
    induction m with
    | zero => intro _; rw [if_pos (by omega)]; rfl
    | succ m ih =>
      intro hm
      rw [sm, ih (by omega)]
      by_cases h1 : m < c
      ·rw [h.unit i hi m h1, if_pos h1]
       by_cases h2 : i = m
       ·subst h2
        rw [if_pos (Nat.le_refl _), if_pos rfl, if_neg (by omega), if_pos (by omega), zero_x, gm_one (h.byt i hi c (by omega))]
       ·rw [if_neg h2, gm_zl, xor_0]
        by_cases h3 : m ≤ i
        ·rw [if_pos h3, if_pos (by omega)]
        ·rw [if_neg h3, if_pos (by omega), if_neg (by omega), if_pos (by omega)]
      ·by_cases h2 : m = c
       ·subst h2
        rw [if_neg (by omega), if_pos (Nat.le_refl _), if_neg (by omega), if_pos rfl, if_neg (by omega), if_neg (by omega), gm_comm, gm_one (h.byt i hi m (by omega)), xor_s]
       ·rw [if_neg (by omega), if_neg (by omega), if_neg h1, if_neg h2, gm_zr, if_neg (by omega), if_neg (by omega)]; rfl
   rw [e K (Nat.le_refl _), if_neg (by omega), if_neg (by omega)]
  ·rw [sm_congr (g := fun _ => 0) fun j hj => ?_, sm_zero]
   by_cases h1 : j < c
   ·rw [h.unit i hi j h1, if_neg (by omega), gm_zl]
   ·simp only [if_neg h1]
    by_cases h2 : j = c
    ·rw [h2, h0 i (by omega) hi, gm_zl]
    ·rw [if_neg h2, gm_zr]
theorem downs_inv {K L : Nat} {F F0 : Nat → Nat → Nat} (hL : K ≤ L) (hb : Byt F0 K L) (h0 : ∀ i, i < K → ∀ j, j < K → F0 i j = F i j) (hF : ∀ v : Nat → Nat, (∀ j, v j < 256) → Ker K F v → ∀ j, j < K → v j = 0) : ∀ c, c ≤ K → (downs K F0 c).1 = c ∧ Inv K L F c (downs K F0 c).2
 | 0, _ => ⟨rfl, hb, fun i hi j hj => by omega, fun v hv hk i hi => by
  have := hk i hi
  unfold dot at this ⊢
  rw [← this]
  exact sm_congr fun j hj => by rw [show (downs K F0 0).2 i j = F0 i j from rfl, h0 i hi j hj]⟩
 | c + 1, hc => by
   obtain ⟨h1, h2⟩ := downs_inv hL hb h0 hF c (by omega)
   rw [downs]
   unfold stepC
   rw [if_neg (by omega), h1]
   split
   ·rename_i hs
    exact (h2.no hL (by omega) (fun i hi hi2 => seek_none hs i hi (by omega)) hF).elim
   ·rename_i a hs
    have hs := seek_some hs
    exact ⟨rfl, h2.step hL (by omega) hs.1 (by omega) hs.2.2⟩
def Lin (K : Nat) (F G : Nat → Nat → Nat) : Prop := ∀ i, i < K → ∀ l, l < K → dot K (fun j => G i (K + j)) (fun j => F j l) = G i l
theorem Lin.step {K c a : Nat} {F G : Nat → Nat → Nat} (h : Lin K F G) (hF : Byt F K K) (hG : Byt G K (K + K)) (hc : c < K) (ha2 : a < K) : Lin K F (elimF (fun i => G (sig c a i)) c c) := by
 have hb := hG.turn (d := c) ha2
 have hp : ∀ l, l < K → dot K (fun j => pivF (fun i => G (sig c a i)) c c (K + j)) (fun j => F j l) = pivF (fun i => G (sig c a i)) c c l := fun l hl => by
  have := dot_mul (K := K) (y := Cod.gi (G (sig c a c) c)) (f := fun j => G (sig c a c) (K + j)) (v := fun j => F j l) (fun j hj => hb c hc (K + j) (by omega)) (fun j hj => hF j hj l hl) (Cod.gi_lt _)
  rw [h (sig c a c) (sig_lt ha2 hc) l hl] at this
  exact this.trans (gm_comm _ _)
 intro i hi l hl
 unfold elimF
 by_cases hic : i = c
 ·simp only [if_pos hic]
  exact hp l hl
 ·simp only [if_neg hic]
  have := dot_plus (K := K) (y := G (sig c a i) c) (f := fun j => G (sig c a i) (K + j)) (g := fun j => pivF (fun i => G (sig c a i)) c c (K + j)) (v := fun j => F j l) (fun j hj => hb i hi (K + j) (by omega)) (fun j _ => pivF_lt _ _ _ _) (fun j hj => hF j hj l hl) (hb i hi c (by omega))
  rw [hp l hl, h (sig c a i) (sig_lt ha2 hi) l hl, gm_comm (G (sig c a i) c)] at this
  exact this
theorem downs_lin {K : Nat} {F : Nat → Nat → Nat} (hF : Byt F K K) (h1 : ∀ c, c ≤ K → (downs K (oneF K K F) c).1 = c) : ∀ c, c ≤ K → Lin K F (downs K (oneF K K F) c).2
 | 0, _ => fun i hi l hl => by
   unfold dot
   show sm (fun j => Fld.gm (oneF K K F i (K + j)) (F j l)) K = oneF K K F i l
   rw [sm_congr (g := fun j => Fld.gm (if i = j then 1 else 0) (F j l)) fun j hj => ?_, sm_one hi, gm_one (hF i hi l hl)]
   ·unfold oneF; rw [if_pos hl]
   ·unfold oneF
    rw [if_neg (by omega)]
    by_cases e : i = j
    ·rw [if_pos ⟨hi, by omega⟩, if_pos e]
    ·rw [if_neg (fun h => e (by omega)), if_neg e]
 | c + 1, hc => by
   have ih := downs_lin hF h1 c (by omega)
   rw [downs]
   unfold stepC
   rw [if_neg (by rw [h1 c (by omega)]; omega), h1 c (by omega)]
   split
   ·exact ih
   ·rename_i a hs
    have hs := seek_some hs
    exact ih.step hF (downs_byt (one_byt hF) c) (by omega) (by omega)
end Sol
namespace Cod
open Gf Sol
theorem turns_any {K N : Nat} {hs : List Nat} (hN : N ≤ 12) (hlen : hs.length = K) (hnd : hs.Nodup) (hlt : ∀ x ∈ hs, x < N) (hKN : K ≤ N) : Turns K N hs := by
 have hB := pick_byt hlen hlt
 have hk := fun v hv h => pick_ker hN hlen hnd hlt hKN (v := v) hv h
 have h1 := fun c hc => downs_inv (L := K + K) (F := pick (matL K N) hs) (F0 := oneF K K (pick (matL K N) hs)) (by omega) (one_byt hB) (fun i hi j hj => by unfold oneF; rw [if_pos hj]) hk c hc
 have h2 := downs_inv (L := K) (F := pick (matL K N) hs) (F0 := wideF K (pick (matL K N) hs)) (by omega) (wide_byt hB) (fun i hi j hj => by unfold wideF; rw [if_pos hj]) hk K (by omega)
 refine ⟨h2.1, fun i hi l hl => ?_⟩
 have hl2 := downs_lin hB (fun c hc => (h1 c hc).1) K (by omega)
 have := hl2 i hi l hl
 rw [(h1 K (by omega)).2.unit i hi l hl] at this
 unfold turnW
 rw [downs_stop (h1 K (by omega)).1]
 exact this
end Cod
end Go.Proofs.YtnbkhdbligjifaaGreatDoor
namespace Go.Proofs.YtnbkhdbligjifaaGreatDoor
open Go Go.RowKit Vm
namespace Str
open Hlt
section
variable {p : PW} {k n : Nat} {d s : ByteArray}
structure Num (k n : Nat) (d s : ByteArray) : Prop where
 code : Shd.codeB (k : Int) (n : Int) = true
 dig : d.size = 32
 len : s.size ≤ 32768
theorem Num.ks (h : Num k n d s) : 1 ≤ k ∧ k ≤ n ∧ n ≤ 12 := by have := (Shd.codeB_iff _ _).1 h.code; omega
def dtB (k n : Nat) (d s : ByteArray) (i : Nat) : ByteArray := datB k n d.data.toList s i
theorem own_looks (h : Num k n d s) {i : Nat} (hi : i < n) : Shd.Looks Shd.sumL (nmL d i) (dtB k n d s i).data.toList ∧ Shd.readS (dtB k n d s i).data.toList = shardOf k n d.data.toList s i := by
 obtain ⟨h1, h2, h3⟩ := h.ks
 have hdl : d.data.toList.length = 32 := by rw [← h.dig]; simp
 have hpl : (payB k n s i).length ≤ 65461 := by
  rw [payB_len n s i (by omega)]
  have := Cod.sizeZ_le k s.size (by omega)
  have := h.len
  omega
 have hs : Shd.Sound Shd.sumL (nmL d i) ((shardOf k n d.data.toList s i).data Shd.sumL) (shardOf k n d.data.toList s i) :=
  ⟨⟨by show (1 : Int) ≤ k; omega, by show (k : Int) ≤ n; omega, by show (n : Int) ≤ 12; omega, hdl, by show (0 : Int) ≤ i; omega, by show (i : Int) < n; omega⟩, hpl, rfl, rfl⟩
 exact ⟨Shd.sound_looks Shd.sumL_len hs, (hs.eq Shd.sumL_len).symm⟩
theorem own_got (h : Num k n d s) {i : Nat} (hi : i < n) (k2 : Int) : gotOf (nmL d i) (dtB k n d s i, 0) k2 n = ⟨(k : Int) == k2, true, ⟨(payB k n s i).toArray⟩⟩ := by
 obtain ⟨h1, h2⟩ := own_looks h hi
 unfold gotOf
 rw [if_pos rfl, if_pos h1, h2]
 simp [shardOf]
def Only (k n : Nat) (d s : ByteArray) (p : PW) : Prop := ∀ i, i < n → ∀ y, TMap.look (p.st i).seen (nmB d i) = some y → Shd.Looks Shd.sumL (nmL d i) y.data.toList → y = dtB k n d s i
def Has (k n : Nat) (d s : ByteArray) (p : PW) (i : Nat) : Prop := (p.st i).down = false ∧ TMap.look (p.st i).seen (nmB d i) = some (dtB k n d s i)
theorem getsP_calm (hc : Hlt.Calm p) (d : ByteArray) : ∀ q, q ≤ p.n → getsP p q = PW.adv p q
 | 0, _ => rfl
 | q + 1, h => by
   rw [getsP, getsP_calm hc d q (by omega)]
   exact getP_calm (adv_calm hc q) q (by rw [(adv_st p q).1]; omega)
theorem says_calm (hc : Hlt.Calm p) (d : ByteArray) {q : Nat} (hq : q < p.n) : saysO p d q = getO (p.st q) (nmB d q) := by
 unfold saysO
 rw [getsP_calm hc d q (by omega), wgetO_adv hc]
 exact wget_calm hc hq _
theorem cut_calm (hc : Hlt.Calm p) (d : ByteArray) {q : Nat} (hq : q < p.n) : cutN p d q = false := by
 unfold cutN
 rw [says_calm hc d hq]
 unfold getO
 split
 ·rfl
 ·split <;> rfl
theorem got_calm (hc : Hlt.Calm p) (d : ByteArray) (k2 n2 : Int) {q : Nat} (hq : q < p.n) : gotN p d k2 n2 q = gotOf (nmL d q) (getO (p.st q) (nmB d q)) k2 n2 := by
 unfold gotN
 rw [says_calm hc d hq]
theorem got_iff (h : Num k n d s) (hc : Hlt.Calm p) (hn : p.n = n) (ho : Only k n d s p) (k2 : Int) {i : Nat} (hi : i < n) : (gotN p d k2 n i).sound = true ↔ ((k : Int) = k2 ∧ Has k n d s p i) := by
 rw [got_calm hc d k2 n (by omega)]
 unfold getO
 cases hd : (p.st i).down
 ·simp only [Bool.false_eq_true, if_false]
  cases hl : TMap.look (p.st i).seen (nmB d i) with
  | none => simp [gotOf, Has, hl]
  | some y =>
    by_cases hk : Shd.Looks Shd.sumL (nmL d i) y.data.toList
    ·have hy := ho i hi y hl hk
     rw [hy]
     simp only
     rw [own_got h hi]
     simp [Has, hd, hl, hy]
    ·simp only [gotOf, if_true, if_neg hk, Bool.false_eq_true, false_iff, not_and]
     intro _ hh
     rw [Has, hl] at hh
     exact hk (by rw [Option.some.inj hh.2]; exact (own_looks h hi).1)
 ·simp [gotOf, Has, hd]
theorem got_pay (h : Num k n d s) (hc : Hlt.Calm p) (hn : p.n = n) (ho : Only k n d s p) {i : Nat} (hi : i < n) (hs : (gotN p d k n i).sound = true) : (gotN p d k n i).pay = ⟨(payB k n s i).toArray⟩ := by
 obtain ⟨_, h1, h2⟩ := (got_iff h hc hn ho k hi).1 hs
 rw [got_calm hc d k n (by omega)]
 unfold getO
 rw [h1, h2]
 simp only [Bool.false_eq_true, if_false]
 rw [own_got h hi]
noncomputable def cntN (p : PW) (d : ByteArray) (k n : Nat) : Nat := (hvL p d k n n).length
theorem hvL_mono (p : PW) (d : ByteArray) (k n : Int) (q : Nat) : ∀ m, (hvL p d k n q).length ≤ (hvL p d k n (q + m)).length
 | 0 => Nat.le_refl _
 | m + 1 => by
   have := hvL_mono p d k n q m
   cases hs : (gotN p d k n (q + m)).sound
   ·rw [show q + (m + 1) = q + m + 1 by omega, (hvL_no hs).1]; exact this
   ·rw [show q + (m + 1) = q + m + 1 by omega, (hvL_yes hs).1, List.length_append]; omega
theorem eachF_end (p : PW) (d : ByteArray) (k n : Nat) (hk : 0 < k) (hcut : ∀ q, q < n → cutN p d q = false) : ∀ m q, q + m = n → (hvL p d k n q).length < k →
 (eachF (cutN p d) (moreR p d k n) m q).1 = false ∧ ((hvL p d k n (eachF (cutN p d) (moreR p d k n) m q).2).length = k ∨ ((eachF (cutN p d) (moreR p d k n) m q).2 = n ∧ (hvL p d k n n).length < k))
 | 0, q, hq, h => by
   have e : q = n := by omega
   subst e
   exact ⟨rfl, .inr ⟨rfl, h⟩⟩
 | m + 1, q, hq, h => by
   rw [eachF, if_neg (by rw [hcut q (by omega)]; exact Bool.false_ne_true)]
   split
   ·rename_i hm
    exact eachF_end p d k n hk hcut m (q + 1) (by omega) (by simpa [moreR] using hm)
   ·rename_i hm
    have hm2 : ¬ (hvL p d k n (q + 1)).length < k := by simpa [moreR] using hm
    refine ⟨rfl, .inl ?_⟩
    show (hvL p d k n (q + 1)).length = k
    cases hs : (gotN p d k n q).sound
    ·rw [(hvL_no hs).1] at hm2; omega
    ·rw [(hvL_yes hs).1, List.length_append] at hm2 ⊢
     have : [q].length = 1 := rfl
     omega
theorem read_calm (h : Num k n d s) (hd : d = dgB s) (hc : Hlt.Calm p) (hn : p.n = n) (ho : Only k n d s p) : readR p d k n = if k ≤ cntN p d k n then (s, 0) else (⟨#[]⟩, 54) := by
 obtain ⟨h1, h2, h3⟩ := h.ks
 have hE := eachF_end p d k n (by omega) (fun q hq => cut_calm hc d (by omega)) n 0 (by omega) (by simp [hvL]; omega)
 have hr : eachF (cutN p d) (moreR p d k n) n 0 = runR p d k n := rfl
 rw [hr] at hE
 have hle := runR_le p d k n
 unfold readR
 rw [if_neg (by rw [hE.1]; exact Bool.false_ne_true)]
 rcases hE.2 with h4 | ⟨h4, h5⟩
 ·have hcn : k ≤ cntN p d k n := by
   have := hvL_mono p d k n (runR p d k n).2 (n - (runR p d k n).2)
   rw [show (runR p d k n).2 + (n - (runR p d k n).2) = n by omega, h4] at this
   exact this
  rw [if_neg (by omega), if_pos hcn]
  have hps : paysR p d k n = (hvL p d k n (runR p d k n).2).map fun i => payB k n s i := by
   unfold paysR pyL
   rw [List.map_map]
   refine List.map_congr_left fun i hi => ?_
   have hm := List.mem_filter.1 hi
   have hlt := List.mem_range.1 hm.1
   show (gotN p d k n i).pay.data.toList = _
   rw [got_pay h hc hn ho (by omega) hm.2]
  have hltn : ∀ x ∈ hvL p d k n (runR p d k n).2, x < n := fun x hx => Nat.lt_of_lt_of_le (hvL_lt p d k n _ x hx) hle
  rw [hps, Cod.found_ok (by omega) h4 hltn (Cod.turns_any h3 h4 (hvL_nodup p d k n _) hltn h2) h.len]
  simp only
  rw [if_pos (by rw [hd, dgB_list])]
 ·rw [if_pos (by rw [h4]; exact h5), if_neg (by unfold cntN; omega)]
theorem got_small (nm : List UInt8) (x : ByteArray × Int) (k2 n2 : Int) : (gotOf nm x k2 n2).pay.size ≤ x.1.size := by
 unfold gotOf
 split
 ·split
  ·show (Shd.readS x.1.data.toList).pay.length ≤ x.1.size
   have : x.1.data.toList.length = x.1.size := by simp
   show ((x.1.data.toList.drop 43).take (x.1.data.toList.length - 75)).length ≤ _
   rw [List.length_take, List.length_drop]
   omega
  ·exact Nat.zero_le _
 ·exact Nat.zero_le _
theorem getO_small {L M : Nat} {st : PSt} (h : Bnd L M st) (nm : ByteArray) : (getO st nm).1.size ≤ 65536 := by
 unfold getO
 split
 ·exact Nat.zero_le _
 ·split
  ·rename_i y hy
   exact (h.key _ (TMap.look_mem hy)).2
  ·exact Nat.zero_le _
theorem pay_small {L M : Nat} (hc : Hlt.Calm p) (hb : ∀ i, Bnd L M (p.st i)) (d : ByteArray) (k2 n2 : Int) {q : Nat} (hq : q < p.n) : (gotN p d k2 n2 q).pay.size ≤ 1000000 := by
 rw [got_calm hc d k2 n2 hq]
 exact Nat.le_trans (got_small _ _ _ _) (Nat.le_trans (getO_small (hb q) _) (by decide))
end
end Str
end Go.Proofs.YtnbkhdbligjifaaGreatDoor
namespace Go.Proofs.YtnbkhdbligjifaaGreatDoor
open Go Go.RowKit Vm
namespace Str
open Hlt
structure Sync (st : PSt) : Prop where
 wr : st.writes = []
 good : st.good = st.seen
structure WellW (L n : Nat) (p : PW) : Prop where
 n_ : p.n = n
 calm : Hlt.Calm p
 well : ∀ i, i < n → Well (p.st i)
 sync : ∀ i, i < n → Sync (p.st i)
 bnd : ∀ i, Bnd L 0 (p.st i)
theorem noStore_bnd : Bnd 0 0 noStore := ⟨Nat.le_refl _, fun x hx => (by cases hx), Nat.le_refl _, ⟨by show _ ≤ (-1 : Int); decide, by show (-1 : Int) ≤ _; decide⟩⟩
theorem newP_well (n : Nat) : WellW 0 n (newP n) := ⟨rfl, ⟨rfl, rfl⟩, fun _ _ => ⟨rfl, rfl, rfl⟩, fun _ _ => ⟨rfl, rfl⟩, fun _ => noStore_bnd⟩
section
variable {p : PW} {L k n : Nat} {d s : ByteArray}
theorem wrote_well1 {st : PSt} (h : Well st) {nm dt : ByteArray} (h0 : nm.size ≠ 0) (hN : nm.size ≤ 80) (hD : dt.size ≤ 65536) : putE st nm dt = 0 ∧ (putS st nm dt).settled = { st with good := TMap.put st.seen nm dt, seen := TMap.put st.seen nm dt, writes := [] } := by
 obtain ⟨good, seen, writes, down, refuse, room⟩ := st
 obtain ⟨rfl, rfl, rfl⟩ := h
 have hc : ¬ (nm.size = 0 ∨ 80 < nm.size ∨ 65536 < dt.size) := by omega
 have h1 := put_well (s := ⟨good, seen, writes, false, -1, -1⟩) ⟨rfl, rfl, rfl⟩ h0 hN hD
 refine ⟨h1.1, ?_⟩
 have h2 := h1.2.1
 unfold syncS at h2
 rw [if_neg (by rw [putS_down]; exact Bool.false_ne_true)] at h2
 exact h2
def wellS (nm dt : ByteArray) (st : PSt) : PSt := if TMap.look st.seen nm = some dt then st.settled else { st with good := TMap.put st.seen nm dt, seen := TMap.put st.seen nm dt, writes := [] }
theorem wellS_well {nm dt : ByteArray} {st : PSt} (h : Well st) : Well (wellS nm dt st) := by
 unfold wellS; split <;> exact ⟨h.down, h.refuse, h.room⟩
theorem wellS_sync (nm dt : ByteArray) (st : PSt) : Sync (wellS nm dt st) := by
 unfold wellS; split <;> exact ⟨rfl, rfl⟩
theorem wellS_bnd {nm dt : ByteArray} {st : PSt} {L : Nat} (h : Bnd L 0 st) (hN : nm.size ≤ 80) (hD : dt.size ≤ 65536) : Bnd (L + 1) 0 (wellS nm dt st) := by
 unfold wellS
 split
 ·exact ⟨Nat.le_trans h.len (by omega), h.key, Nat.le_refl _, h.room⟩
 ·refine ⟨Nat.le_trans (put_len1 _ _ _) (by have := h.len; omega), fun x hx => ?_, Nat.le_refl _, h.room⟩
  rcases put_mem1 hx with rfl | hx
  ·exact ⟨hN, hD⟩
  ·exact h.key x hx
def lackN (k n : Nat) (d s : ByteArray) (p : PW) : Nat := newN (objsOf k n d s n) p n
theorem write_well (hN : Num k n d s) (hd : d = dgB s) (h : WellW L n p) :
 writeR p k n s = (0, { p with calls := cadd p.calls (n + lackN k n d s p + n), st := fun i => if i < n then wellS (nmB d i) (dtB k n d s i) (p.st i) else p.st i }) := by
 obtain ⟨h1, h2, h3⟩ := hN.ks
 have hsz : ∀ i, i < n → (nmB d i).size ≠ 0 ∧ (nmB d i).size ≤ 80 ∧ (dtB k n d s i).size ≤ 65536 := fun i hi => by
  have a := nmB_size d hN.dig i (by omega)
  exact ⟨a.1, a.2, datB_size (by omega) (by omega) (by rw [← hN.dig]; simp) hN.len⟩
 have hup : upN p n = n := by
  unfold upN
  rw [List.filter_eq_self.2 fun i hi => by rw [(h.well i (List.mem_range.1 hi)).down]; rfl, List.length_range]
 have hs := spread_calm (l := objsOf k n d s n) h.calm h.n_ (objsOf_len _ _ _ _ _) (k := k) (fun i hi _ => by
  rw [obAt_objs hi]
  obtain ⟨a, b, c⟩ := hsz i hi
  exact (wrote_well1 (h.well i hi) a b c).1) (by rw [hup]; exact h2)
 unfold writeR
 rw [← hd, hs, hup]
 congr 2
 funext i
 by_cases hi : i < n
 ·rw [if_pos hi, if_pos hi]
  unfold wroteS wellS
  have hw := h.well i hi
  obtain ⟨a, b, c⟩ := hsz i hi
  rw [if_neg (by rw [hw.down]; exact Bool.false_ne_true), obAt_objs hi]
  by_cases hh : TMap.look (p.st i).seen (nmB d i) = some (dtB k n d s i)
  ·rw [if_pos hh, if_pos (by simp only [isH, decide_eq_true_eq]; rw [obAt_objs hi]; exact ⟨hw.down, hh⟩)]
  ·rw [if_neg hh, if_neg (by simp only [isH, decide_eq_true_eq]; rw [obAt_objs hi]; exact fun e => hh e.2)]
   exact (wrote_well1 hw a b c).2
 ·rw [if_neg hi, if_neg hi]
theorem written_well (hN : Num k n d s) (hd : d = dgB s) (h : WellW L n p) : (writeR p k n s).1 = 0 ∧ WellW (L + 1) n (writeR p k n s).2 ∧ (∀ i, i < n → (writeR p k n s).2.st i = wellS (nmB d i) (dtB k n d s i) (p.st i)) ∧ (writeR p k n s).2.calls = cadd p.calls (n + lackN k n d s p + n) := by
 obtain ⟨h1, h2, h3⟩ := hN.ks
 rw [write_well hN hd h]
 refine ⟨rfl, ⟨h.n_, ⟨h.calm.1, h.calm.2⟩, fun i hi => ?_, fun i hi => ?_, fun i => ?_⟩, fun i hi => if_pos hi, rfl⟩
 ·simp only [if_pos hi]; exact wellS_well (h.well i hi)
 ·simp only [if_pos hi]; exact wellS_sync _ _ _
 ·by_cases hi : i < n
  ·simp only [if_pos hi]
   exact wellS_bnd (h.bnd i) (nmB_size d hN.dig i (by omega)).2 (datB_size (by omega) (by omega) (by rw [← hN.dig]; simp) hN.len)
  ·simp only [if_neg hi]
   exact (h.bnd i).up (by omega) (Nat.le_refl _)
theorem lack_all (h : ∀ i, i < n → (p.st i).down = false ∧ ¬ TMap.look (p.st i).seen (nmB d i) = some (dtB k n d s i)) : lackN k n d s p = n := by
 unfold lackN newN
 rw [List.filter_eq_self.2 fun i hi => by
  have hi := List.mem_range.1 hi
  simp only [isT, decide_eq_true_eq]
  rw [obAt_objs hi]
  exact h i hi, List.length_range]
theorem lack_none (h : ∀ i, i < n → TMap.look (p.st i).seen (nmB d i) = some (dtB k n d s i)) : lackN k n d s p = 0 := by
 unfold lackN newN
 rw [List.filter_eq_nil_iff.2 fun i hi => by
  have hi := List.mem_range.1 hi
  simp only [isT, decide_eq_true_eq]
  rw [obAt_objs hi]
  exact fun e => e.2 (h i hi)]
 rfl
end
theorem cadd_small : ∀ m, m ≤ 1000000 → cadd 0 m = (m : Int)
 | 0, _ => rfl
 | m + 1, h => by
   rw [cadd, cadd_small m (by omega)]
   unfold wrap64
   omega
/-! ### walks -/
def ThreeP (w : World) (e : Ending) (w' : World) : Prop := ∃ b O, e = .returned (.tuple #[.pointer (some ⟨b, 0, none⟩), .agg #[.int .i64 2, .int .i64 3]]) ∧ (∀ x, x ∈ O → w.heap.size ≤ x) ∧ WAt w' b (newP 3) O ∧ Below w.heap.size w w'
theorem three_any (w : World) : Calls Tryz.prog 56 #[] w (ThreeP w) := by
 have hE0 := Stab.Ext.alloc w (.cells #[.int .i64 0, .int .i64 0] 25)
 have bx := Blk.new w 25 #[.int .i64 0, .int .i64 0]
 have HN := Lib.hid (show Calls Tryz.prog 11 #[.int .i64 3] (w.alloc (.cells #[.int .i64 0, .int .i64 0] 25)) (WNewPost 3 (w.alloc (.cells #[.int .i64 0, .int .i64 0] 25))) from wnew_any _ 3 (by omega) (by omega))
 have HE0 := Lib.hid hE0
 have HBX := Lib.hid bx
 clear hE0 bx
 go_enter Tryz.func56, Tryz.ntmps56
 go_wp2_with (go_at_call 11; with_reducible refine HN.out.mono ?_)
 rintro e w1 ⟨b, O, rfl, hlow, hat, hb1⟩
 have hx := HBX.out.below hb1 HBX.out.lt
 have z0 := hx.cell 0
 have z1 := hx.cell 1
 have y0 := hx.frozen 0
 have y1 := hx.frozen 1
 simp only [List.getElem?_toArray, List.getElem?_cons_zero, List.getElem?_cons_succ] at z0 z1
 have hbO : w.heap.size ∉ O := fun hm => by have := hlow _ hm; simp at this; omega
 have HAT := Lib.hid hat
 have HLOW := Lib.hid hlow
 have HB := Lib.hid (HE0.out.trans (show Stab.Ext _ w1 from hb1))
 have HX1 := Lib.hid hb1
 clear hx hb1 hat hlow
 go_wp2_with fail
 refine ⟨rfl, .tuple #[.pointer (some ⟨b, 0, none⟩), .agg #[.int .i64 2, .int .i64 3]], ?_, ?_⟩
 ·have hres : Tryz.f56.results = #[ResultVar.tmp 0, ResultVar.cell 1 25] := rfl
  have s0 : ((w1.setCell ⟨w.heap.size, 0, none⟩ (.int .i64 2)).setCell ⟨w.heap.size, 1, none⟩ (.int .i64 3)).cell? ⟨w.heap.size, 0, none⟩ = some (.int .i64 2) := by
   have := ((HBX.out.below (show Below _ _ w1 from HX1.out) HBX.out.lt).set_ 0 (.int .i64 2)).set_ 1 (.int .i64 3)
   exact this.cell 0
  have s1 : ((w1.setCell ⟨w.heap.size, 0, none⟩ (.int .i64 2)).setCell ⟨w.heap.size, 1, none⟩ (.int .i64 3)).cell? ⟨w.heap.size, 1, none⟩ = some (.int .i64 3) := by
   have := ((HBX.out.below (show Below _ _ w1 from HX1.out) HBX.out.lt).set_ 0 (.int .i64 2)).set_ 1 (.int .i64 3)
   exact this.cell 1
  generalize ((w1.setCell ⟨w.heap.size, 0, none⟩ (.int .i64 2)).setCell ⟨w.heap.size, 1, none⟩ (.int .i64 3)) = W8 at *
  simp only [results, hres, List.mapM_toArray, List.mapM_cons, List.mapM_nil]
  go_simp
 ·have hf : Fr [w.heap.size] w1 ((w1.setCell ⟨w.heap.size, 0, none⟩ (.int .i64 2)).setCell ⟨w.heap.size, 1, none⟩ (.int .i64 3)) := (Fr.cell w1 ⟨w.heap.size, 0, none⟩ _).next (Fr.cell _ ⟨w.heap.size, 1, none⟩ _)
  exact ⟨b, O, rfl, fun x hx => by have := HLOW.out x hx; simp at this; omega, HAT.out.keep hf fun x hx hm => by simp only [List.mem_singleton] at hm; subst hm; exact hbO hx,
   new_below HB.out hf fun x hx => by simp only [List.mem_singleton] at hx; omega⟩
end Str
end Go.Proofs.YtnbkhdbligjifaaGreatDoor
