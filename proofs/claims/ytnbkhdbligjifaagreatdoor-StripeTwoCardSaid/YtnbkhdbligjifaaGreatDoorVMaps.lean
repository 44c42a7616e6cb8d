/-
 What a slice looks like that owns a row of one-cell elements. No program is named. What temporaries of a drawn region hold: new rows, pointers to new blocks. No program is named. Rows of the call's own: an append onto one, text out of one. No program is named. Rows of the call's own of which no cell behind the last one that is shown is frozen (so is what '[]byte(s)' makes): an append onto one, text out of one. No program is named. Maps from texts to texts in memory, as lists of pairs; frames of calls that write to blocks they are told of. No program is named.
-/
import Derived.Test.YtnbkhdbligjifaaGreatDoorMem
import Derived.Deep.AppendLies
import Derived.Lib.FrozenHead2
import Derived.Lib.AtoiErrMem
import Derived.Laws.Sem
import Derived.Laws.World
set_option linter.unusedVariables false
set_option linter.unusedSimpArgs false
namespace Go.Proofs.YtnbkhdbligjifaaGreatDoor
open Go.RowKit
theorem row_form {w : World} {base : Nat} {e : TypeId} {v : Value} {n : Nat} {xs : List Value} (h : w.ownsRow base e 1 v n xs) :
 ∃ A cap, v = .slice A n cap ∧ (0 < n → ∃ g cur, A = some ⟨g, 0, none⟩ ∧ base ≤ g ∧ Blk w g e cur ∧ ∀ (j : Nat) (u : Value), xs[j]? = some u → cur[j]? = some u) := by
 obtain ⟨h1, h2⟩ := h
 rcases h2 with ⟨rfl, rfl⟩ | ⟨g, cap, cur, rfl, hb, hg, hn, hc, hs, ht⟩
 ·exact ⟨none, 0, rfl, fun h => absurd h (by omega)⟩
 ·refine ⟨some ⟨g, 0, none⟩, cap, rfl, fun _ => ⟨g, cur, rfl, hb, hg, fun j u hj => ?_⟩⟩
  have hl : j < xs.length := by
   rcases Nat.lt_or_ge j xs.length with h | h
   ·exact h
   ·rw [List.getElem?_eq_none h] at hj; cases hj
  rw [← ht, List.getElem?_take_of_lt (by omega)] at hj
  rw [← Array.getElem?_toList]; exact hj
end Go.Proofs.YtnbkhdbligjifaaGreatDoor
namespace Go.Proofs.YtnbkhdbligjifaaGreatDoor
open Go.RowKit
namespace Stab
theorem cells_blk {w : World} {g : Nat} {t : TypeId} {l : List Value} (h : Blk w g t l.toArray) (j : Nat) (u : Value) (hu : l[j]? = some u) : w.cell? ((⟨g, 0, none⟩ : Addr).add j) = some u := by
 have hp : (⟨g, 0, none⟩ : Addr).add j = ⟨g, j, none⟩ := by unfold Addr.add; split <;> simp_all
 rw [hp, h.cell j]; simpa using hu
end Stab
end Go.Proofs.YtnbkhdbligjifaaGreatDoor
namespace Go.Proofs.YtnbkhdbligjifaaGreatDoor
open Go.RowKit
theorem own_ext {w w' : World} {base : Nat} {e : TypeId} {size : Nat} {v : Value} {n : Nat} {xs : List Value} (h : w.ownsRow base e size v n xs) (hb : Stab.Ext w w') : w'.ownsRow base e size v n xs := by
 refine ⟨h.1, ?_⟩
 rcases h.2 with hn | ⟨g, cap, cur, rfl, hb0, hgg, rest⟩
 ·exact .inl hn
 ·exact .inr ⟨g, cap, cur, rfl, hb0, (Below.block hb g (Array.getElem?_eq_some_iff.1 hgg).1).trans hgg, rest⟩
section
variable {P : Program} {t e : TypeId} {z : Value} {size bytes : Nat}
theorem own_app (ht : P.underlying t = some (.slice e)) (he : (P.info? e).map (fun i => (i.zero, i.size, i.bytes)) = some (some z, size, bytes)) (hzs : z.cells.size = size) (hsz : 0 < size) (hb0 : 0 < bytes)
 {w : World} {base n m gb c : Nat} {v : Value} {xs : List Value} {C : Array Value} (hv : w.ownsRow base e size v n xs) (hb : Blk w gb e C) (hl : C.size = m * size) (h1 : C.all (·.oneCell') = true) (hm : 0 < m)
 (hby : (n + m) * bytes ≤ 140737488355328) (hbase : base ≤ w.heap.size) :
 ∃ g cap w', (appSem #[t, t] t #[v, .slice (some ⟨gb, 0, none⟩) m c]).run P w = .ok (.slice (some ⟨g, 0, none⟩) (n + m) cap) w' ∧ w'.ownsRow base e size (.slice (some ⟨g, 0, none⟩) (n + m) cap) (n + m) (xs ++ C.toList) ∧
  Below base w w' ∧ w.grownBy w' v.ownBlock ∧ (v.ownBlock = some g ∨ g = w.heap.size) := by
 obtain ⟨i, hi, hz0, hz1, hz2⟩ := info_parts he
 have hle : n + m ≤ (n + m) * bytes := Nat.le_mul_of_pos_right _ hb0
 obtain ⟨g, cap, w', hr, h2, h3, h4, _⟩ := run_append_lies (P := P) w t t base e i z size bytes ht hi hz0 hz1 hz2 hzs hsz v n xs hv ⟨gb, 0, none⟩ m c C.toList (by simpa using hl)
  (Stab.cells_blk (by simpa using hb)) (fun u hu => by
   have := Array.all_eq_true_iff_forall_mem.1 h1 u (by simpa using hu)
   exact this) hm (by unfold maxLen; omega) hby hbase _ rfl
 exact ⟨g, cap, w', hr, h2, (Below.refl _ _).grown h3 hbase (fun k hk => (hv.lt k hk).1), h3, h4⟩
theorem own_app_new (ht : P.underlying t = some (.slice e)) (he : (P.info? e).map (fun i => (i.zero, i.size, i.bytes)) = some (some z, size, bytes)) (hzs : z.cells.size = size) (hsz : 0 < size) (hb0 : 0 < bytes)
 {w : World} {base n m c : Nat} {v : Value} {xs : List Value} {C : Array Value} (hv : w.ownsRow base e size v n xs) (hl : C.size = m * size) (h1 : C.all (·.oneCell') = true) (hm : 0 < m)
 (hby : (n + m) * bytes ≤ 140737488355328) (hbase : base ≤ w.heap.size) :
 ∃ g cap w', (appSem #[t, t] t #[v, .slice (some ⟨w.heap.size, 0, none⟩) m c]).run P (w.alloc (.cells C e)) = .ok (.slice (some ⟨g, 0, none⟩) (n + m) cap) w' ∧ w'.ownsRow base e size (.slice (some ⟨g, 0, none⟩) (n + m) cap) (n + m) (xs ++ C.toList) ∧
  Below base w w' ∧ (w.alloc (.cells C e)).grownBy w' v.ownBlock ∧ (v.ownBlock = some g ∨ g = w.heap.size + 1) := by
 obtain ⟨g, cap, w', h1, h2, h3, h4, h5⟩ := own_app (t := t) (c := c) ht he hzs hsz hb0 (hv.alloc (.cells C e)) (Blk.new w e C) hl h1 hm hby (by simp; omega)
 exact ⟨g, cap, w', h1, h2, ((Below.refl _ _).alloc hbase _).trans h3, h4, by simpa using h5⟩
end
end Go.Proofs.YtnbkhdbligjifaaGreatDoor
namespace Go.Proofs.YtnbkhdbligjifaaGreatDoor
open Go.RowKit
def OwnG (w : World) (base : Nat) (e : TypeId) (size : Nat) (v : Value) (n : Nat) (xs : List Value) : Prop :=
 xs.length = n * size ∧ ((v = .slice none 0 0 ∧ n = 0) ∨
  ∃ g cap cur fz, v = .slice (some ⟨g, 0, none⟩) n cap ∧ base ≤ g ∧ w.heap[g]? = some (.cells cur e fz) ∧ (fz.2 ≤ n * size ∨ cur.size ≤ fz.1) ∧ n ≤ cap ∧ cap ≤ maxLen ∧ cur.size = cap * size ∧ cur.toList.take (n * size) = xs)
section
variable {w w' : World} {base : Nat} {e : TypeId} {size : Nat} {v : Value} {n : Nat} {xs : List Value}
theorem OwnG.of (h : w.ownsRow base e size v n xs) : OwnG w base e size v n xs := by
 refine ⟨h.1, ?_⟩
 rcases h.2 with h | ⟨g, cap, cur, h1, h2, h3, h4⟩
 ·exact .inl h
 ·exact .inr ⟨g, cap, cur, (0, 0), h1, h2, h3, .inl (Nat.zero_le _), h4⟩
theorem OwnG.nil (w : World) (base : Nat) (e : TypeId) (size : Nat) : OwnG w base e size (.slice none 0 0) 0 [] := ⟨by simp, .inl ⟨rfl, rfl⟩⟩
theorem OwnG.lt (h : OwnG w base e size v n xs) : ∀ k, v.ownBlock = some k → base ≤ k ∧ k < w.heap.size := by
 rcases h.2 with ⟨rfl, _⟩ | ⟨g, cap, cur, fz, rfl, hb, hg, _⟩
 ·intro k hk; cases hk
 ·intro k hk
  have : g = k := by simpa [Value.ownBlock] using hk
  subst this
  exact ⟨hb, (Array.getElem?_eq_some_iff.1 hg).1⟩
theorem OwnG.keep (h : OwnG w base e size v n xs) (hk : ∀ k, v.ownBlock = some k → w'.heap[k]? = w.heap[k]?) : OwnG w' base e size v n xs := by
 refine ⟨h.1, ?_⟩
 rcases h.2 with h | ⟨g, cap, cur, fz, rfl, hb, hg, rest⟩
 ·exact .inl h
 ·exact .inr ⟨g, cap, cur, fz, rfl, hb, (hk g rfl).trans hg, rest⟩
theorem OwnG.ext (h : OwnG w base e size v n xs) (hE : Stab.Ext w w') : OwnG w' base e size v n xs := h.keep fun k hk => Below.block hE k (h.lt k hk).2
theorem OwnG.alloc (h : OwnG w base e size v n xs) (o : Obj) : OwnG (w.alloc o) base e size v n xs := h.ext (Stab.Ext.alloc w o)
theorem OwnG.drew (h : OwnG w base e size v n xs) : OwnG w.drew base e size v n xs := h
theorem OwnG.grown (h : OwnG w base e size v n xs) {row : Option Nat} (hg : w.grownBy w' row) (hne : ∀ k, v.ownBlock = some k → some k ≠ row) : OwnG w' base e size v n xs := h.keep fun k hk => hg.block k (h.lt k hk).2 (hne k hk)
theorem OwnG.cells (h : OwnG w base e size v n xs) {g : Nat} (hg : v.ownBlock = some g) (j : Nat) (u : Value) (hu : xs[j]? = some u) : w.cell? ⟨g, j, none⟩ = some u := by
 rcases h.2 with ⟨rfl, _⟩ | ⟨g', cap, cur, fz, rfl, hb, hh, _, _, _, _, ht⟩
 ·cases hg
 ·have : g' = g := by simpa [Value.ownBlock] using hg
  subst this
  rw [cell_of_row _ _ j _ _ _ hh]
  rw [← ht, List.getElem?_take] at hu
  split at hu
  ·simpa using hu
  ·cases hu
theorem OwnG.form (h : OwnG w base e size v n xs) : (n = 0 ∧ v = .slice none 0 0) ∨ ∃ g cap, v = .slice (some ⟨g, 0, none⟩) n cap ∧ base ≤ g ∧ n ≤ cap ∧ g < w.heap.size := by
 rcases h.2 with ⟨h1, h2⟩ | ⟨g, cap, cur, fz, h1, hb, hg, _, hc, _⟩
 ·exact .inl ⟨h2, h1⟩
 ·exact .inr ⟨g, cap, h1, hb, hc, (Array.getElem?_eq_some_iff.1 hg).1⟩
theorem OwnG.shape (h : OwnG w base e size v n xs) : ∃ A cap, v = .slice A n cap := by
 rcases h.form with ⟨h0, h'⟩ | ⟨g, cap, h', _⟩
 ·exact ⟨none, 0, by rw [h', h0]⟩
 ·exact ⟨_, _, h'⟩
theorem OwnG.addr (h : OwnG w base e size v n xs) (hn : 0 < n) : ∃ g cap, v = .slice (some ⟨g, 0, none⟩) n cap ∧ base ≤ g ∧ n ≤ cap ∧ g < w.heap.size := by
 rcases h.form with ⟨h0, _⟩ | h
 ·omega
 ·exact h
end
theorem run_storeCells_G (P : Program) (g o : Nat) (t : TypeId) (fz : Nat × Nat) : ∀ (vs : List Value) (i : Nat) (cur : Array Value) (w : World), w.heap[g]? = some (.cells cur t fz) → (fz.2 ≤ o + i ∨ cur.size ≤ fz.1) → o + i + vs.length ≤ cur.size → (∀ v ∈ vs, v.oneCell' = true) →
 (storeCells ⟨g, o, none⟩ vs i).run P w = .ok () (w.setRow g (cur.toList.take (o + i) ++ vs ++ cur.toList.drop (o + i + vs.length)).toArray)
 | [], i, cur, w, hg, _, _, _ => by
   simp only [storeCells, List.append_nil, List.length_nil, Nat.add_zero, List.take_append_drop, Array.toArray_toList]
   rw [setRow_self w g cur t fz hg]
   rfl
 | v :: rest, i, cur, w, hg, hfz, hl, h1 => by
   have hi : o + i < cur.size := by simp at hl; omega
   have hadd : (⟨g, o, none⟩ : Addr).add i = ⟨g, o + i, none⟩ := by unfold Addr.add; split <;> simp_all
   have hcell : w.cell? ⟨g, o + i, none⟩ = some cur[o + i] := by simp [World.cell?, hg, hi]
   have hfro : w.frozen? ⟨g, o + i, none⟩ = false := by
    obtain ⟨lo, hi'⟩ := fz
    simp only [World.frozen?, hg, Bool.and_eq_false_iff, decide_eq_false_iff_not]
    simp only at hfz
    rcases hfz with hfz | hfz
    ·right; omega
    ·left; omega
   have hst : (store ((⟨g, o, none⟩ : Addr).add i) v).run P w = .ok () (w.setRow g (cur.setIfInBounds (o + i) v)) := by
    rw [hadd, run_store P w _ v _ (h1 v (by simp)), hcell]
    simp [hfro, setCell_eq_setRow w g (o + i) cur t fz v hg]
   have ih := run_storeCells_G P g o t fz rest (i + 1) (cur.setIfInBounds (o + i) v) (w.setRow g (cur.setIfInBounds (o + i) v)) (setRow_heap w g cur _ t _ hg) (hfz.imp (by omega) (by simp)) (by simp at hl ⊢; omega) (fun x hx => h1 x (by simp [hx]))
   simp only [storeCells, Sem.run_bind, hst, Result.andThen_ok, ih, setRow_setRow]
   congr 3
   have e := list_seg_step cur.toList (o + i) v rest (by simp at hl ⊢; omega)
   simpa [Array.toList_setIfInBounds, Nat.add_assoc] using e
section
variable {P : Program} {t e : TypeId} {z : Value} {size bytes : Nat}
theorem ownG_app (ht : P.underlying t = some (.slice e)) (he : (P.info? e).map (fun i => (i.zero, i.size, i.bytes)) = some (some z, size, bytes)) (hzs : z.cells.size = size) (hsz : 0 < size) (hb0 : 0 < bytes)
 {w : World} {base n : Nat} {v : Value} {xs : List Value} (hown : OwnG w base e size v n xs) (a : Addr) (m c : Nat) (news : List Value) (hl : news.length = m * size) (hnews : ∀ j u, news[j]? = some u → w.cell? (a.add j) = some u)
 (h1 : ∀ u ∈ news, u.oneCell' = true) (hm : 0 < m) (hby : (n + m) * bytes ≤ 140737488355328) (hbase : base ≤ w.heap.size) :
 ∃ g cap w', (appSem #[t, t] t #[v, .slice (some a) m c]).run P w = .ok (.slice (some ⟨g, 0, none⟩) (n + m) cap) w' ∧ OwnG w' base e size (.slice (some ⟨g, 0, none⟩) (n + m) cap) (n + m) (xs ++ news) ∧
  Below base w w' ∧ w.grownBy w' v.ownBlock ∧ (v.ownBlock = some g ∨ g = w.heap.size) := by
 obtain ⟨i, hi, hz, hsize, hbytes⟩ := info_parts he
 have hle : n + m ≤ (n + m) * bytes := Nat.le_mul_of_pos_right _ hb0
 rcases hown.2 with ⟨rfl, rfl⟩ | ⟨g, cap, cur, fz, rfl, hbg, hg, hfz, hnc, hcm, hcs, htake⟩
 ·obtain ⟨g, cap, w', hr, h2, h3, h4, _⟩ := run_append_lies (P := P) w t t base e i z size bytes ht hi hz hsize hbytes hzs hsz (.slice none 0 0) 0 xs ⟨hown.1, .inl ⟨rfl, rfl⟩⟩ a m c news hl hnews h1 hm (by unfold maxLen; omega) hby hbase _ rfl
  exact ⟨g, cap, w', hr, OwnG.of h2, (Below.refl _ _).grown h3 hbase (fun k hk => by cases hk), h3, h4⟩
 ·subst hsize
  subst hbytes
  have hsmall : n + m ≤ 9223372036854775807 := by omega
  have hlen : (xs ++ news).length = (n + m) * i.size := by rw [List.length_append, hown.1, hl, Nat.add_mul]
  by_cases hroom : n + m ≤ cap
  ·have hfit : n * i.size + news.length ≤ cur.size := by rw [hl, hcs, ← Nat.add_mul]; exact Nat.mul_le_mul_right _ hroom
   have hf := run_firstCells_some (P := P) w i.size m a m c news hl hnews
   have hst := run_storeCells_G P g (n * i.size) e fz news 0 cur w hg (by simpa using hfz) (by simpa using hfit) h1
   simp only [Nat.add_zero] at hst
   have hr : (Builtin.append_ #[t, t] t #[.slice (some ⟨g, 0, none⟩) n cap, .slice (some a) m c]).run P w = .ok (.slice (some ⟨g, 0, none⟩) (n + m) cap) (w.setRow g (cur.toList.take (n * i.size) ++ news ++ cur.toList.drop (n * i.size + news.length)).toArray) := by
    simp [Builtin.append_, run_underlying ht, sizeOf, typeInfo, hi, Builtin.lenOf, hroom, hf, Addr.add_lit, hst]
   have hgb : w.grownBy (w.setRow g (cur.toList.take (n * i.size) ++ news ++ cur.toList.drop (n * i.size + news.length)).toArray) (Value.slice (some ⟨g, 0, none⟩) n cap).ownBlock := ⟨rfl, rfl, rfl, by simp, fun k _ hk => setRow_other w g k _ (fun e => hk (by simp [Value.ownBlock, e]))⟩
   have hsz2 : (cur.toList.take (n * i.size) ++ news ++ cur.toList.drop (n * i.size + news.length)).toArray.size = cur.size := by
    simp only [List.size_toArray, List.length_append, List.length_take, List.length_drop, Array.length_toList]
    omega
   refine ⟨g, cap, _, hr, ⟨hlen, .inr ⟨g, cap, _, fz, rfl, hbg, setRow_heap w g cur _ e _ hg, ?_, hroom, hcm, by rw [hsz2]; exact hcs, ?_⟩⟩, (Below.refl _ _).grown hgb hbase (fun k hk => ?_), hgb, .inl rfl⟩
   ·rw [hsz2]
    exact hfz.imp (fun h => Nat.le_trans h (Nat.mul_le_mul_right _ (Nat.le_add_right n m))) id
   ·rw [htake, ← hlen]
    exact List.take_left
   ·have : g = k := by simpa [Value.ownBlock] using hk
    omega
  ·have holds : ∀ j u, xs[j]? = some u → w.cell? ((⟨g, 0, none⟩ : Addr).add j) = some u := fun j u hu => by
    have hp : (⟨g, 0, none⟩ : Addr).add j = ⟨g, j, none⟩ := by unfold Addr.add; split <;> simp_all
    rw [hp]; exact hown.cells rfl j u hu
   have hr := run_append_grow (P := P) w t t e i z ht hi hz ⟨g, 0, none⟩ n cap xs hown.1 holds a m c news hl hnews (by omega) (by omega) (growslice_fits (by omega) hby)
   have hge := grownCap_ge w (n + m) cap e
   have hcm2 : grownCap w (n + m) cap e ≤ maxLen := grownCap_le_maxLen w (n + m) cap e (by unfold maxLen; omega)
   have hgb : w.grownBy (w.drew.alloc (.cells (xs.toArray ++ news.toArray ++ Builtin.zeroCells z.cells (grownCap w (n + m) cap e - (n + m))) e)) (Value.slice (some ⟨g, 0, none⟩) n cap).ownBlock := ⟨rfl, rfl, rfl, by simp, fun k hk _ => Below.heap_alloc w.drew _ k hk⟩
   refine ⟨w.heap.size, _, _, hr, ⟨hlen, .inr ⟨w.heap.size, _, _, (0, 0), rfl, hbase, heap_alloc_new w.drew _, .inl (Nat.zero_le _), hge, hcm2, ?_, ?_⟩⟩, (Below.refl _ _).grown hgb hbase (fun k hk => ?_), hgb, .inr rfl⟩
   ·simp only [Array.size_append, List.size_toArray, size_zeroCells, hzs, hown.1, hl, ← Nat.add_mul]
    congr 1
    omega
   ·simp only [Array.toList_append, List.append_assoc]
    rw [← List.append_assoc, ← hlen]
    exact List.take_left
   ·have : g = k := by simpa [Value.ownBlock] using hk
    omega
theorem ownG_blk (ht : P.underlying t = some (.slice e)) (he : (P.info? e).map (fun i => (i.zero, i.size, i.bytes)) = some (some z, size, bytes)) (hzs : z.cells.size = size) (hsz : 0 < size) (hb0 : 0 < bytes)
 {w : World} {base n m gb c : Nat} {v : Value} {xs : List Value} {C : Array Value} (hv : OwnG w base e size v n xs) (hb : Blk w gb e C) (hl : C.size = m * size) (h1 : C.all (·.oneCell') = true) (hm : 0 < m)
 (hby : (n + m) * bytes ≤ 140737488355328) (hbase : base ≤ w.heap.size) :
 ∃ g cap w', (appSem #[t, t] t #[v, .slice (some ⟨gb, 0, none⟩) m c]).run P w = .ok (.slice (some ⟨g, 0, none⟩) (n + m) cap) w' ∧ OwnG w' base e size (.slice (some ⟨g, 0, none⟩) (n + m) cap) (n + m) (xs ++ C.toList) ∧
  Below base w w' ∧ w.grownBy w' v.ownBlock ∧ (v.ownBlock = some g ∨ g = w.heap.size) :=
 ownG_app ht he hzs hsz hb0 hv ⟨gb, 0, none⟩ m c C.toList (by simpa using hl) (Stab.cells_blk (by simpa using hb)) (fun u hu => Array.all_eq_true_iff_forall_mem.1 h1 u (by simpa using hu)) hm hby hbase
theorem ownG_new (ht : P.underlying t = some (.slice e)) (he : (P.info? e).map (fun i => (i.zero, i.size, i.bytes)) = some (some z, size, bytes)) (hzs : z.cells.size = size) (hsz : 0 < size) (hb0 : 0 < bytes)
 {w : World} {base n m c : Nat} {v : Value} {xs : List Value} {C : Array Value} (hv : OwnG w base e size v n xs) (hl : C.size = m * size) (h1 : C.all (·.oneCell') = true) (hm : 0 < m)
 (hby : (n + m) * bytes ≤ 140737488355328) (hbase : base ≤ w.heap.size) :
 ∃ g cap w', (appSem #[t, t] t #[v, .slice (some ⟨w.heap.size, 0, none⟩) m c]).run P (w.alloc (.cells C e)) = .ok (.slice (some ⟨g, 0, none⟩) (n + m) cap) w' ∧ OwnG w' base e size (.slice (some ⟨g, 0, none⟩) (n + m) cap) (n + m) (xs ++ C.toList) ∧
  Below base w w' ∧ (w.alloc (.cells C e)).grownBy w' v.ownBlock ∧ (v.ownBlock = some g ∨ g = w.heap.size + 1) := by
 obtain ⟨g, cap, w', h1, h2, h3, h4, h5⟩ := ownG_blk (t := t) (c := c) ht he hzs hsz hb0 (hv.alloc (.cells C e)) (Blk.new w e C) hl h1 hm hby (by simp; omega)
 exact ⟨g, cap, w', h1, h2, ((Below.refl _ _).alloc hbase _).trans h3, h4, by simpa using h5⟩
end
end Go.Proofs.YtnbkhdbligjifaaGreatDoor
namespace Go.Proofs.YtnbkhdbligjifaaGreatDoor
open Go Go.RowKit
namespace Vm
def setObjAt (w : World) (B : Nat) (o : Obj) : World := { w with heap := w.heap.setIfInBounds B o }
abbrev TMap := List (ByteArray × ByteArray)
theorem map_erase {α β : Type} (f : α → β) : ∀ (l : List α) (i : Nat), (l.eraseIdx i).map f = (l.map f).eraseIdx i
 | [], _ => rfl
 | _ :: _, 0 => rfl
 | a :: l, i + 1 => by show f a :: (l.eraseIdx i).map f = f a :: (l.map f).eraseIdx i; rw [map_erase f l i]
namespace TMap
def look : TMap → ByteArray → Option ByteArray
 | [], _ => none
 | p :: r, k => if k = p.1 then some p.2 else look r k
def put : TMap → ByteArray → ByteArray → TMap
 | [], k, v => [(k, v)]
 | p :: r, k, v => if k = p.1 then (k, v) :: r else p :: put r k v
def del : TMap → ByteArray → TMap
 | [], _ => []
 | p :: r, k => if k = p.1 then r else p :: del r k
def find : TMap → ByteArray → Nat → Option (Nat × Value)
 | [], _, _ => none
 | p :: r, k, i => if k = p.1 then some (i, .string p.2) else find r k (i + 1)
theorem find_look (k : ByteArray) : ∀ (m : TMap) (i : Nat), (find m k i).map (·.2) = (look m k).map Value.string
 | [], _ => rfl
 | p :: r, i => by
   unfold find look
   split
   ·rfl
   ·exact find_look k r (i + 1)
theorem find_none {k : ByteArray} : ∀ {m : TMap} {i : Nat}, find m k i = none → k ∉ m.map (·.1) ∧ ∀ v, put m k v = m ++ [(k, v)] ∧ del m k = m
 | [], _, _ => ⟨by simp, fun v => ⟨rfl, rfl⟩⟩
 | p :: r, i, h => by
   unfold find at h
   split at h
   ·cases h
   ·rename_i hk
    obtain ⟨h1, h2⟩ := find_none h
    refine ⟨by simp only [List.map_cons, List.mem_cons, not_or]; exact ⟨hk, h1⟩, fun v => ⟨?_, ?_⟩⟩
    ·rw [put, if_neg hk, (h2 v).1]; rfl
    ·rw [del, if_neg hk, (h2 v).2]
theorem find_some {k : ByteArray} : ∀ {m : TMap} {i j : Nat} {u : Value}, find m k i = some (j, u) → i ≤ j ∧ (∃ v, m[j - i]? = some (k, v) ∧ u = .string v) ∧ ∀ v, put m k v = m.set (j - i) (k, v) ∧ del m k = m.eraseIdx (j - i)
 | [], _, _, _, h => by cases h
 | p :: r, i, j, u, h => by
   unfold find at h
   split at h
   ·rename_i hk
    cases h
    refine ⟨Nat.le_refl _, ⟨p.2, by rw [Nat.sub_self, hk]; rfl, rfl⟩, fun v => ⟨?_, ?_⟩⟩
    ·rw [put, if_pos hk, Nat.sub_self]; rfl
    ·rw [del, if_pos hk, Nat.sub_self]; rfl
   ·rename_i hk
    obtain ⟨h1, ⟨v, h2, h3⟩, h4⟩ := find_some h
    have e : j - i = (j - (i + 1)) + 1 := by omega
    refine ⟨by omega, ⟨v, by rw [e]; exact h2, h3⟩, fun v => ⟨?_, ?_⟩⟩
    ·rw [put, if_neg hk, (h4 v).1, e]; rfl
    ·rw [del, if_neg hk, (h4 v).2, e]; rfl
theorem mem_put {m : TMap} {k v x : ByteArray} : x ∈ (put m k v).map (·.1) ↔ x = k ∨ x ∈ m.map (·.1) := by
 induction m with
 | nil => simp [put]
 | cons p r ih =>
   rw [put]
   by_cases hk : k = p.1
   ·rw [if_pos hk]; simp only [List.map_cons, List.mem_cons, hk]
    exact ⟨fun h => h.elim .inl fun h => .inr (.inr h), fun h => h.elim .inl id⟩
   ·rw [if_neg hk, List.map_cons, List.mem_cons, ih, List.map_cons, List.mem_cons]
    exact ⟨fun h => h.elim (fun h => .inr (.inl h)) fun h => h.elim .inl fun h => .inr (.inr h), fun h => h.elim (fun h => .inr (.inl h)) fun h => h.elim .inl fun h => .inr (.inr h)⟩
theorem nodup_put {m : TMap} {k v : ByteArray} (h : (m.map (·.1)).Nodup) : ((put m k v).map (·.1)).Nodup := by
 induction m with
 | nil => simp [put]
 | cons p r ih =>
   rw [List.map_cons, List.nodup_cons] at h
   rw [put]
   by_cases hk : k = p.1
   ·rw [if_pos hk, List.map_cons, List.nodup_cons, hk]; exact h
   ·rw [if_neg hk, List.map_cons, List.nodup_cons, mem_put, not_or]
    exact ⟨⟨fun e => hk e.symm, h.1⟩, ih h.2⟩
theorem sub_del {m : TMap} {k : ByteArray} : ((del m k).map (·.1)).Sublist (m.map (·.1)) := by
 induction m with
 | nil => simp [del]
 | cons p r ih =>
   rw [del]
   split
   ·exact List.sublist_cons_self _ _
   ·exact ih.cons_cons _
theorem nodup_del {m : TMap} {k : ByteArray} (h : (m.map (·.1)).Nodup) : ((del m k).map (·.1)).Nodup := sub_del.nodup h
theorem look_mem {m : TMap} {k v : ByteArray} (h : look m k = some v) : (k, v) ∈ m := by
 induction m with
 | nil => cases h
 | cons p r ih =>
   rw [look] at h
   split at h
   ·rename_i hk; cases h; subst hk; exact List.mem_cons_self ..
   ·exact List.mem_cons_of_mem _ (ih h)
end TMap
def EntsAre (es : List MapEntry) (m : TMap) : Prop := es.map (fun e => (e.key, e.val)) = m.map (fun p => (Value.string p.1, Value.string p.2))
structure Fine (es : Array MapEntry) (cl : Nat) (m : TMap) : Prop where
 ents : EntsAre es.toList m
 born : ∀ e ∈ es.toList, e.born < cl
 once : (es.toList.map (·.born)).Nodup
 keys : (m.map (·.1)).Nodup
def MapIs (w : World) (b : Nat) (m : TMap) : Prop := ∃ es cl, w.heap[b]? = some (.map es cl) ∧ Fine es cl m
theorem MapIs.lt {w : World} {b : Nat} {m : TMap} (h : MapIs w b m) : b < w.heap.size := by
 obtain ⟨es, cl, h, _⟩ := h
 exact (Array.getElem?_eq_some_iff.1 h).1
theorem MapIs.keys {w : World} {b : Nat} {m : TMap} (h : MapIs w b m) : (m.map (·.1)).Nodup := by
 obtain ⟨es, cl, _, h⟩ := h
 exact h.keys
theorem MapIs.of_heap {w w' : World} {b : Nat} {m : TMap} (h : MapIs w b m) (e : w'.heap[b]? = w.heap[b]?) : MapIs w' b m := by
 obtain ⟨es, cl, h, r⟩ := h
 exact ⟨es, cl, e.trans h, r⟩
theorem fine_empty : Fine #[] 0 [] := ⟨rfl, by simp, by simp, by simp⟩
theorem same_string (s t : ByteArray) : Instr.sameNow .string (.string s) (.string t) = some (decide (s = t)) := by
 simp only [Instr.sameNow, Option.some.injEq]
 have e : (s == t) = (s.data == t.data) := by cases s; cases t; rfl
 rw [e, Bool.eq_iff_iff, decide_eq_true_eq, beq_iff_eq]
 exact ⟨fun h => by cases s; cases t; simp_all, fun h => by rw [h]⟩
theorem findNow_text (k : ByteArray) : ∀ (es : List MapEntry) (m : TMap), EntsAre es m → ∀ i, Instr.findNow .string (.string k) es i = some (TMap.find m k i)
 | [], [], _, i => rfl
 | [], _ :: _, h, _ => by simp [EntsAre] at h
 | _ :: _, [], h, _ => by simp [EntsAre] at h
 | e :: es, p :: m, h, i => by
   simp only [EntsAre, List.map_cons, List.cons.injEq, Prod.mk.injEq] at h
   obtain ⟨⟨h1, h2⟩, h3⟩ := h
   simp only [Instr.findNow, h1, same_string, TMap.find]
   by_cases hk : k = p.1
   ·simp only [hk, decide_true, if_true, h2]
   ·simp only [hk, decide_false, if_false]
    exact findNow_text k es m h3 (i + 1)
section
variable {P : Program} {t key e : TypeId} (h1 : P.underlying t = some (.map key e)) (h2 : P.underlying key = some .string)
include h1 h2
omit h1 in
theorem check_text (w : World) (b : Bool) (v : Value) : (Instr.checkKey b 10000 key v).run P w = .ok () w := by
 have key : ∀ n : Nat, (Instr.checkKey b (n + 1) key v).run P w = .ok () w := fun n => by
  simp only [Instr.checkKey, Sem.run_bind, run_underlying h2, Result.andThen_ok]
  rfl
 exact key 9999
omit h1 in
theorem find_text {w : World} {es : Array MapEntry} {m : TMap} (he : EntsAre es.toList m) (k : ByteArray) : (Instr.findKey key (.string k) es.toList).run P w = .ok (TMap.find m k 0) w := by
 simp only [Instr.findKey, Sem.run_bind, run_underlying h2, Result.andThen_ok, findNow_text k _ _ he, Sem.run_pure]
theorem run_look {w : World} {b : Nat} {m : TMap} (hm : MapIs w b m) {z : Value} (hz : (zeroValue e).run P w = .ok z w) (k : ByteArray) (ok : Bool) :
 (Instr.lookup t (.map (some b)) (.string k) ok).run P w = .ok (if ok then .tuple #[((TMap.look m k).map Value.string).getD z, .bool (TMap.look m k).isSome] else ((TMap.look m k).map Value.string).getD z) w := by
 obtain ⟨es, cl, hb, hf⟩ := hm
 have hgo : (getObj b).run P w = .ok (.map es cl) w := by simp only [getObj, Sem.run, hb]
 have hl := TMap.find_look k m 0
 simp only [Instr.lookup, Sem.run_bind, run_underlying h1, Result.andThen_ok, hgo, Sem.run_pure, check_text h2, find_text h2 hf.ents]
 cases hfd : TMap.find m k 0 with
 | none =>
   rw [hfd] at hl
   have hl : (TMap.look m k).map Value.string = none := hl.symm
   rw [hl]
   have : TMap.look m k = none := by simpa using hl
   rw [this]
   simp only [Sem.run_bind, hz, Result.andThen_ok, Sem.run_pure]; cases ok <;> rfl
 | some p =>
   obtain ⟨i, v⟩ := p
   rw [hfd] at hl
   have hl : (TMap.look m k).map Value.string = some v := hl.symm
   rw [hl]
   obtain ⟨d, hd, rfl⟩ := Option.map_eq_some_iff.1 hl
   rw [hd]
   simp only [Sem.run_bind, Result.andThen_ok, Sem.run_pure]; cases ok <;> rfl
theorem run_put {w : World} {b : Nat} {m : TMap} (hm : MapIs w b m) (k v : ByteArray) :
 ∃ es' cl', (Instr.mapUpdate t (.map (some b)) (.string k) (.string v)).run P w = .ok () (setObjAt w b (.map es' cl')) ∧ Fine es' cl' (TMap.put m k v) := by
 obtain ⟨es, cl, hb, hf⟩ := hm
 have hgo : (getObj b).run P w = .ok (.map es cl) w := by simp only [getObj, Sem.run, hb]
 have hso : ∀ o, (setObj b o).run P w = .ok () (setObjAt w b o) := fun o => by simp only [setObj, Sem.run, hb]; rfl
 cases hfd : TMap.find m k 0 with
 | none =>
   obtain ⟨hk, hp⟩ := TMap.find_none hfd
   refine ⟨es.push { key := .string k, val := .string v, born := cl }, cl + 1, ?_, ?_⟩
   ·simp only [Instr.mapUpdate, Sem.run_bind, run_underlying h1, Result.andThen_ok, hgo, check_text h2, find_text h2 hf.ents, hfd, hso]
   ·refine ⟨?_, ?_, ?_, TMap.nodup_put hf.keys⟩
    ·rw [(hp v).1]
     have := hf.ents
     simp only [EntsAre] at this ⊢
     simp [this]
    ·intro x hx
     rw [Array.toList_push, List.mem_append, List.mem_singleton] at hx
     rcases hx with hx | hx
     ·have := hf.born x hx; omega
     ·rw [hx]; show cl < cl + 1; omega
    ·rw [Array.toList_push, List.map_append]
     refine List.nodup_append.2 ⟨hf.once, by simp, fun a ha b hb => ?_⟩
     rw [List.map_cons, List.map_nil, List.mem_singleton] at hb
     obtain ⟨x, hx, rfl⟩ := List.mem_map.1 ha
     have := hf.born x hx
     exact fun e => by
      have e : x.born = cl := e.trans hb
      omega
 | some p =>
   obtain ⟨i, u⟩ := p
   obtain ⟨_, ⟨v0, hi, rfl⟩, hp⟩ := TMap.find_some hfd
   rw [Nat.sub_zero] at hi hp
   have hlen : es.toList.length = m.length := by
    have := congrArg List.length hf.ents
    simpa using this
   have hil : i < es.toList.length := by
    rw [hlen]; exact (List.getElem?_eq_some_iff.1 hi).1
   obtain ⟨x, hx⟩ : ∃ x, es.toList[i]? = some x := ⟨_, List.getElem?_eq_getElem hil⟩
   have hxk : x.key = .string k := by
    have h0 := congrArg (fun l => l[i]?) hf.ents
    simp only [List.getElem?_map, hx, hi, Option.map_some, Option.some.injEq, Prod.mk.injEq] at h0
    exact h0.1
   have hx' : es[i]? = some x := by rw [← Array.getElem?_toList]; exact hx
   have hkt : (Instr.keyThatStays x.key (.string k)).run P w = .ok (.string k) w := by
    rw [hxk]
    have hsb : Instr.sameBits 10000 (.string k) (.string k) = true := by
     show (k == k) = true
     have e : (k == k) = (k.data == k.data) := by cases k; rfl
     rw [e]; exact beq_self_eq_true _
    simp only [Instr.keyThatStays, hsb, if_true, Sem.run_pure]
   refine ⟨es.modify i fun x => { x with key := .string k, val := .string v }, cl, ?_, ?_⟩
   ·simp only [Instr.mapUpdate, Sem.run_bind, run_underlying h1, Result.andThen_ok, hgo, check_text h2, find_text h2 hf.ents, hfd, hx', Option.map_some, Option.getD_some, hkt, hso]
   ·have hb2 : (es.modify i fun x => { x with key := .string k, val := .string v }).toList.map (·.born) = es.toList.map (·.born) := by
     rw [Array.toList_modify]
     refine List.ext_getElem? fun j => ?_
     rw [List.getElem?_map, List.getElem?_map, List.getElem?_modify]
     split <;> cases es.toList[j]? <;> rfl
    refine ⟨?_, ?_, ?_, TMap.nodup_put hf.keys⟩
    ·rw [(hp v).1]
     have := hf.ents
     simp only [EntsAre] at this ⊢
     rw [Array.toList_modify, List.map_set, ← this]
     refine List.ext_getElem? fun j => ?_
     rw [List.getElem?_map, List.getElem?_modify, List.getElem?_set, List.getElem?_map]
     by_cases hj : i = j
     ·subst hj
      have hil2 : i < es.size := by rw [← Array.length_toList]; exact hil
      simp [hil2, hx]
     ·simp [hj]
    ·intro x hx
     have : x.born ∈ es.toList.map (·.born) := by rw [← hb2]; exact List.mem_map_of_mem (f := (·.born)) hx
     obtain ⟨y, hy, he⟩ := List.mem_map.1 this
     rw [← he]; exact hf.born y hy
    ·rw [hb2]; exact hf.once
theorem run_del {w : World} {b : Nat} {m : TMap} (hm : MapIs w b m) (k : ByteArray) (ty : TypeId) :
 ∃ es' cl', (Builtin.delete_ #[t, key] ty #[.map (some b), .string k]).run P w = .ok (.tuple #[]) (setObjAt w b (.map es' cl')) ∧ Fine es' cl' (TMap.del m k) := by
 obtain ⟨es, cl, hb, hf⟩ := hm
 have hgo : (getObj b).run P w = .ok (.map es cl) w := by simp only [getObj, Sem.run, hb]
 have hso : ∀ o, (setObj b o).run P w = .ok () (setObjAt w b o) := fun o => by simp only [setObj, Sem.run, hb]; rfl
 cases hfd : TMap.find m k 0 with
 | none =>
   obtain ⟨hk, hp⟩ := TMap.find_none hfd
   refine ⟨es, cl, ?_, ?_⟩
   ·simp only [Builtin.delete_, List.getElem?_toArray, List.getElem?_cons_zero, List.getElem?_cons_succ, Sem.run_bind, run_underlying h1, Result.andThen_ok, hgo, check_text h2, find_text h2 hf.ents, hfd, hso, Sem.run_pure]
   ·rw [(hp k).2]; exact hf
 | some p =>
   obtain ⟨i, u⟩ := p
   obtain ⟨_, ⟨v0, hi, rfl⟩, hp⟩ := TMap.find_some hfd
   rw [Nat.sub_zero] at hi hp
   refine ⟨es.eraseIdxIfInBounds i, cl, ?_, ?_⟩
   ·simp only [Builtin.delete_, List.getElem?_toArray, List.getElem?_cons_zero, List.getElem?_cons_succ, Sem.run_bind, run_underlying h1, Result.andThen_ok, hgo, check_text h2, find_text h2 hf.ents, hfd, hso, Sem.run_pure]
   ·have hl : (es.eraseIdxIfInBounds i).toList = es.toList.eraseIdx i := by simp
    have hsub : (es.toList.eraseIdx i).Sublist es.toList := List.eraseIdx_sublist _ _
    refine ⟨?_, ?_, ?_, TMap.nodup_del hf.keys⟩
    ·have := hf.ents
     simp only [EntsAre] at this ⊢
     rw [hl, (hp k).2, map_erase, map_erase, this]
    ·intro x hx
     rw [hl] at hx
     exact hf.born x (hsub.subset hx)
    ·rw [hl]
     exact (hsub.map _).nodup hf.once
end
theorem run_clear {P : Program} {t key e : TypeId} (h1 : P.underlying t = some (.map key e)) {w : World} {b : Nat} {m : TMap} (hm : MapIs w b m) (ty : TypeId) :
 ∃ cl', (Builtin.clear_ #[t] ty #[.map (some b)]).run P w = .ok (.tuple #[]) (setObjAt w b (.map #[] cl')) := by
 obtain ⟨es, cl, hb, hf⟩ := hm
 have hgo : (getObj b).run P w = .ok (.map es cl) w := by simp only [getObj, Sem.run, hb]
 have hso : ∀ o, (setObj b o).run P w = .ok () (setObjAt w b o) := fun o => by simp only [setObj, Sem.run, hb]; rfl
 exact ⟨cl, by simp only [Builtin.clear_, List.getElem?_toArray, List.getElem?_cons_zero, Sem.run_bind, run_underlying h1, Result.andThen_ok, hgo, hso, Sem.run_pure]⟩
theorem fine_none (cl : Nat) : Fine #[] cl [] := ⟨rfl, by simp, by simp, by simp⟩
theorem heap_setObjAt (w : World) (b : Nat) (o : Obj) (k : Nat) (h : k ≠ b) : (setObjAt w b o).heap[k]? = w.heap[k]? := by
 simp only [setObjAt]
 rw [Array.getElem?_setIfInBounds_ne (Ne.symm h)]
theorem size_setObjAt (w : World) (b : Nat) (o : Obj) : (setObjAt w b o).heap.size = w.heap.size := by simp [setObjAt]
theorem at_setObjAt (w : World) (b : Nat) (o : Obj) (h : b < w.heap.size) : (setObjAt w b o).heap[b]? = some o := by
 simp only [setObjAt]
 rw [Array.getElem?_setIfInBounds_self_of_lt h]
/-! ### frames -/
structure Fr (O : List Nat) (w w' : World) : Prop where
 os : w'.os = w.os
 tape : w'.tape = w.tape
 output : w'.output = w.output
 size : w.heap.size ≤ w'.heap.size
 block : ∀ k, k < w.heap.size → k ∉ O → w'.heap[k]? = w.heap[k]?
theorem Fr.refl (O : List Nat) (w : World) : Fr O w w := ⟨rfl, rfl, rfl, Nat.le_refl _, fun _ _ _ => rfl⟩
theorem Fr.mono {O O' : List Nat} {w w' : World} (h : Fr O w w') (hs : ∀ k, k ∈ O → k < w.heap.size → k ∈ O') : Fr O' w w' :=
 ⟨h.os, h.tape, h.output, h.size, fun k h1 h2 => h.block k h1 fun h3 => h2 (hs k h3 h1)⟩
theorem Fr.trans {O O' : List Nat} {a b c : World} (h : Fr O a b) (h' : Fr O' b c) (hs : ∀ k, k ∈ O' → k < a.heap.size → k ∈ O) : Fr O a c where
 os := h'.os.trans h.os
 tape := h'.tape.trans h.tape
 output := h'.output.trans h.output
 size := Nat.le_trans h.size h'.size
 block := fun k h1 h2 => (h'.block k (Nat.lt_of_lt_of_le h1 h.size) fun h3 => h2 (hs k h3 h1)).trans (h.block k h1 h2)
theorem Fr.of_below {O : List Nat} {w w' : World} (h : Below w.heap.size w w') : Fr O w w' := ⟨h.os, h.tape, h.output, h.size, fun k hk _ => h.block k hk⟩
theorem Fr.below {w w' : World} (h : Fr [] w w') : Below w.heap.size w w' := ⟨h.os, h.tape, h.output, h.size, fun k hk => h.block k hk (by simp)⟩
theorem Fr.set_ (w : World) (b : Nat) (o : Obj) : Fr [b] w (setObjAt w b o) :=
 ⟨rfl, rfl, rfl, by rw [size_setObjAt]; exact Nat.le_refl _, fun k _ h => heap_setObjAt w b o k (by simpa using h)⟩
theorem Fr.cell (w : World) (p : Addr) (u : Value) : Fr [p.block] w (w.setCell p u) :=
 ⟨rfl, rfl, rfl, by simp [World.setCell], fun k _ h => Below.heap_setCell w p u k (by simpa using h)⟩
theorem Fr.alloc (w : World) (o : Obj) : Fr [] w (w.alloc o) := Fr.of_below ((Below.refl _ _).alloc (Nat.le_refl _) _)
theorem Fr.heap {O : List Nat} {w w' : World} (h : Fr O w w') {k : Nat} {o : Obj} (hk : w.heap[k]? = some o) (hO : k ∉ O) : w'.heap[k]? = some o :=
 (h.block k (Array.getElem?_eq_some_iff.1 hk).1 hO).trans hk
theorem Fr.map {O : List Nat} {w w' : World} (h : Fr O w w') {k : Nat} {m : TMap} (hk : MapIs w k m) (hO : k ∉ O) : MapIs w' k m := hk.of_heap (h.block k hk.lt hO)
theorem Fr.blk {O : List Nat} {w w' : World} (h : Fr O w w') {k : Nat} {t : TypeId} {cs : Array Value} (hk : Blk w k t cs) (hO : k ∉ O) : Blk w' k t cs := h.heap hk hO
end Vm
end Go.Proofs.YtnbkhdbligjifaaGreatDoor
