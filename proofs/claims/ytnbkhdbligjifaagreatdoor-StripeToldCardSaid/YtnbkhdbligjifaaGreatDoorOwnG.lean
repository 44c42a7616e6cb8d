/-
 Words and laws for memory that a call makes for itself: a block known whole; rows of bytes; text out of bytes. No program is named. What a slice looks like that owns a row of one-cell elements. No program is named. What temporaries of a drawn region hold: new rows, pointers to new blocks. No program is named. Rows of the call's own: an append onto one, text out of one. No program is named. Rows of the call's own of which no cell behind the last one that is shown is frozen (so is what '[]byte(s)' makes): an append onto one, text out of one. No program is named.
-/
import Derived.WalkKit
import Derived.WalkLawsBesides
import Derived.WalkSpells
import Derived.Lib.Hide
import Derived.Handy
import Derived.Below
import Derived.Laws.OwnMore
import Derived.Laws.BytesArg
import Derived.Deep.Draws
import Derived.Laws.Rows
import Derived.Test.YtnbkhdbligjifaaGreatDoorStable
import Derived.Deep.AppendLies
import Derived.Lib.FrozenHead2
import Derived.Lib.AtoiErrMem
set_option linter.unusedVariables false
set_option linter.unusedSimpArgs false
namespace Go.Proofs.YtnbkhdbligjifaaGreatDoor
open Go.RowKit
def Blk (w : World) (g : Nat) (t : TypeId) (cs : Array Value) : Prop := w.heap[g]? = some (.cells cs t (0, 0))
section
variable {w w' : World} {g : Nat} {t : TypeId} {cs : Array Value}
theorem Blk.lt (h : Blk w g t cs) : g < w.heap.size := by
 rcases Nat.lt_or_ge g w.heap.size with hlt | hge
 ·exact hlt
 ·unfold Blk at h; rw [Array.getElem?_eq_none hge] at h; cases h
theorem Blk.cell (h : Blk w g t cs) (i : Nat) : w.cell? ⟨g, i, none⟩ = cs[i]? := cell_of_row w g i cs t (0, 0) h
theorem Blk.frozen (h : Blk w g t cs) (i : Nat) : w.frozen? ⟨g, i, none⟩ = false := by
 unfold Blk at h
 simp [World.frozen?, h]
theorem Blk.new (w : World) (t : TypeId) (cs : Array Value) : Blk (w.alloc (.cells cs t)) w.heap.size t cs := heap_alloc_new w _
theorem Blk.drew (h : Blk w g t cs) : Blk w.drew g t cs := h
theorem Blk.drewN (h : Blk w g t cs) (n : Nat) : Blk (w.drewN n) g t cs := h
theorem Blk.alloc (h : Blk w g t cs) (o : Obj) : Blk (w.alloc o) g t cs := (Below.heap_alloc w o g h.lt).trans h
theorem Blk.set_ (h : Blk w g t cs) (i : Nat) (u : Value) : Blk (w.setCell ⟨g, i, none⟩ u) g t (cs.setIfInBounds i u) := by
 unfold Blk at h ⊢
 simp [World.setCell, Array.getElem?_modify, h]
theorem Blk.far (h : Blk w g t cs) {p : Addr} (hp : g ≠ p.block) (u : Value) : Blk (w.setCell p u) g t cs := (Below.heap_setCell w p u g hp).trans h
theorem Blk.below {B : Nat} (h : Blk w g t cs) (hb : Below B w w') (hg : g < B) : Blk w' g t cs := (hb.block g hg).trans h
theorem Blk.grown {row : Option Nat} (h : Blk w g t cs) (hb : w.grownBy w' row) (hg : some g ≠ row) : Blk w' g t cs := (hb.block g h.lt hg).trans h
end
theorem madeCells_one (z : Value) (n : Nat) : madeCells #[z] n = Array.replicate n z := by
 apply Array.toList_inj.1
 rw [toList_madeCells_one]; simp
theorem run_mk {P : Program} {t e : TypeId} {z : Value} {bytes : Nat} (ht : P.underlying t = some (.slice e)) (he : (P.info? e).map (fun i => (i.zero, i.size, i.bytes)) = some (some z, 1, bytes)) (hz : z.cells = #[z]) (n : Nat) (hn : bytes * n ≤ 281474976710656) (h63 : (n : Int) ≤ 9223372036854775807) (W : World) :
 (Instr.makeSlice t (.int .i64 (n : Int)) (.int .i64 (n : Int))).run P W = .ok (.slice (some ⟨W.heap.size, 0, none⟩) n n) (W.alloc (.cells (Array.replicate n z) e)) := by
 obtain ⟨i, hi, h1, h2, h3⟩ := info_parts he
 have h := run_make (P := P) W t e i z ht hi h1 .i64 .i64 (n : Int) (n : Int) (by omega) (Int.le_refl _) (by rw [h3, ← Int.natCast_mul]; omega) h63
 rw [h, h2, hz]
 simp only [Int.toNat_natCast, Nat.mul_one, madeCells_one]
def appSem (ts : Array TypeId) (ty : TypeId) (args : Array Value) : Sem Value := Builtin.append_ ts ty args
theorem appSem_eq (ts : Array TypeId) (ty : TypeId) (args : Array Value) : Builtin.append_ ts ty args = appSem ts ty args := rfl
def nums (l : List UInt8) : Array Value := (l.map fun b => Value.int .u8 (b.toNat : Int)).toArray
theorem nums_size (l : List UInt8) : (nums l).size = l.length := by simp [nums]
theorem nums_get (l : List UInt8) (i : Nat) (hi : i < l.length) : (nums l)[i]? = some (.int .u8 (l[i].toNat : Int)) := by simp [nums, hi]
theorem nums_set (l : List UInt8) (i : Nat) (b : UInt8) : (nums l).setIfInBounds i (.int .u8 (b.toNat : Int)) = nums (l.set i b) := by
 apply Array.toList_inj.1
 simp [nums, List.map_set]
theorem nums_zero (n : Nat) : Array.replicate n (Value.int .u8 0) = nums (List.replicate n 0) := by
 apply Array.toList_inj.1
 simp [nums]
theorem run_text {P : Program} {w : World} {src e dst : TypeId} (hs : P.underlying src = some (.slice e)) (he : P.underlying e = some (.int .u8)) (hd : P.underlying dst = some .string) {g cap : Nat} {t : TypeId} {l : List UInt8} {r : Array Value} (h : Blk w g t (nums l ++ r)) :
 (convert src dst (.slice (some ⟨g, 0, none⟩) l.length cap)).run P w = .ok (.string ⟨l.toArray⟩) w := by
 refine run_convert_bytes_back w src dst e ⟨g, 0, none⟩ cap l hs he hd (fun j hj => ?_)
 have hp : (⟨g, 0, none⟩ : Addr).add j = ⟨g, j, none⟩ := by unfold Addr.add; split <;> simp_all
 rw [hp, h.cell j, Array.getElem?_append_left (by rw [nums_size]; exact hj), nums_get l j hj]
end Go.Proofs.YtnbkhdbligjifaaGreatDoor
namespace Go.Proofs.YtnbkhdbligjifaaGreatDoor
open Go.RowKit
theorem row_form {w : World} {base : Nat} {e : TypeId} {v : Value} {n : Nat} {xs : List Value} (h : w.ownsRow base e 1 v n xs) :
 ∃ A cap, v = .slice A n cap ∧ (0 < n → ∃ g cur, A = some ⟨g, 0, none⟩ ∧ base ≤ g ∧ Blk w g e cur ∧ ∀ (j : Nat) (u : Value), xs[j]? = some u → cur[j]? = some u) := by
 obtain ⟨h1, h2⟩ := h
 rcases h2 with ⟨rfl, rfl⟩ | ⟨g, cap, cur, rfl, hb, hg, hn, hc, hs, ht⟩
 ·exact ⟨none, 0, rfl, fun h => absurd h (by omega)⟩
 ·refine ⟨some ⟨g, 0, none⟩, cap, rfl, fun _ => ⟨g, cur, rfl, hb, hg, fun j u hj => ?_⟩⟩
  have hl : j < xs.length := by
   rcases Nat.lt_or_ge j xs.length with h | h
   ·exact h
   ·rw [List.getElem?_eq_none h] at hj; cases hj
  rw [← ht, List.getElem?_take_of_lt (by omega)] at hj
  rw [← Array.getElem?_toList]; exact hj
end Go.Proofs.YtnbkhdbligjifaaGreatDoor
namespace Go.Proofs.YtnbkhdbligjifaaGreatDoor
open Go.RowKit
namespace Stab
theorem cells_blk {w : World} {g : Nat} {t : TypeId} {l : List Value} (h : Blk w g t l.toArray) (j : Nat) (u : Value) (hu : l[j]? = some u) : w.cell? ((⟨g, 0, none⟩ : Addr).add j) = some u := by
 have hp : (⟨g, 0, none⟩ : Addr).add j = ⟨g, j, none⟩ := by unfold Addr.add; split <;> simp_all
 rw [hp, h.cell j]; simpa using hu
end Stab
end Go.Proofs.YtnbkhdbligjifaaGreatDoor
namespace Go.Proofs.YtnbkhdbligjifaaGreatDoor
open Go.RowKit
theorem own_ext {w w' : World} {base : Nat} {e : TypeId} {size : Nat} {v : Value} {n : Nat} {xs : List Value} (h : w.ownsRow base e size v n xs) (hb : Stab.Ext w w') : w'.ownsRow base e size v n xs := by
 refine ⟨h.1, ?_⟩
 rcases h.2 with hn | ⟨g, cap, cur, rfl, hb0, hgg, rest⟩
 ·exact .inl hn
 ·exact .inr ⟨g, cap, cur, rfl, hb0, (Below.block hb g (Array.getElem?_eq_some_iff.1 hgg).1).trans hgg, rest⟩
section
variable {P : Program} {t e : TypeId} {z : Value} {size bytes : Nat}
theorem own_app (ht : P.underlying t = some (.slice e)) (he : (P.info? e).map (fun i => (i.zero, i.size, i.bytes)) = some (some z, size, bytes)) (hzs : z.cells.size = size) (hsz : 0 < size) (hb0 : 0 < bytes)
 {w : World} {base n m gb c : Nat} {v : Value} {xs : List Value} {C : Array Value} (hv : w.ownsRow base e size v n xs) (hb : Blk w gb e C) (hl : C.size = m * size) (h1 : C.all (·.oneCell') = true) (hm : 0 < m)
 (hby : (n + m) * bytes ≤ 140737488355328) (hbase : base ≤ w.heap.size) :
 ∃ g cap w', (appSem #[t, t] t #[v, .slice (some ⟨gb, 0, none⟩) m c]).run P w = .ok (.slice (some ⟨g, 0, none⟩) (n + m) cap) w' ∧ w'.ownsRow base e size (.slice (some ⟨g, 0, none⟩) (n + m) cap) (n + m) (xs ++ C.toList) ∧
  Below base w w' ∧ w.grownBy w' v.ownBlock ∧ (v.ownBlock = some g ∨ g = w.heap.size) := by
 obtain ⟨i, hi, hz0, hz1, hz2⟩ := info_parts he
 have hle : n + m ≤ (n + m) * bytes := Nat.le_mul_of_pos_right _ hb0
 obtain ⟨g, cap, w', hr, h2, h3, h4, _⟩ := run_append_lies (P := P) w t t base e i z size bytes ht hi hz0 hz1 hz2 hzs hsz v n xs hv ⟨gb, 0, none⟩ m c C.toList (by simpa using hl)
  (Stab.cells_blk (by simpa using hb)) (fun u hu => by
   have := Array.all_eq_true_iff_forall_mem.1 h1 u (by simpa using hu)
   exact this) hm (by unfold maxLen; omega) hby hbase _ rfl
 exact ⟨g, cap, w', hr, h2, (Below.refl _ _).grown h3 hbase (fun k hk => (hv.lt k hk).1), h3, h4⟩
theorem own_app_new (ht : P.underlying t = some (.slice e)) (he : (P.info? e).map (fun i => (i.zero, i.size, i.bytes)) = some (some z, size, bytes)) (hzs : z.cells.size = size) (hsz : 0 < size) (hb0 : 0 < bytes)
 {w : World} {base n m c : Nat} {v : Value} {xs : List Value} {C : Array Value} (hv : w.ownsRow base e size v n xs) (hl : C.size = m * size) (h1 : C.all (·.oneCell') = true) (hm : 0 < m)
 (hby : (n + m) * bytes ≤ 140737488355328) (hbase : base ≤ w.heap.size) :
 ∃ g cap w', (appSem #[t, t] t #[v, .slice (some ⟨w.heap.size, 0, none⟩) m c]).run P (w.alloc (.cells C e)) = .ok (.slice (some ⟨g, 0, none⟩) (n + m) cap) w' ∧ w'.ownsRow base e size (.slice (some ⟨g, 0, none⟩) (n + m) cap) (n + m) (xs ++ C.toList) ∧
  Below base w w' ∧ (w.alloc (.cells C e)).grownBy w' v.ownBlock ∧ (v.ownBlock = some g ∨ g = w.heap.size + 1) := by
 obtain ⟨g, cap, w', h1, h2, h3, h4, h5⟩ := own_app (t := t) (c := c) ht he hzs hsz hb0 (hv.alloc (.cells C e)) (Blk.new w e C) hl h1 hm hby (by simp; omega)
 exact ⟨g, cap, w', h1, h2, ((Below.refl _ _).alloc hbase _).trans h3, h4, by simpa using h5⟩
end
end Go.Proofs.YtnbkhdbligjifaaGreatDoor
namespace Go.Proofs.YtnbkhdbligjifaaGreatDoor
open Go.RowKit
def OwnG (w : World) (base : Nat) (e : TypeId) (size : Nat) (v : Value) (n : Nat) (xs : List Value) : Prop :=
 xs.length = n * size ∧ ((v = .slice none 0 0 ∧ n = 0) ∨
  ∃ g cap cur fz, v = .slice (some ⟨g, 0, none⟩) n cap ∧ base ≤ g ∧ w.heap[g]? = some (.cells cur e fz) ∧ (fz.2 ≤ n * size ∨ cur.size ≤ fz.1) ∧ n ≤ cap ∧ cap ≤ maxLen ∧ cur.size = cap * size ∧ cur.toList.take (n * size) = xs)
section
variable {w w' : World} {base : Nat} {e : TypeId} {size : Nat} {v : Value} {n : Nat} {xs : List Value}
theorem OwnG.of (h : w.ownsRow base e size v n xs) : OwnG w base e size v n xs := by
 refine ⟨h.1, ?_⟩
 rcases h.2 with h | ⟨g, cap, cur, h1, h2, h3, h4⟩
 ·exact .inl h
 ·exact .inr ⟨g, cap, cur, (0, 0), h1, h2, h3, .inl (Nat.zero_le _), h4⟩
theorem OwnG.nil (w : World) (base : Nat) (e : TypeId) (size : Nat) : OwnG w base e size (.slice none 0 0) 0 [] := ⟨by simp, .inl ⟨rfl, rfl⟩⟩
theorem OwnG.lt (h : OwnG w base e size v n xs) : ∀ k, v.ownBlock = some k → base ≤ k ∧ k < w.heap.size := by
 rcases h.2 with ⟨rfl, _⟩ | ⟨g, cap, cur, fz, rfl, hb, hg, _⟩
 ·intro k hk; cases hk
 ·intro k hk
  have : g = k := by simpa [Value.ownBlock] using hk
  subst this
  exact ⟨hb, (Array.getElem?_eq_some_iff.1 hg).1⟩
theorem OwnG.keep (h : OwnG w base e size v n xs) (hk : ∀ k, v.ownBlock = some k → w'.heap[k]? = w.heap[k]?) : OwnG w' base e size v n xs := by
 refine ⟨h.1, ?_⟩
 rcases h.2 with h | ⟨g, cap, cur, fz, rfl, hb, hg, rest⟩
 ·exact .inl h
 ·exact .inr ⟨g, cap, cur, fz, rfl, hb, (hk g rfl).trans hg, rest⟩
theorem OwnG.ext (h : OwnG w base e size v n xs) (hE : Stab.Ext w w') : OwnG w' base e size v n xs := h.keep fun k hk => Below.block hE k (h.lt k hk).2
theorem OwnG.alloc (h : OwnG w base e size v n xs) (o : Obj) : OwnG (w.alloc o) base e size v n xs := h.ext (Stab.Ext.alloc w o)
theorem OwnG.drew (h : OwnG w base e size v n xs) : OwnG w.drew base e size v n xs := h
theorem OwnG.grown (h : OwnG w base e size v n xs) {row : Option Nat} (hg : w.grownBy w' row) (hne : ∀ k, v.ownBlock = some k → some k ≠ row) : OwnG w' base e size v n xs := h.keep fun k hk => hg.block k (h.lt k hk).2 (hne k hk)
theorem OwnG.cells (h : OwnG w base e size v n xs) {g : Nat} (hg : v.ownBlock = some g) (j : Nat) (u : Value) (hu : xs[j]? = some u) : w.cell? ⟨g, j, none⟩ = some u := by
 rcases h.2 with ⟨rfl, _⟩ | ⟨g', cap, cur, fz, rfl, hb, hh, _, _, _, _, ht⟩
 ·cases hg
 ·have : g' = g := by simpa [Value.ownBlock] using hg
  subst this
  rw [cell_of_row _ _ j _ _ _ hh]
  rw [← ht, List.getElem?_take] at hu
  split at hu
  ·simpa using hu
  ·cases hu
theorem OwnG.form (h : OwnG w base e size v n xs) : (n = 0 ∧ v = .slice none 0 0) ∨ ∃ g cap, v = .slice (some ⟨g, 0, none⟩) n cap ∧ base ≤ g ∧ n ≤ cap ∧ g < w.heap.size := by
 rcases h.2 with ⟨h1, h2⟩ | ⟨g, cap, cur, fz, h1, hb, hg, _, hc, _⟩
 ·exact .inl ⟨h2, h1⟩
 ·exact .inr ⟨g, cap, h1, hb, hc, (Array.getElem?_eq_some_iff.1 hg).1⟩
theorem OwnG.shape (h : OwnG w base e size v n xs) : ∃ A cap, v = .slice A n cap := by
 rcases h.form with ⟨h0, h'⟩ | ⟨g, cap, h', _⟩
 ·exact ⟨none, 0, by rw [h', h0]⟩
 ·exact ⟨_, _, h'⟩
theorem OwnG.addr (h : OwnG w base e size v n xs) (hn : 0 < n) : ∃ g cap, v = .slice (some ⟨g, 0, none⟩) n cap ∧ base ≤ g ∧ n ≤ cap ∧ g < w.heap.size := by
 rcases h.form with ⟨h0, _⟩ | h
 ·omega
 ·exact h
end
theorem run_storeCells_G (P : Program) (g o : Nat) (t : TypeId) (fz : Nat × Nat) : ∀ (vs : List Value) (i : Nat) (cur : Array Value) (w : World), w.heap[g]? = some (.cells cur t fz) → (fz.2 ≤ o + i ∨ cur.size ≤ fz.1) → o + i + vs.length ≤ cur.size → (∀ v ∈ vs, v.oneCell' = true) →
 (storeCells ⟨g, o, none⟩ vs i).run P w = .ok () (w.setRow g (cur.toList.take (o + i) ++ vs ++ cur.toList.drop (o + i + vs.length)).toArray)
 | [], i, cur, w, hg, _, _, _ => by
   simp only [storeCells, List.append_nil, List.length_nil, Nat.add_zero, List.take_append_drop, Array.toArray_toList]
   rw [setRow_self w g cur t fz hg]
   rfl
 | v :: rest, i, cur, w, hg, hfz, hl, h1 => by
   have hi : o + i < cur.size := by simp at hl; omega
   have hadd : (⟨g, o, none⟩ : Addr).add i = ⟨g, o + i, none⟩ := by unfold Addr.add; split <;> simp_all
   have hcell : w.cell? ⟨g, o + i, none⟩ = some cur[o + i] := by simp [World.cell?, hg, hi]
   have hfro : w.frozen? ⟨g, o + i, none⟩ = false := by
    obtain ⟨lo, hi'⟩ := fz
    simp only [World.frozen?, hg, Bool.and_eq_false_iff, decide_eq_false_iff_not]
    simp only at hfz
    rcases hfz with hfz | hfz
    ·right; omega
    ·left; omega
   have hst : (store ((⟨g, o, none⟩ : Addr).add i) v).run P w = .ok () (w.setRow g (cur.setIfInBounds (o + i) v)) := by
    rw [hadd, run_store P w _ v _ (h1 v (by simp)), hcell]
    simp [hfro, setCell_eq_setRow w g (o + i) cur t fz v hg]
   have ih := run_storeCells_G P g o t fz rest (i + 1) (cur.setIfInBounds (o + i) v) (w.setRow g (cur.setIfInBounds (o + i) v)) (setRow_heap w g cur _ t _ hg) (hfz.imp (by omega) (by simp)) (by simp at hl ⊢; omega) (fun x hx => h1 x (by simp [hx]))
   simp only [storeCells, Sem.run_bind, hst, Result.andThen_ok, ih, setRow_setRow]
   congr 3
   have e := list_seg_step cur.toList (o + i) v rest (by simp at hl ⊢; omega)
   simpa [Array.toList_setIfInBounds, Nat.add_assoc] using e
section
variable {P : Program} {t e : TypeId} {z : Value} {size bytes : Nat}
theorem ownG_app (ht : P.underlying t = some (.slice e)) (he : (P.info? e).map (fun i => (i.zero, i.size, i.bytes)) = some (some z, size, bytes)) (hzs : z.cells.size = size) (hsz : 0 < size) (hb0 : 0 < bytes)
 {w : World} {base n : Nat} {v : Value} {xs : List Value} (hown : OwnG w base e size v n xs) (a : Addr) (m c : Nat) (news : List Value) (hl : news.length = m * size) (hnews : ∀ j u, news[j]? = some u → w.cell? (a.add j) = some u)
 (h1 : ∀ u ∈ news, u.oneCell' = true) (hm : 0 < m) (hby : (n + m) * bytes ≤ 140737488355328) (hbase : base ≤ w.heap.size) :
 ∃ g cap w', (appSem #[t, t] t #[v, .slice (some a) m c]).run P w = .ok (.slice (some ⟨g, 0, none⟩) (n + m) cap) w' ∧ OwnG w' base e size (.slice (some ⟨g, 0, none⟩) (n + m) cap) (n + m) (xs ++ news) ∧
  Below base w w' ∧ w.grownBy w' v.ownBlock ∧ (v.ownBlock = some g ∨ g = w.heap.size) := by
 obtain ⟨i, hi, hz, hsize, hbytes⟩ := info_parts he
 have hle : n + m ≤ (n + m) * bytes := Nat.le_mul_of_pos_right _ hb0
 rcases hown.2 with ⟨rfl, rfl⟩ | ⟨g, cap, cur, fz, rfl, hbg, hg, hfz, hnc, hcm, hcs, htake⟩
 ·obtain ⟨g, cap, w', hr, h2, h3, h4, _⟩ := run_append_lies (P := P) w t t base e i z size bytes ht hi hz hsize hbytes hzs hsz (.slice none 0 0) 0 xs ⟨hown.1, .inl ⟨rfl, rfl⟩⟩ a m c news hl hnews h1 hm (by unfold maxLen; omega) hby hbase _ rfl
  exact ⟨g, cap, w', hr, OwnG.of h2, (Below.refl _ _).grown h3 hbase (fun k hk => by cases hk), h3, h4⟩
 ·subst hsize
  subst hbytes
  have hsmall : n + m ≤ 9223372036854775807 := by omega
  have hlen : (xs ++ news).length = (n + m) * i.size := by rw [List.length_append, hown.1, hl, Nat.add_mul]
  by_cases hroom : n + m ≤ cap
  ·have hfit : n * i.size + news.length ≤ cur.size := by rw [hl, hcs, ← Nat.add_mul]; exact Nat.mul_le_mul_right _ hroom
   have hf := run_firstCells_some (P := P) w i.size m a m c news hl hnews
   have hst := run_storeCells_G P g (n * i.size) e fz news 0 cur w hg (by simpa using hfz) (by simpa using hfit) h1
   simp only [Nat.add_zero] at hst
   have hr : (Builtin.append_ #[t, t] t #[.slice (some ⟨g, 0, none⟩) n cap, .slice (some a) m c]).run P w = .ok (.slice (some ⟨g, 0, none⟩) (n + m) cap) (w.setRow g (cur.toList.take (n * i.size) ++ news ++ cur.toList.drop (n * i.size + news.length)).toArray) := by
    simp [Builtin.append_, run_underlying ht, sizeOf, typeInfo, hi, Builtin.lenOf, hroom, hf, Addr.add_lit, hst]
   have hgb : w.grownBy (w.setRow g (cur.toList.take (n * i.size) ++ news ++ cur.toList.drop (n * i.size + news.length)).toArray) (Value.slice (some ⟨g, 0, none⟩) n cap).ownBlock := ⟨rfl, rfl, rfl, by simp, fun k _ hk => setRow_other w g k _ (fun e => hk (by simp [Value.ownBlock, e]))⟩
   have hsz2 : (cur.toList.take (n * i.size) ++ news ++ cur.toList.drop (n * i.size + news.length)).toArray.size = cur.size := by
    simp only [List.size_toArray, List.length_append, List.length_take, List.length_drop, Array.length_toList]
    omega
   refine ⟨g, cap, _, hr, ⟨hlen, .inr ⟨g, cap, _, fz, rfl, hbg, setRow_heap w g cur _ e _ hg, ?_, hroom, hcm, by rw [hsz2]; exact hcs, ?_⟩⟩, (Below.refl _ _).grown hgb hbase (fun k hk => ?_), hgb, .inl rfl⟩
   ·rw [hsz2]
    exact hfz.imp (fun h => Nat.le_trans h (Nat.mul_le_mul_right _ (Nat.le_add_right n m))) id
   ·rw [htake, ← hlen]
    exact List.take_left
   ·have : g = k := by simpa [Value.ownBlock] using hk
    omega
  ·have holds : ∀ j u, xs[j]? = some u → w.cell? ((⟨g, 0, none⟩ : Addr).add j) = some u := fun j u hu => by
    have hp : (⟨g, 0, none⟩ : Addr).add j = ⟨g, j, none⟩ := by unfold Addr.add; split <;> simp_all
    rw [hp]; exact hown.cells rfl j u hu
   have hr := run_append_grow (P := P) w t t e i z ht hi hz ⟨g, 0, none⟩ n cap xs hown.1 holds a m c news hl hnews (by omega) (by omega) (growslice_fits (by omega) hby)
   have hge := grownCap_ge w (n + m) cap e
   have hcm2 : grownCap w (n + m) cap e ≤ maxLen := grownCap_le_maxLen w (n + m) cap e (by unfold maxLen; omega)
   have hgb : w.grownBy (w.drew.alloc (.cells (xs.toArray ++ news.toArray ++ Builtin.zeroCells z.cells (grownCap w (n + m) cap e - (n + m))) e)) (Value.slice (some ⟨g, 0, none⟩) n cap).ownBlock := ⟨rfl, rfl, rfl, by simp, fun k hk _ => Below.heap_alloc w.drew _ k hk⟩
   refine ⟨w.heap.size, _, _, hr, ⟨hlen, .inr ⟨w.heap.size, _, _, (0, 0), rfl, hbase, heap_alloc_new w.drew _, .inl (Nat.zero_le _), hge, hcm2, ?_, ?_⟩⟩, (Below.refl _ _).grown hgb hbase (fun k hk => ?_), hgb, .inr rfl⟩
   ·simp only [Array.size_append, List.size_toArray, size_zeroCells, hzs, hown.1, hl, ← Nat.add_mul]
    congr 1
    omega
   ·simp only [Array.toList_append, List.append_assoc]
    rw [← List.append_assoc, ← hlen]
    exact List.take_left
   ·have : g = k := by simpa [Value.ownBlock] using hk
    omega
theorem ownG_blk (ht : P.underlying t = some (.slice e)) (he : (P.info? e).map (fun i => (i.zero, i.size, i.bytes)) = some (some z, size, bytes)) (hzs : z.cells.size = size) (hsz : 0 < size) (hb0 : 0 < bytes)
 {w : World} {base n m gb c : Nat} {v : Value} {xs : List Value} {C : Array Value} (hv : OwnG w base e size v n xs) (hb : Blk w gb e C) (hl : C.size = m * size) (h1 : C.all (·.oneCell') = true) (hm : 0 < m)
 (hby : (n + m) * bytes ≤ 140737488355328) (hbase : base ≤ w.heap.size) :
 ∃ g cap w', (appSem #[t, t] t #[v, .slice (some ⟨gb, 0, none⟩) m c]).run P w = .ok (.slice (some ⟨g, 0, none⟩) (n + m) cap) w' ∧ OwnG w' base e size (.slice (some ⟨g, 0, none⟩) (n + m) cap) (n + m) (xs ++ C.toList) ∧
  Below base w w' ∧ w.grownBy w' v.ownBlock ∧ (v.ownBlock = some g ∨ g = w.heap.size) :=
 ownG_app ht he hzs hsz hb0 hv ⟨gb, 0, none⟩ m c C.toList (by simpa using hl) (Stab.cells_blk (by simpa using hb)) (fun u hu => Array.all_eq_true_iff_forall_mem.1 h1 u (by simpa using hu)) hm hby hbase
theorem ownG_new (ht : P.underlying t = some (.slice e)) (he : (P.info? e).map (fun i => (i.zero, i.size, i.bytes)) = some (some z, size, bytes)) (hzs : z.cells.size = size) (hsz : 0 < size) (hb0 : 0 < bytes)
 {w : World} {base n m c : Nat} {v : Value} {xs : List Value} {C : Array Value} (hv : OwnG w base e size v n xs) (hl : C.size = m * size) (h1 : C.all (·.oneCell') = true) (hm : 0 < m)
 (hby : (n + m) * bytes ≤ 140737488355328) (hbase : base ≤ w.heap.size) :
 ∃ g cap w', (appSem #[t, t] t #[v, .slice (some ⟨w.heap.size, 0, none⟩) m c]).run P (w.alloc (.cells C e)) = .ok (.slice (some ⟨g, 0, none⟩) (n + m) cap) w' ∧ OwnG w' base e size (.slice (some ⟨g, 0, none⟩) (n + m) cap) (n + m) (xs ++ C.toList) ∧
  Below base w w' ∧ (w.alloc (.cells C e)).grownBy w' v.ownBlock ∧ (v.ownBlock = some g ∨ g = w.heap.size + 1) := by
 obtain ⟨g, cap, w', h1, h2, h3, h4, h5⟩ := ownG_blk (t := t) (c := c) ht he hzs hsz hb0 (hv.alloc (.cells C e)) (Blk.new w e C) hl h1 hm hby (by simp; omega)
 exact ⟨g, cap, w', h1, h2, ((Below.refl _ _).alloc hbase _).trans h3, h4, by simpa using h5⟩
end
end Go.Proofs.YtnbkhdbligjifaaGreatDoor
