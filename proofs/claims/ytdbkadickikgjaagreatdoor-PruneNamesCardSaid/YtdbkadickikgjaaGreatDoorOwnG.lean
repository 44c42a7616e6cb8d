/-
 Rows of the call's own of which no cell behind the last one that is shown is frozen (so is what '[]byte(s)' makes): an append onto one, text out of one. No program is named.
-/
import Derived.Test.YtdbkadickikgjaaGreatDoorOwn
import Derived.Lib.FrozenHead2
import Derived.Lib.AtoiErrMem
namespace Go.Proofs.YtdbkadickikgjaaGreatDoor
open Go.RowKit
def OwnG (w : World) (base : Nat) (e : TypeId) (size : Nat) (v : Value) (n : Nat) (xs : List Value) : Prop :=
 xs.length = n * size ∧ ((v = .slice none 0 0 ∧ n = 0) ∨
  ∃ g cap cur fz, v = .slice (some ⟨g, 0, none⟩) n cap ∧ base ≤ g ∧ w.heap[g]? = some (.cells cur e fz) ∧ (fz.2 ≤ n * size ∨ cur.size ≤ fz.1) ∧ n ≤ cap ∧ cap ≤ maxLen ∧ cur.size = cap * size ∧ cur.toList.take (n * size) = xs)
section
variable {w w' : World} {base : Nat} {e : TypeId} {size : Nat} {v : Value} {n : Nat} {xs : List Value}
theorem OwnG.of (h : w.ownsRow base e size v n xs) : OwnG w base e size v n xs := by
 refine ⟨h.1, ?_⟩
 rcases h.2 with h | ⟨g, cap, cur, h1, h2, h3, h4⟩
 · exact .inl h
 · exact .inr ⟨g, cap, cur, (0, 0), h1, h2, h3, .inl (Nat.zero_le _), h4⟩
theorem OwnG.nil (w : World) (base : Nat) (e : TypeId) (size : Nat) : OwnG w base e size (.slice none 0 0) 0 [] := ⟨by simp, .inl ⟨rfl, rfl⟩⟩
theorem OwnG.lt (h : OwnG w base e size v n xs) : ∀ k, v.ownBlock = some k → base ≤ k ∧ k < w.heap.size := by
 rcases h.2 with ⟨rfl, _⟩ | ⟨g, cap, cur, fz, rfl, hb, hg, _⟩
 · intro k hk; cases hk
 · intro k hk
   have : g = k := by simpa [Value.ownBlock] using hk
   subst this
   exact ⟨hb, (Array.getElem?_eq_some_iff.1 hg).1⟩
theorem OwnG.keep (h : OwnG w base e size v n xs) (hk : ∀ k, v.ownBlock = some k → w'.heap[k]? = w.heap[k]?) : OwnG w' base e size v n xs := by
 refine ⟨h.1, ?_⟩
 rcases h.2 with h | ⟨g, cap, cur, fz, rfl, hb, hg, rest⟩
 · exact .inl h
 · exact .inr ⟨g, cap, cur, fz, rfl, hb, (hk g rfl).trans hg, rest⟩
theorem OwnG.ext (h : OwnG w base e size v n xs) (hE : Stab.Ext w w') : OwnG w' base e size v n xs := h.keep fun k hk => Below.block hE k (h.lt k hk).2
theorem OwnG.alloc (h : OwnG w base e size v n xs) (o : Obj) : OwnG (w.alloc o) base e size v n xs := h.ext (Stab.Ext.alloc w o)
theorem OwnG.drew (h : OwnG w base e size v n xs) : OwnG w.drew base e size v n xs := h
theorem OwnG.grown (h : OwnG w base e size v n xs) {row : Option Nat} (hg : w.grownBy w' row) (hne : ∀ k, v.ownBlock = some k → some k ≠ row) : OwnG w' base e size v n xs := h.keep fun k hk => hg.block k (h.lt k hk).2 (hne k hk)
theorem OwnG.cells (h : OwnG w base e size v n xs) {g : Nat} (hg : v.ownBlock = some g) (j : Nat) (u : Value) (hu : xs[j]? = some u) : w.cell? ⟨g, j, none⟩ = some u := by
 rcases h.2 with ⟨rfl, _⟩ | ⟨g', cap, cur, fz, rfl, hb, hh, _, _, _, _, ht⟩
 · cases hg
 · have : g' = g := by simpa [Value.ownBlock] using hg
   subst this
   rw [cell_of_row _ _ j _ _ _ hh]
   rw [← ht, List.getElem?_take] at hu
   split at hu
   · simpa using hu
   · cases hu
theorem OwnG.form (h : OwnG w base e size v n xs) : (n = 0 ∧ v = .slice none 0 0) ∨ ∃ g cap, v = .slice (some ⟨g, 0, none⟩) n cap ∧ base ≤ g ∧ n ≤ cap ∧ g < w.heap.size := by
 rcases h.2 with ⟨h1, h2⟩ | ⟨g, cap, cur, fz, h1, hb, hg, _, hc, _⟩
 · exact .inl ⟨h2, h1⟩
 · exact .inr ⟨g, cap, h1, hb, hc, (Array.getElem?_eq_some_iff.1 hg).1⟩
theorem OwnG.shape (h : OwnG w base e size v n xs) : ∃ A cap, v = .slice A n cap := by
 rcases h.form with ⟨h0, h'⟩ | ⟨g, cap, h', _⟩
 · exact ⟨none, 0, by rw [h', h0]⟩
 · exact ⟨_, _, h'⟩
theorem OwnG.addr (h : OwnG w base e size v n xs) (hn : 0 < n) : ∃ g cap, v = .slice (some ⟨g, 0, none⟩) n cap ∧ base ≤ g ∧ n ≤ cap ∧ g < w.heap.size := by
 rcases h.form with ⟨h0, _⟩ | h
 · omega
 · exact h
end
theorem run_storeCells_G (P : Program) (g o : Nat) (t : TypeId) (fz : Nat × Nat) : ∀ (vs : List Value) (i : Nat) (cur : Array Value) (w : World), w.heap[g]? = some (.cells cur t fz) → (fz.2 ≤ o + i ∨ cur.size ≤ fz.1) → o + i + vs.length ≤ cur.size → (∀ v ∈ vs, v.oneCell' = true) →
   (storeCells ⟨g, o, none⟩ vs i).run P w = .ok () (w.setRow g (cur.toList.take (o + i) ++ vs ++ cur.toList.drop (o + i + vs.length)).toArray)
 | [], i, cur, w, hg, _, _, _ => by
   simp only [storeCells, List.append_nil, List.length_nil, Nat.add_zero, List.take_append_drop, Array.toArray_toList]
   rw [setRow_self w g cur t fz hg]
   rfl
 | v :: rest, i, cur, w, hg, hfz, hl, h1 => by
   have hi : o + i < cur.size := by simp at hl; omega
   have hadd : (⟨g, o, none⟩ : Addr).add i = ⟨g, o + i, none⟩ := by unfold Addr.add; split <;> simp_all
   have hcell : w.cell? ⟨g, o + i, none⟩ = some cur[o + i] := by simp [World.cell?, hg, hi]
   have hfro : w.frozen? ⟨g, o + i, none⟩ = false := by
     obtain ⟨lo, hi'⟩ := fz
     simp only [World.frozen?, hg, Bool.and_eq_false_iff, decide_eq_false_iff_not]
     simp only at hfz
     rcases hfz with hfz | hfz
     · right; omega
     · left; omega
   have hst : (store ((⟨g, o, none⟩ : Addr).add i) v).run P w = .ok () (w.setRow g (cur.setIfInBounds (o + i) v)) := by
     rw [hadd, run_store P w _ v _ (h1 v (by simp)), hcell]
     simp [hfro, setCell_eq_setRow w g (o + i) cur t fz v hg]
   have ih := run_storeCells_G P g o t fz rest (i + 1) (cur.setIfInBounds (o + i) v) (w.setRow g (cur.setIfInBounds (o + i) v)) (setRow_heap w g cur _ t _ hg) (hfz.imp (by omega) (by simp)) (by simp at hl ⊢; omega) (fun x hx => h1 x (by simp [hx]))
   simp only [storeCells, Sem.run_bind, hst, Result.andThen_ok, ih, setRow_setRow]
   congr 3
   have e := list_seg_step cur.toList (o + i) v rest (by simp at hl ⊢; omega)
   simpa [Array.toList_setIfInBounds, Nat.add_assoc] using e
section
variable {P : Program} {t e : TypeId} {z : Value} {size bytes : Nat}
theorem ownG_app (ht : P.underlying t = some (.slice e)) (he : (P.info? e).map (fun i => (i.zero, i.size, i.bytes)) = some (some z, size, bytes)) (hzs : z.cells.size = size) (hsz : 0 < size) (hb0 : 0 < bytes)
   {w : World} {base n : Nat} {v : Value} {xs : List Value} (hown : OwnG w base e size v n xs) (a : Addr) (m c : Nat) (news : List Value) (hl : news.length = m * size) (hnews : ∀ j u, news[j]? = some u → w.cell? (a.add j) = some u)
   (h1 : ∀ u ∈ news, u.oneCell' = true) (hm : 0 < m) (hby : (n + m) * bytes ≤ 140737488355328) (hbase : base ≤ w.heap.size) :
   ∃ g cap w', (appSem #[t, t] t #[v, .slice (some a) m c]).run P w = .ok (.slice (some ⟨g, 0, none⟩) (n + m) cap) w' ∧ OwnG w' base e size (.slice (some ⟨g, 0, none⟩) (n + m) cap) (n + m) (xs ++ news) ∧
     Below base w w' ∧ w.grownBy w' v.ownBlock ∧ (v.ownBlock = some g ∨ g = w.heap.size) := by
 obtain ⟨i, hi, hz, hsize, hbytes⟩ := info_parts he
 have hle : n + m ≤ (n + m) * bytes := Nat.le_mul_of_pos_right _ hb0
 rcases hown.2 with ⟨rfl, rfl⟩ | ⟨g, cap, cur, fz, rfl, hbg, hg, hfz, hnc, hcm, hcs, htake⟩
 · obtain ⟨g, cap, w', hr, h2, h3, h4, _⟩ := run_append_lies (P := P) w t t base e i z size bytes ht hi hz hsize hbytes hzs hsz (.slice none 0 0) 0 xs ⟨hown.1, .inl ⟨rfl, rfl⟩⟩ a m c news hl hnews h1 hm (by unfold maxLen; omega) hby hbase _ rfl
   exact ⟨g, cap, w', hr, OwnG.of h2, (Below.refl _ _).grown h3 hbase (fun k hk => by cases hk), h3, h4⟩
 · subst hsize
   subst hbytes
   have hsmall : n + m ≤ 9223372036854775807 := by omega
   have hlen : (xs ++ news).length = (n + m) * i.size := by rw [List.length_append, hown.1, hl, Nat.add_mul]
   by_cases hroom : n + m ≤ cap
   · have hfit : n * i.size + news.length ≤ cur.size := by rw [hl, hcs, ← Nat.add_mul]; exact Nat.mul_le_mul_right _ hroom
     have hf := run_firstCells_some (P := P) w i.size m a m c news hl hnews
     have hst := run_storeCells_G P g (n * i.size) e fz news 0 cur w hg (by simpa using hfz) (by simpa using hfit) h1
     simp only [Nat.add_zero] at hst
     have hr : (Builtin.append_ #[t, t] t #[.slice (some ⟨g, 0, none⟩) n cap, .slice (some a) m c]).run P w = .ok (.slice (some ⟨g, 0, none⟩) (n + m) cap) (w.setRow g (cur.toList.take (n * i.size) ++ news ++ cur.toList.drop (n * i.size + news.length)).toArray) := by
       simp [Builtin.append_, run_underlying ht, sizeOf, typeInfo, hi, Builtin.lenOf, hroom, hf, Addr.add_lit, hst]
     have hgb : w.grownBy (w.setRow g (cur.toList.take (n * i.size) ++ news ++ cur.toList.drop (n * i.size + news.length)).toArray) (Value.slice (some ⟨g, 0, none⟩) n cap).ownBlock := ⟨rfl, rfl, rfl, by simp, fun k _ hk => setRow_other w g k _ (fun e => hk (by simp [Value.ownBlock, e]))⟩
     have hsz2 : (cur.toList.take (n * i.size) ++ news ++ cur.toList.drop (n * i.size + news.length)).toArray.size = cur.size := by
       simp only [List.size_toArray, List.length_append, List.length_take, List.length_drop, Array.length_toList]
       omega
     refine ⟨g, cap, _, hr, ⟨hlen, .inr ⟨g, cap, _, fz, rfl, hbg, setRow_heap w g cur _ e _ hg, ?_, hroom, hcm, by rw [hsz2]; exact hcs, ?_⟩⟩, (Below.refl _ _).grown hgb hbase (fun k hk => ?_), hgb, .inl rfl⟩
     · rw [hsz2]
       exact hfz.imp (fun h => Nat.le_trans h (Nat.mul_le_mul_right _ (Nat.le_add_right n m))) id
     · rw [htake, ← hlen]
       exact List.take_left
     · have : g = k := by simpa [Value.ownBlock] using hk
       omega
   · have holds : ∀ j u, xs[j]? = some u → w.cell? ((⟨g, 0, none⟩ : Addr).add j) = some u := fun j u hu => by
       have hp : (⟨g, 0, none⟩ : Addr).add j = ⟨g, j, none⟩ := by unfold Addr.add; split <;> simp_all
       rw [hp]; exact hown.cells rfl j u hu
     have hr := run_append_grow (P := P) w t t e i z ht hi hz ⟨g, 0, none⟩ n cap xs hown.1 holds a m c news hl hnews (by omega) (by omega) (growslice_fits (by omega) hby)
     have hge := grownCap_ge w (n + m) cap e
     have hcm2 : grownCap w (n + m) cap e ≤ maxLen := grownCap_le_maxLen w (n + m) cap e (by unfold maxLen; omega)
     have hgb : w.grownBy (w.drew.alloc (.cells (xs.toArray ++ news.toArray ++ Builtin.zeroCells z.cells (grownCap w (n + m) cap e - (n + m))) e)) (Value.slice (some ⟨g, 0, none⟩) n cap).ownBlock := ⟨rfl, rfl, rfl, by simp, fun k hk _ => Below.heap_alloc w.drew _ k hk⟩
     refine ⟨w.heap.size, _, _, hr, ⟨hlen, .inr ⟨w.heap.size, _, _, (0, 0), rfl, hbase, heap_alloc_new w.drew _, .inl (Nat.zero_le _), hge, hcm2, ?_, ?_⟩⟩, (Below.refl _ _).grown hgb hbase (fun k hk => ?_), hgb, .inr rfl⟩
     · simp only [Array.size_append, List.size_toArray, size_zeroCells, hzs, hown.1, hl, ← Nat.add_mul]
       congr 1
       omega
     · simp only [Array.toList_append, List.append_assoc]
       rw [← List.append_assoc, ← hlen]
       exact List.take_left
     · have : g = k := by simpa [Value.ownBlock] using hk
       omega
theorem ownG_blk (ht : P.underlying t = some (.slice e)) (he : (P.info? e).map (fun i => (i.zero, i.size, i.bytes)) = some (some z, size, bytes)) (hzs : z.cells.size = size) (hsz : 0 < size) (hb0 : 0 < bytes)
   {w : World} {base n m gb c : Nat} {v : Value} {xs : List Value} {C : Array Value} (hv : OwnG w base e size v n xs) (hb : Blk w gb e C) (hl : C.size = m * size) (h1 : C.all (·.oneCell') = true) (hm : 0 < m)
   (hby : (n + m) * bytes ≤ 140737488355328) (hbase : base ≤ w.heap.size) :
   ∃ g cap w', (appSem #[t, t] t #[v, .slice (some ⟨gb, 0, none⟩) m c]).run P w = .ok (.slice (some ⟨g, 0, none⟩) (n + m) cap) w' ∧ OwnG w' base e size (.slice (some ⟨g, 0, none⟩) (n + m) cap) (n + m) (xs ++ C.toList) ∧
     Below base w w' ∧ w.grownBy w' v.ownBlock ∧ (v.ownBlock = some g ∨ g = w.heap.size) :=
 ownG_app ht he hzs hsz hb0 hv ⟨gb, 0, none⟩ m c C.toList (by simpa using hl) (Stab.cells_blk (by simpa using hb)) (fun u hu => Array.all_eq_true_iff_forall_mem.1 h1 u (by simpa using hu)) hm hby hbase
theorem ownG_new (ht : P.underlying t = some (.slice e)) (he : (P.info? e).map (fun i => (i.zero, i.size, i.bytes)) = some (some z, size, bytes)) (hzs : z.cells.size = size) (hsz : 0 < size) (hb0 : 0 < bytes)
   {w : World} {base n m c : Nat} {v : Value} {xs : List Value} {C : Array Value} (hv : OwnG w base e size v n xs) (hl : C.size = m * size) (h1 : C.all (·.oneCell') = true) (hm : 0 < m)
   (hby : (n + m) * bytes ≤ 140737488355328) (hbase : base ≤ w.heap.size) :
   ∃ g cap w', (appSem #[t, t] t #[v, .slice (some ⟨w.heap.size, 0, none⟩) m c]).run P (w.alloc (.cells C e)) = .ok (.slice (some ⟨g, 0, none⟩) (n + m) cap) w' ∧ OwnG w' base e size (.slice (some ⟨g, 0, none⟩) (n + m) cap) (n + m) (xs ++ C.toList) ∧
     Below base w w' ∧ (w.alloc (.cells C e)).grownBy w' v.ownBlock ∧ (v.ownBlock = some g ∨ g = w.heap.size + 1) := by
 obtain ⟨g, cap, w', h1, h2, h3, h4, h5⟩ := ownG_blk (t := t) (c := c) ht he hzs hsz hb0 (hv.alloc (.cells C e)) (Blk.new w e C) hl h1 hm hby (by simp; omega)
 exact ⟨g, cap, w', h1, h2, ((Below.refl _ _).alloc hbase _).trans h3, h4, by simpa using h5⟩
theorem ownG_text {src dst : TypeId} (hs : P.underlying src = some (.slice e)) (he : P.underlying e = some (.int .u8)) (hd : P.underlying dst = some .string) {w : World} {base : Nat} {et : TypeId} {v : Value} {l : List UInt8} {n : Nat}
   (hv : OwnG w base et 1 v n (Lib.byteCells l)) : (convert src dst v).run P w = .ok (.string ⟨l.toArray⟩) w := by
 have hn : l.length = n := by have := hv.1; rw [Lib.byteCells_length, Nat.mul_one] at this; exact this
 subst hn
 rcases hv.form with ⟨h0, rfl⟩ | ⟨g, cap, rfl, _⟩
 · have hl : l = [] := List.eq_nil_of_length_eq_zero h0
   subst hl
   exact run_convert_bytes_nil w src e hs he _ 0 dst hd
 · refine run_convert_bytes_back w src dst e ⟨g, 0, none⟩ cap l hs he hd (fun j hj => ?_)
   have hp : (⟨g, 0, none⟩ : Addr).add j = ⟨g, j, none⟩ := by unfold Addr.add; split <;> simp_all
   rw [hp]
   exact hv.cells rfl j _ (by simp [Lib.byteCells, hj])
theorem ownG_bytes (w : World) (e : TypeId) (s : ByteArray) (base : Nat) (hb : base ≤ w.heap.size) (hs : s.size ≤ 70368744177664) : OwnG (Lib.bytesWorld w e s) base e 1 (.slice (some ⟨w.heap.size, 0, none⟩) s.size (grownCap w s.size 0 e)) s.size (Lib.byteCells s.data.toList) := by
 have hge := grownCap_ge w s.size 0 e
 have hle : grownCap w s.size 0 e ≤ maxLen := grownCap_le_maxLen w s.size 0 e (by unfold maxLen; omega)
 have hsz : (Lib.bytesCells w e s).size = grownCap w s.size 0 e := by
   simp only [Lib.bytesCells, Array.size_append, Array.size_map, Array.size_replicate]
   have : s.data.size = s.size := rfl
   omega
 refine ⟨by rw [Lib.byteCells_length]; simp, .inr ⟨w.heap.size, _, _, _, rfl, hb, Lib.bytesWorld_at_new w e s, .inr (Nat.le_refl _), hge, hle, by rw [hsz, Nat.mul_one], ?_⟩⟩
 simp only [Lib.bytesCells, Array.toList_append, Array.toList_map, Nat.mul_one]
 rw [List.take_append_of_le_length (by simp), List.take_of_length_le (by simp)]
 rfl
end
end Go.Proofs.YtdbkadickikgjaaGreatDoor
