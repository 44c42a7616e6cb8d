/-
 Maps from texts to texts in memory, as lists of pairs; frames of calls that write to blocks they are told of. No program is named. A store in memory: what it is, and its functions that write little.
-/
import Derived.Test.YtnbkhdbligjifaaGreatDoorOwnG
import Derived.Laws.Sem
import Derived.Laws.World
import Derived.Test.YtnbkhdbligjifaaGreatDoorProg
import Derived.Laws.Externs
set_option linter.unusedVariables false
set_option linter.unusedSimpArgs false
set_option maxRecDepth 100000
set_option maxHeartbeats 40000000
namespace Go.Proofs.YtnbkhdbligjifaaGreatDoor
open Go Go.RowKit
namespace Vm
def setObjAt (w : World) (B : Nat) (o : Obj) : World := { w with heap := w.heap.setIfInBounds B o }
abbrev TMap := List (ByteArray × ByteArray)
theorem map_erase {α β : Type} (f : α → β) : ∀ (l : List α) (i : Nat), (l.eraseIdx i).map f = (l.map f).eraseIdx i
 | [], _ => rfl
 | _ :: _, 0 => rfl
 | a :: l, i + 1 => by show f a :: (l.eraseIdx i).map f = f a :: (l.map f).eraseIdx i; rw [map_erase f l i]
namespace TMap
def look : TMap → ByteArray → Option ByteArray
 | [], _ => none
 | p :: r, k => if k = p.1 then some p.2 else look r k
def put : TMap → ByteArray → ByteArray → TMap
 | [], k, v => [(k, v)]
 | p :: r, k, v => if k = p.1 then (k, v) :: r else p :: put r k v
def del : TMap → ByteArray → TMap
 | [], _ => []
 | p :: r, k => if k = p.1 then r else p :: del r k
def find : TMap → ByteArray → Nat → Option (Nat × Value)
 | [], _, _ => none
 | p :: r, k, i => if k = p.1 then some (i, .string p.2) else find r k (i + 1)
theorem find_look (k : ByteArray) : ∀ (m : TMap) (i : Nat), (find m k i).map (·.2) = (look m k).map Value.string
 | [], _ => rfl
 | p :: r, i => by
   unfold find look
   split
   ·rfl
   ·exact find_look k r (i + 1)
theorem find_none {k : ByteArray} : ∀ {m : TMap} {i : Nat}, find m k i = none → k ∉ m.map (·.1) ∧ ∀ v, put m k v = m ++ [(k, v)] ∧ del m k = m
 | [], _, _ => ⟨by simp, fun v => ⟨rfl, rfl⟩⟩
 | p :: r, i, h => by
   unfold find at h
   split at h
   ·cases h
   ·rename_i hk
    obtain ⟨h1, h2⟩ := find_none h
    refine ⟨by simp only [List.map_cons, List.mem_cons, not_or]; exact ⟨hk, h1⟩, fun v => ⟨?_, ?_⟩⟩
    ·rw [put, if_neg hk, (h2 v).1]; rfl
    ·rw [del, if_neg hk, (h2 v).2]
theorem find_some {k : ByteArray} : ∀ {m : TMap} {i j : Nat} {u : Value}, find m k i = some (j, u) → i ≤ j ∧ (∃ v, m[j - i]? = some (k, v) ∧ u = .string v) ∧ ∀ v, put m k v = m.set (j - i) (k, v) ∧ del m k = m.eraseIdx (j - i)
 | [], _, _, _, h => by cases h
 | p :: r, i, j, u, h => by
   unfold find at h
   split at h
   ·rename_i hk
    cases h
    refine ⟨Nat.le_refl _, ⟨p.2, by rw [Nat.sub_self, hk]; rfl, rfl⟩, fun v => ⟨?_, ?_⟩⟩
    ·rw [put, if_pos hk, Nat.sub_self]; rfl
    ·rw [del, if_pos hk, Nat.sub_self]; rfl
   ·rename_i hk
    obtain ⟨h1, ⟨v, h2, h3⟩, h4⟩ := find_some h
    have e : j - i = (j - (i + 1)) + 1 := by omega
    refine ⟨by omega, ⟨v, by rw [e]; exact h2, h3⟩, fun v => ⟨?_, ?_⟩⟩
    ·rw [put, if_neg hk, (h4 v).1, e]; rfl
    ·rw [del, if_neg hk, (h4 v).2, e]; rfl
theorem mem_put {m : TMap} {k v x : ByteArray} : x ∈ (put m k v).map (·.1) ↔ x = k ∨ x ∈ m.map (·.1) := by
 induction m with
 | nil => simp [put]
 | cons p r ih =>
   rw [put]
   by_cases hk : k = p.1
   ·rw [if_pos hk]; simp only [List.map_cons, List.mem_cons, hk]
    exact ⟨fun h => h.elim .inl fun h => .inr (.inr h), fun h => h.elim .inl id⟩
   ·rw [if_neg hk, List.map_cons, List.mem_cons, ih, List.map_cons, List.mem_cons]
    exact ⟨fun h => h.elim (fun h => .inr (.inl h)) fun h => h.elim .inl fun h => .inr (.inr h), fun h => h.elim (fun h => .inr (.inl h)) fun h => h.elim .inl fun h => .inr (.inr h)⟩
theorem nodup_put {m : TMap} {k v : ByteArray} (h : (m.map (·.1)).Nodup) : ((put m k v).map (·.1)).Nodup := by
 induction m with
 | nil => simp [put]
 | cons p r ih =>
   rw [List.map_cons, List.nodup_cons] at h
   rw [put]
   by_cases hk : k = p.1
   ·rw [if_pos hk, List.map_cons, List.nodup_cons, hk]; exact h
   ·rw [if_neg hk, List.map_cons, List.nodup_cons, mem_put, not_or]
    exact ⟨⟨fun e => hk e.symm, h.1⟩, ih h.2⟩
theorem sub_del {m : TMap} {k : ByteArray} : ((del m k).map (·.1)).Sublist (m.map (·.1)) := by
 induction m with
 | nil => simp [del]
 | cons p r ih =>
   rw [del]
   split
   ·exact List.sublist_cons_self _ _
   ·exact ih.cons_cons _
theorem nodup_del {m : TMap} {k : ByteArray} (h : (m.map (·.1)).Nodup) : ((del m k).map (·.1)).Nodup := sub_del.nodup h
theorem look_mem {m : TMap} {k v : ByteArray} (h : look m k = some v) : (k, v) ∈ m := by
 induction m with
 | nil => cases h
 | cons p r ih =>
   rw [look] at h
   split at h
   ·rename_i hk; cases h; subst hk; exact List.mem_cons_self ..
   ·exact List.mem_cons_of_mem _ (ih h)
end TMap
def EntsAre (es : List MapEntry) (m : TMap) : Prop := es.map (fun e => (e.key, e.val)) = m.map (fun p => (Value.string p.1, Value.string p.2))
structure Fine (es : Array MapEntry) (cl : Nat) (m : TMap) : Prop where
 ents : EntsAre es.toList m
 born : ∀ e ∈ es.toList, e.born < cl
 once : (es.toList.map (·.born)).Nodup
 keys : (m.map (·.1)).Nodup
def MapIs (w : World) (b : Nat) (m : TMap) : Prop := ∃ es cl, w.heap[b]? = some (.map es cl) ∧ Fine es cl m
theorem MapIs.lt {w : World} {b : Nat} {m : TMap} (h : MapIs w b m) : b < w.heap.size := by
 obtain ⟨es, cl, h, _⟩ := h
 exact (Array.getElem?_eq_some_iff.1 h).1
theorem MapIs.keys {w : World} {b : Nat} {m : TMap} (h : MapIs w b m) : (m.map (·.1)).Nodup := by
 obtain ⟨es, cl, _, h⟩ := h
 exact h.keys
theorem MapIs.of_heap {w w' : World} {b : Nat} {m : TMap} (h : MapIs w b m) (e : w'.heap[b]? = w.heap[b]?) : MapIs w' b m := by
 obtain ⟨es, cl, h, r⟩ := h
 exact ⟨es, cl, e.trans h, r⟩
theorem fine_empty : Fine #[] 0 [] := ⟨rfl, by simp, by simp, by simp⟩
theorem same_string (s t : ByteArray) : Instr.sameNow .string (.string s) (.string t) = some (decide (s = t)) := by
 simp only [Instr.sameNow, Option.some.injEq]
 have e : (s == t) = (s.data == t.data) := by cases s; cases t; rfl
 rw [e, Bool.eq_iff_iff, decide_eq_true_eq, beq_iff_eq]
 exact ⟨fun h => by cases s; cases t; simp_all, fun h => by rw [h]⟩
theorem findNow_text (k : ByteArray) : ∀ (es : List MapEntry) (m : TMap), EntsAre es m → ∀ i, Instr.findNow .string (.string k) es i = some (TMap.find m k i)
 | [], [], _, i => rfl
 | [], _ :: _, h, _ => by simp [EntsAre] at h
 | _ :: _, [], h, _ => by simp [EntsAre] at h
 | e :: es, p :: m, h, i => by
   simp only [EntsAre, List.map_cons, List.cons.injEq, Prod.mk.injEq] at h
   obtain ⟨⟨h1, h2⟩, h3⟩ := h
   simp only [Instr.findNow, h1, same_string, TMap.find]
   by_cases hk : k = p.1
   ·simp only [hk, decide_true, if_true, h2]
   ·simp only [hk, decide_false, if_false]
    exact findNow_text k es m h3 (i + 1)
section
variable {P : Program} {t key e : TypeId} (h1 : P.underlying t = some (.map key e)) (h2 : P.underlying key = some .string)
include h1 h2
omit h1 in
theorem check_text (w : World) (b : Bool) (v : Value) : (Instr.checkKey b 10000 key v).run P w = .ok () w := by
 have key : ∀ n : Nat, (Instr.checkKey b (n + 1) key v).run P w = .ok () w := fun n => by
  simp only [Instr.checkKey, Sem.run_bind, run_underlying h2, Result.andThen_ok]
  rfl
 exact key 9999
omit h1 in
theorem find_text {w : World} {es : Array MapEntry} {m : TMap} (he : EntsAre es.toList m) (k : ByteArray) : (Instr.findKey key (.string k) es.toList).run P w = .ok (TMap.find m k 0) w := by
 simp only [Instr.findKey, Sem.run_bind, run_underlying h2, Result.andThen_ok, findNow_text k _ _ he, Sem.run_pure]
theorem run_look {w : World} {b : Nat} {m : TMap} (hm : MapIs w b m) {z : Value} (hz : (zeroValue e).run P w = .ok z w) (k : ByteArray) (ok : Bool) :
 (Instr.lookup t (.map (some b)) (.string k) ok).run P w = .ok (if ok then .tuple #[((TMap.look m k).map Value.string).getD z, .bool (TMap.look m k).isSome] else ((TMap.look m k).map Value.string).getD z) w := by
 obtain ⟨es, cl, hb, hf⟩ := hm
 have hgo : (getObj b).run P w = .ok (.map es cl) w := by simp only [getObj, Sem.run, hb]
 have hl := TMap.find_look k m 0
 simp only [Instr.lookup, Sem.run_bind, run_underlying h1, Result.andThen_ok, hgo, Sem.run_pure, check_text h2, find_text h2 hf.ents]
 cases hfd : TMap.find m k 0 with
 | none =>
   rw [hfd] at hl
   have hl : (TMap.look m k).map Value.string = none := hl.symm
   rw [hl]
   have : TMap.look m k = none := by simpa using hl
   rw [this]
   simp only [Sem.run_bind, hz, Result.andThen_ok, Sem.run_pure]; cases ok <;> rfl
 | some p =>
   obtain ⟨i, v⟩ := p
   rw [hfd] at hl
   have hl : (TMap.look m k).map Value.string = some v := hl.symm
   rw [hl]
   obtain ⟨d, hd, rfl⟩ := Option.map_eq_some_iff.1 hl
   rw [hd]
   simp only [Sem.run_bind, Result.andThen_ok, Sem.run_pure]; cases ok <;> rfl
theorem run_put {w : World} {b : Nat} {m : TMap} (hm : MapIs w b m) (k v : ByteArray) :
 ∃ es' cl', (Instr.mapUpdate t (.map (some b)) (.string k) (.string v)).run P w = .ok () (setObjAt w b (.map es' cl')) ∧ Fine es' cl' (TMap.put m k v) := by
 obtain ⟨es, cl, hb, hf⟩ := hm
 have hgo : (getObj b).run P w = .ok (.map es cl) w := by simp only [getObj, Sem.run, hb]
 have hso : ∀ o, (setObj b o).run P w = .ok () (setObjAt w b o) := fun o => by simp only [setObj, Sem.run, hb]; rfl
 cases hfd : TMap.find m k 0 with
 | none =>
   obtain ⟨hk, hp⟩ := TMap.find_none hfd
   refine ⟨es.push { key := .string k, val := .string v, born := cl }, cl + 1, ?_, ?_⟩
   ·simp only [Instr.mapUpdate, Sem.run_bind, run_underlying h1, Result.andThen_ok, hgo, check_text h2, find_text h2 hf.ents, hfd, hso]
   ·refine ⟨?_, ?_, ?_, TMap.nodup_put hf.keys⟩
    ·rw [(hp v).1]
     have := hf.ents
     simp only [EntsAre] at this ⊢
     simp [this]
    ·intro x hx
     rw [Array.toList_push, List.mem_append, List.mem_singleton] at hx
     rcases hx with hx | hx
     ·have := hf.born x hx; omega
     ·rw [hx]; show cl < cl + 1; omega
    ·rw [Array.toList_push, List.map_append]
     refine List.nodup_append.2 ⟨hf.once, by simp, fun a ha b hb => ?_⟩
     rw [List.map_cons, List.map_nil, List.mem_singleton] at hb
     obtain ⟨x, hx, rfl⟩ := List.mem_map.1 ha
     have := hf.born x hx
     exact fun e => by
      have e : x.born = cl := e.trans hb
      omega
 | some p =>
   obtain ⟨i, u⟩ := p
   obtain ⟨_, ⟨v0, hi, rfl⟩, hp⟩ := TMap.find_some hfd
   rw [Nat.sub_zero] at hi hp
   have hlen : es.toList.length = m.length := by
    have := congrArg List.length hf.ents
    simpa using this
   have hil : i < es.toList.length := by
    rw [hlen]; exact (List.getElem?_eq_some_iff.1 hi).1
   obtain ⟨x, hx⟩ : ∃ x, es.toList[i]? = some x := ⟨_, List.getElem?_eq_getElem hil⟩
   have hxk : x.key = .string k := by
    have h0 := congrArg (fun l => l[i]?) hf.ents
    simp only [List.getElem?_map, hx, hi, Option.map_some, Option.some.injEq, Prod.mk.injEq] at h0
    exact h0.1
   have hx' : es[i]? = some x := by rw [← Array.getElem?_toList]; exact hx
   have hkt : (Instr.keyThatStays x.key (.string k)).run P w = .ok (.string k) w := by
    rw [hxk]
    have hsb : Instr.sameBits 10000 (.string k) (.string k) = true := by
     show (k == k) = true
     have e : (k == k) = (k.data == k.data) := by cases k; rfl
     rw [e]; exact beq_self_eq_true _
    simp only [Instr.keyThatStays, hsb, if_true, Sem.run_pure]
   refine ⟨es.modify i fun x => { x with key := .string k, val := .string v }, cl, ?_, ?_⟩
   ·simp only [Instr.mapUpdate, Sem.run_bind, run_underlying h1, Result.andThen_ok, hgo, check_text h2, find_text h2 hf.ents, hfd, hx', Option.map_some, Option.getD_some, hkt, hso]
   ·have hb2 : (es.modify i fun x => { x with key := .string k, val := .string v }).toList.map (·.born) = es.toList.map (·.born) := by
     rw [Array.toList_modify]
     refine List.ext_getElem? fun j => ?_
     rw [List.getElem?_map, List.getElem?_map, List.getElem?_modify]
     split <;> cases es.toList[j]? <;> rfl
    refine ⟨?_, ?_, ?_, TMap.nodup_put hf.keys⟩
    ·rw [(hp v).1]
     have := hf.ents
     simp only [EntsAre] at this ⊢
     rw [Array.toList_modify, List.map_set, ← this]
     refine List.ext_getElem? fun j => ?_
     rw [List.getElem?_map, List.getElem?_modify, List.getElem?_set, List.getElem?_map]
     by_cases hj : i = j
     ·subst hj
      have hil2 : i < es.size := by rw [← Array.length_toList]; exact hil
      simp [hil2, hx]
     ·simp [hj]
    ·intro x hx
     have : x.born ∈ es.toList.map (·.born) := by rw [← hb2]; exact List.mem_map_of_mem (f := (·.born)) hx
     obtain ⟨y, hy, he⟩ := List.mem_map.1 this
     rw [← he]; exact hf.born y hy
    ·rw [hb2]; exact hf.once
theorem run_del {w : World} {b : Nat} {m : TMap} (hm : MapIs w b m) (k : ByteArray) (ty : TypeId) :
 ∃ es' cl', (Builtin.delete_ #[t, key] ty #[.map (some b), .string k]).run P w = .ok (.tuple #[]) (setObjAt w b (.map es' cl')) ∧ Fine es' cl' (TMap.del m k) := by
 obtain ⟨es, cl, hb, hf⟩ := hm
 have hgo : (getObj b).run P w = .ok (.map es cl) w := by simp only [getObj, Sem.run, hb]
 have hso : ∀ o, (setObj b o).run P w = .ok () (setObjAt w b o) := fun o => by simp only [setObj, Sem.run, hb]; rfl
 cases hfd : TMap.find m k 0 with
 | none =>
   obtain ⟨hk, hp⟩ := TMap.find_none hfd
   refine ⟨es, cl, ?_, ?_⟩
   ·simp only [Builtin.delete_, List.getElem?_toArray, List.getElem?_cons_zero, List.getElem?_cons_succ, Sem.run_bind, run_underlying h1, Result.andThen_ok, hgo, check_text h2, find_text h2 hf.ents, hfd, hso, Sem.run_pure]
   ·rw [(hp k).2]; exact hf
 | some p =>
   obtain ⟨i, u⟩ := p
   obtain ⟨_, ⟨v0, hi, rfl⟩, hp⟩ := TMap.find_some hfd
   rw [Nat.sub_zero] at hi hp
   refine ⟨es.eraseIdxIfInBounds i, cl, ?_, ?_⟩
   ·simp only [Builtin.delete_, List.getElem?_toArray, List.getElem?_cons_zero, List.getElem?_cons_succ, Sem.run_bind, run_underlying h1, Result.andThen_ok, hgo, check_text h2, find_text h2 hf.ents, hfd, hso, Sem.run_pure]
   ·have hl : (es.eraseIdxIfInBounds i).toList = es.toList.eraseIdx i := by simp
    have hsub : (es.toList.eraseIdx i).Sublist es.toList := List.eraseIdx_sublist _ _
    refine ⟨?_, ?_, ?_, TMap.nodup_del hf.keys⟩
    ·have := hf.ents
     simp only [EntsAre] at this ⊢
     rw [hl, (hp k).2, map_erase, map_erase, this]
    ·intro x hx
     rw [hl] at hx
     exact hf.born x (hsub.subset hx)
    ·rw [hl]
     exact (hsub.map _).nodup hf.once
end
theorem run_clear {P : Program} {t key e : TypeId} (h1 : P.underlying t = some (.map key e)) {w : World} {b : Nat} {m : TMap} (hm : MapIs w b m) (ty : TypeId) :
 ∃ cl', (Builtin.clear_ #[t] ty #[.map (some b)]).run P w = .ok (.tuple #[]) (setObjAt w b (.map #[] cl')) := by
 obtain ⟨es, cl, hb, hf⟩ := hm
 have hgo : (getObj b).run P w = .ok (.map es cl) w := by simp only [getObj, Sem.run, hb]
 have hso : ∀ o, (setObj b o).run P w = .ok () (setObjAt w b o) := fun o => by simp only [setObj, Sem.run, hb]; rfl
 exact ⟨cl, by simp only [Builtin.clear_, List.getElem?_toArray, List.getElem?_cons_zero, Sem.run_bind, run_underlying h1, Result.andThen_ok, hgo, hso, Sem.run_pure]⟩
theorem fine_none (cl : Nat) : Fine #[] cl [] := ⟨rfl, by simp, by simp, by simp⟩
theorem heap_setObjAt (w : World) (b : Nat) (o : Obj) (k : Nat) (h : k ≠ b) : (setObjAt w b o).heap[k]? = w.heap[k]? := by
 simp only [setObjAt]
 rw [Array.getElem?_setIfInBounds_ne (Ne.symm h)]
theorem size_setObjAt (w : World) (b : Nat) (o : Obj) : (setObjAt w b o).heap.size = w.heap.size := by simp [setObjAt]
theorem at_setObjAt (w : World) (b : Nat) (o : Obj) (h : b < w.heap.size) : (setObjAt w b o).heap[b]? = some o := by
 simp only [setObjAt]
 rw [Array.getElem?_setIfInBounds_self_of_lt h]
/-! ### frames -/
structure Fr (O : List Nat) (w w' : World) : Prop where
 os : w'.os = w.os
 tape : w'.tape = w.tape
 output : w'.output = w.output
 size : w.heap.size ≤ w'.heap.size
 block : ∀ k, k < w.heap.size → k ∉ O → w'.heap[k]? = w.heap[k]?
theorem Fr.refl (O : List Nat) (w : World) : Fr O w w := ⟨rfl, rfl, rfl, Nat.le_refl _, fun _ _ _ => rfl⟩
theorem Fr.mono {O O' : List Nat} {w w' : World} (h : Fr O w w') (hs : ∀ k, k ∈ O → k < w.heap.size → k ∈ O') : Fr O' w w' :=
 ⟨h.os, h.tape, h.output, h.size, fun k h1 h2 => h.block k h1 fun h3 => h2 (hs k h3 h1)⟩
theorem Fr.trans {O O' : List Nat} {a b c : World} (h : Fr O a b) (h' : Fr O' b c) (hs : ∀ k, k ∈ O' → k < a.heap.size → k ∈ O) : Fr O a c where
 os := h'.os.trans h.os
 tape := h'.tape.trans h.tape
 output := h'.output.trans h.output
 size := Nat.le_trans h.size h'.size
 block := fun k h1 h2 => (h'.block k (Nat.lt_of_lt_of_le h1 h.size) fun h3 => h2 (hs k h3 h1)).trans (h.block k h1 h2)
theorem Fr.of_below {O : List Nat} {w w' : World} (h : Below w.heap.size w w') : Fr O w w' := ⟨h.os, h.tape, h.output, h.size, fun k hk _ => h.block k hk⟩
theorem Fr.below {w w' : World} (h : Fr [] w w') : Below w.heap.size w w' := ⟨h.os, h.tape, h.output, h.size, fun k hk => h.block k hk (by simp)⟩
theorem Fr.set_ (w : World) (b : Nat) (o : Obj) : Fr [b] w (setObjAt w b o) :=
 ⟨rfl, rfl, rfl, by rw [size_setObjAt]; exact Nat.le_refl _, fun k _ h => heap_setObjAt w b o k (by simpa using h)⟩
theorem Fr.cell (w : World) (p : Addr) (u : Value) : Fr [p.block] w (w.setCell p u) :=
 ⟨rfl, rfl, rfl, by simp [World.setCell], fun k _ h => Below.heap_setCell w p u k (by simpa using h)⟩
theorem Fr.alloc (w : World) (o : Obj) : Fr [] w (w.alloc o) := Fr.of_below ((Below.refl _ _).alloc (Nat.le_refl _) _)
theorem Fr.heap {O : List Nat} {w w' : World} (h : Fr O w w') {k : Nat} {o : Obj} (hk : w.heap[k]? = some o) (hO : k ∉ O) : w'.heap[k]? = some o :=
 (h.block k (Array.getElem?_eq_some_iff.1 hk).1 hO).trans hk
theorem Fr.map {O : List Nat} {w w' : World} (h : Fr O w w') {k : Nat} {m : TMap} (hk : MapIs w k m) (hO : k ∉ O) : MapIs w' k m := hk.of_heap (h.block k hk.lt hO)
theorem Fr.blk {O : List Nat} {w w' : World} (h : Fr O w w') {k : Nat} {t : TypeId} {cs : Array Value} (hk : Blk w k t cs) (hO : k ∉ O) : Blk w' k t cs := h.heap hk hO
end Vm
end Go.Proofs.YtnbkhdbligjifaaGreatDoor
namespace Go.Proofs.YtnbkhdbligjifaaGreatDoor
open Go Go.RowKit
namespace Vm
structure PSt where
 good : TMap
 seen : TMap
 writes : List (ByteArray × ByteArray × Bool)
 down : Bool
 refuse : Int
 room : Int
def wcell (x : ByteArray × ByteArray × Bool) : List Value := [.string x.1, .string x.2.1, .bool x.2.2]
def wcells (l : List (ByteArray × ByteArray × Bool)) : List Value := l.flatMap wcell
def stCells (s : PSt) (g m : Nat) (ws : Value) : Array Value := #[.map (some g), ws, .map (some m), .bool s.down, .int .i64 s.refuse, .int .i64 s.room]
def sOwn (B g m : Nat) (ws : Value) : List Nat := B :: g :: m :: ws.ownBlock.toList
structure SIs (w : World) (B : Nat) (s : PSt) (g m : Nat) (ws : Value) : Prop where
 blk : Blk w B 129 (stCells s g m ws)
 good : MapIs w g s.good
 seen : MapIs w m s.seen
 row : w.ownsRow 0 155 3 ws s.writes.length (wcells s.writes)
 apart : (sOwn B g m ws).Nodup
theorem row_heap {w w' : World} {base : Nat} {e : TypeId} {size : Nat} {v : Value} {n : Nat} {xs : List Value} (h : w.ownsRow base e size v n xs) (hk : ∀ g, v.ownBlock = some g → w'.heap[g]? = w.heap[g]?) : w'.ownsRow base e size v n xs := by
 refine ⟨h.1, ?_⟩
 rcases h.2 with hn | ⟨g, cap, cur, rfl, hb0, hgg, rest⟩
 ·exact .inl hn
 ·exact .inr ⟨g, cap, cur, rfl, hb0, (hk g rfl).trans hgg, rest⟩
theorem row_lt {w : World} {base : Nat} {e : TypeId} {size : Nat} {v : Value} {n : Nat} {xs : List Value} (h : w.ownsRow base e size v n xs) {g : Nat} (hg : v.ownBlock = some g) : g < w.heap.size := by
 rcases h.2 with ⟨rfl, _⟩ | ⟨g', cap, cur, rfl, hb0, hgg, rest⟩
 ·cases hg
 ·cases hg; exact (Array.getElem?_eq_some_iff.1 hgg).1
theorem row_nil (w : World) (base : Nat) (e : TypeId) (size : Nat) : w.ownsRow base e size (.slice none 0 0) 0 [] := ⟨by simp, .inl ⟨rfl, rfl⟩⟩
section
variable {w w' : World} {B g m : Nat} {s : PSt} {ws : Value}
theorem SIs.lt (h : SIs w B s g m ws) : ∀ k, k ∈ sOwn B g m ws → k < w.heap.size := by
 intro k hk
 simp only [sOwn, List.mem_cons, Option.mem_toList] at hk
 rcases hk with rfl | rfl | rfl | hk
 ·exact h.blk.lt
 ·exact h.good.lt
 ·exact h.seen.lt
 ·exact row_lt h.row hk
theorem SIs.keep (h : SIs w B s g m ws) {O : List Nat} (hf : Fr O w w') (hd : ∀ k, k ∈ sOwn B g m ws → k ∉ O) : SIs w' B s g m ws where
 blk := hf.blk h.blk (hd _ (by simp [sOwn]))
 good := hf.map h.good (hd _ (by simp [sOwn]))
 seen := hf.map h.seen (hd _ (by simp [sOwn]))
 row := row_heap h.row fun k hk => hf.block k (row_lt h.row hk) (hd k (by simp [sOwn, hk]))
 apart := h.apart
theorem SIs.c0 (h : SIs w B s g m ws) : w.cell? ⟨B, 0, none⟩ = some (.map (some g)) := h.blk.cell 0
theorem SIs.c1 (h : SIs w B s g m ws) : w.cell? ⟨B, 1, none⟩ = some ws := h.blk.cell 1
theorem SIs.c2 (h : SIs w B s g m ws) : w.cell? ⟨B, 2, none⟩ = some (.map (some m)) := h.blk.cell 2
theorem SIs.c3 (h : SIs w B s g m ws) : w.cell? ⟨B, 3, none⟩ = some (.bool s.down) := h.blk.cell 3
theorem SIs.c4 (h : SIs w B s g m ws) : w.cell? ⟨B, 4, none⟩ = some (.int .i64 s.refuse) := h.blk.cell 4
theorem SIs.c5 (h : SIs w B s g m ws) : w.cell? ⟨B, 5, none⟩ = some (.int .i64 s.room) := h.blk.cell 5
theorem SIs.write (h : SIs w B s g m ws) {s' : PSt} (hb : Blk w' B 129 (stCells s' g m ws)) (hf : Fr [B] w w') (h1 : s'.good = s.good) (h2 : s'.seen = s.seen) (h3 : s'.writes = s.writes) : SIs w' B s' g m ws := by
 have hn := h.apart
 simp only [sOwn, List.nodup_cons, List.mem_cons, not_or] at hn
 refine ⟨hb, ?_, ?_, ?_, h.apart⟩
 ·rw [h1]; exact hf.map h.good (by simp only [List.mem_singleton]; exact Ne.symm hn.1.1)
 ·rw [h2]; exact hf.map h.seen (by simp only [List.mem_singleton]; exact Ne.symm hn.1.2.1)
 ·rw [h3]; exact row_heap h.row fun k hk => hf.block k (row_lt h.row hk) (by simp only [List.mem_singleton]; rintro rfl; exact hn.1.2.2 (by simp [hk]))
end
theorem zeroS (w : World) : (zeroValue 9).run Tryz.prog w = .ok (.string ⟨#[]⟩) w := by kernel_rfl
def SAt (w : World) (B : Nat) (s : PSt) (O : List Nat) : Prop := ∃ g m ws, SIs w B s g m ws ∧ O = sOwn B g m ws
theorem SAt.lt {w : World} {B : Nat} {s : PSt} {O : List Nat} (h : SAt w B s O) : ∀ k, k ∈ O → k < w.heap.size := by
 obtain ⟨g, m, ws, h, rfl⟩ := h
 exact h.lt
theorem SAt.nodup {w : World} {B : Nat} {s : PSt} {O : List Nat} (h : SAt w B s O) : O.Nodup := by
 obtain ⟨g, m, ws, h, rfl⟩ := h
 exact h.apart
theorem SAt.mem {w : World} {B : Nat} {s : PSt} {O : List Nat} (h : SAt w B s O) : B ∈ O := by
 obtain ⟨g, m, ws, h, rfl⟩ := h
 simp [sOwn]
theorem SAt.keep {w w' : World} {B : Nat} {s : PSt} {O O' : List Nat} (h : SAt w B s O) (hf : Fr O' w w') (hd : ∀ k, k ∈ O → k ∉ O') : SAt w' B s O := by
 obtain ⟨g, m, ws, h, rfl⟩ := h
 exact ⟨g, m, ws, h.keep hf hd, rfl⟩
def StPost (w : World) (B : Nat) (O : List Nat) (v : Value) (s' : PSt) (e : Ending) (w' : World) : Prop := e = .returned v ∧ ∃ O', SAt w' B s' O' ∧ Fr O w w' ∧ ∀ k, k ∈ O' → k ∈ O ∨ w.heap.size ≤ k
def NewPost (w : World) (e : Ending) (w' : World) : Prop := ∃ B O, e = .returned (.pointer (some ⟨B, 0, none⟩)) ∧ (∀ k, k ∈ O → w.heap.size ≤ k) ∧ SAt w' B ⟨[], [], [], false, -1, -1⟩ O ∧ Fr [] w w'
theorem new_any (w : World) : Calls Tryz.prog 35 #[] w (NewPost w) := by
 have hmm := @run_makeMap Tryz.prog
 go_enter Tryz.func35, Tryz.ntmps35
 go_wp2
 go_ret
 have f1 := Fr.alloc w (.map #[] 0)
 have f2 := f1.trans (Fr.alloc (w.alloc (.map #[] 0)) (.map #[] 0)) (O' := []) (by simp)
 have f3 := f2.trans (Fr.alloc ((w.alloc (.map #[] 0)).alloc (.map #[] 0)) (.cells #[.map (some w.heap.size), .slice none 0 0, .map (some (w.heap.size + 1)), .bool false, .int .i64 (-1), .int .i64 (-1)] 129)) (O' := []) (by simp)
 have hb := Blk.new ((w.alloc (.map #[] 0)).alloc (.map #[] 0)) 129 #[.map (some w.heap.size), .slice none 0 0, .map (some (w.heap.size + 1)), .bool false, .int .i64 (-1), .int .i64 (-1)]
 have l1 : (w.alloc (.map #[] 0)).heap.size = w.heap.size + 1 := by simp
 have l2 : ((w.alloc (.map #[] 0)).alloc (.map #[] 0)).heap.size = w.heap.size + 2 := by simp
 have m1 : MapIs (w.alloc (.map #[] 0)) w.heap.size [] := ⟨_, _, Go.heap_alloc_new .., fine_empty⟩
 have m2 : MapIs ((w.alloc (.map #[] 0)).alloc (.map #[] 0)) (w.heap.size + 1) [] := ⟨_, _, by rw [← l1]; exact Go.heap_alloc_new .., fine_empty⟩
 have g1 := (Fr.alloc (w.alloc (.map #[] 0)) (.map #[] 0)).map m1 (by simp)
 have g2 := (Fr.alloc ((w.alloc (.map #[] 0)).alloc (.map #[] 0)) (.cells #[.map (some w.heap.size), .slice none 0 0, .map (some (w.heap.size + 1)), .bool false, .int .i64 (-1), .int .i64 (-1)] 129)).map g1 (by simp)
 have g3 := (Fr.alloc ((w.alloc (.map #[] 0)).alloc (.map #[] 0)) (.cells #[.map (some w.heap.size), .slice none 0 0, .map (some (w.heap.size + 1)), .bool false, .int .i64 (-1), .int .i64 (-1)] 129)).map m2 (by simp)
 rw [l2] at hb
 refine ⟨w.heap.size + 2, sOwn (w.heap.size + 2) w.heap.size (w.heap.size + 1) (.slice none 0 0), rfl, ?_, ⟨_, _, _, ⟨hb, g2, g3, row_nil _ _ _ _, ?_⟩, rfl⟩, f3⟩
 ·intro k hk
  simp [sOwn, Value.ownBlock] at hk
  omega
 ·simp [sOwn, Value.ownBlock]
def refB (s : PSt) : Bool := if s.refuse < 0 then false else decide (wrap64 (s.refuse - 1) < 0)
def refS (s : PSt) : PSt := if s.refuse < 0 then s else { s with refuse := wrap64 (s.refuse - 1) }
def RefPost (w : World) (B : Nat) (s : PSt) (g m : Nat) (ws : Value) (e : Ending) (w' : World) : Prop :=
 e = .returned (.bool (refB s)) ∧ SIs w' B (refS s) g m ws ∧ Fr [B] w w'
theorem refused_any {w : World} {B g m : Nat} {s : PSt} {ws : Value} (h : SIs w B s g m ws) :
 Calls Tryz.prog 110 #[.pointer (some ⟨B, 0, none⟩)] w (RefPost w B s g m ws) := by
 have c4 := h.c4
 have hz := h.blk.frozen 4
 have hH := Lib.hid h
 clear h
 go_enter Tryz.func110, Tryz.ntmps110
 go_wp2
 ·rename_i h
  go_ret
  exact ⟨by rw [refB, if_pos h]; rfl, by rw [refS, if_pos h]; exact hH.out, Fr.refl _ _⟩
 ·rename_i h
  have hn : ¬ s.refuse < 0 := by omega
  go_ret
  exact ⟨by rw [refB, if_neg hn]; rfl, by rw [refS, if_neg hn]; exact hH.out.write (hH.out.blk.set_ 4 _) (Fr.cell w ⟨B, 4, none⟩ _) rfl rfl rfl, Fr.cell w ⟨B, 4, none⟩ _⟩
def gotV (s : PSt) (name : ByteArray) : Value :=
 if s.down then .tuple #[.string ⟨#[]⟩, .int .i64 51] else match TMap.look s.seen name with | some d => .tuple #[.string d, .int .i64 0] | none => .tuple #[.string ⟨#[]⟩, .int .i64 5]
def GetPost (w : World) (s : PSt) (name : ByteArray) (e : Ending) (w' : World) : Prop := e = .returned (gotV s name) ∧ w' = w
theorem get_any {w : World} {B : Nat} {s : PSt} {O : List Nat} (h : SAt w B s O) (name : ByteArray) :
 Calls Tryz.prog 122 #[.pointer (some ⟨B, 0, none⟩), .string name] w (GetPost w s name) := by
 obtain ⟨g, m, ws, h, rfl⟩ := h
 have c2 := h.c2
 have c3 := h.c3
 have hl := run_look Tryz.underlying126 Tryz.underlying9 h.seen (zeroS w) name true
 obtain ⟨good, seen, writes, down, refuse, room⟩ := s
 cases hd : down <;> cases hk : TMap.look seen name <;> simp only [hd, hk] at c3 hl <;>
 go_enter Tryz.func122, Tryz.ntmps122 <;>
 go_wp2
 all_goals
  go_ret2
  refine ⟨?_, rfl⟩
  simp only [gotV, hk, Bool.false_eq_true, if_false, if_true]
  try rfl
/-! a map's clone -/
theorem clone_any (B : Nat) (es : Array MapEntry) (cl : Nat) (w : World) (h : w.heap[B]? = some (.map es cl)) :
 Calls Tryz.prog 83 #[.map (some B)] w fun e w' => e = .returned (.map (some w.heap.size)) ∧ w' = w.alloc (.map es cl) := by
 go_enter Tryz.func83, Tryz.ntmps83
 have hb : (binOp .eql 126 (.map (some B)) (.map none)).run Tryz.prog w = .ok (.bool false) w := by
  have hd : ∀ d : Nat, (Op.equalIn (d + 1) 126 (.map (some B)) (.map none)).run Tryz.prog w = .ok false w := fun d => by
   simp [Op.equalIn, run_underlying Tryz.underlying126]
  simp only [binOp]
  simp [Op.equal, Op.maxDepth, hd 9999]
 go_wp2
 rw [run_callFunc_extern Tryz.func119 (by kernel_rfl) (by kernel_rfl) (by kernel_rfl) (e := Extern.MapsClone.clone) (by kernel_rfl)]
 have hcl : (Extern.MapsClone.clone #[.iface 126 (.map (some B))]).run Tryz.prog w = .ok (.iface 126 (.map (some w.heap.size))) (w.alloc (.map es cl)) := by
  obtain ⟨msg, he⟩ : ∃ msg, Extern.MapsClone.clone #[.iface 126 (.map (some B))] = (do
   let .map entries clock ← getObj B | stuck msg
   pure (Value.iface 126 (.map (some (← newObj (.map entries clock)))))) := ⟨_, rfl⟩
  rw [he]
  simp only [Sem.run_bind, getObj, Sem.run, h, Result.andThen_ok, run_newObj]
  rfl
 rw [hcl]
 simp only [Result.andThen]
 rw [Oper.upon_value]
 have hta : ∀ xT : TypeId, (Instr.typeAssert (.iface 126 (.map (some w.heap.size))) xT 126 false).run Tryz.prog (w.alloc (.map es cl)) = .ok (.map (some w.heap.size)) (w.alloc (.map es cl)) := fun xT => by
  simp [Instr.typeAssert, run_underlying Tryz.underlying126, go_sem, Result.andThen]
 go_wp2
 go_ret
 exact ⟨rfl, rfl⟩
def PSt.settled (s : PSt) : PSt := { s with good := s.seen, writes := [] }
theorem setCell_size (w : World) (p : Addr) (u : Value) : (w.setCell p u).heap.size = w.heap.size := by simp [World.setCell]
theorem SIs.settled {w : World} {B g m : Nat} {s : PSt} {ws : Value} (h : SIs w B s g m ws) {es : Array MapEntry} {cl : Nat} (hes : Fine es cl s.seen) :
 SIs (((w.setCell ⟨B, 0, none⟩ (.map (some w.heap.size))).setCell ⟨B, 1, none⟩ (.slice none 0 0)).alloc (.map es cl)) B s.settled w.heap.size m (.slice none 0 0) ∧ Fr [B] w (((w.setCell ⟨B, 0, none⟩ (.map (some w.heap.size))).setCell ⟨B, 1, none⟩ (.slice none 0 0)).alloc (.map es cl)) := by
 have hn := h.apart
 simp only [sOwn, List.nodup_cons, List.mem_cons, not_or] at hn
 have f1 := Fr.cell w ⟨B, 0, none⟩ (.map (some w.heap.size))
 have f2 := f1.trans (Fr.cell (w.setCell ⟨B, 0, none⟩ (.map (some w.heap.size))) ⟨B, 1, none⟩ (.slice none 0 0)) (fun k hk _ => hk)
 have f3 := f2.trans (Fr.alloc ((w.setCell ⟨B, 0, none⟩ (.map (some w.heap.size))).setCell ⟨B, 1, none⟩ (.slice none 0 0)) (.map es cl)) (by simp)
 have hsz : ((w.setCell ⟨B, 0, none⟩ (.map (some w.heap.size))).setCell ⟨B, 1, none⟩ (.slice none 0 0)).heap.size = w.heap.size := by rw [setCell_size, setCell_size]
 refine ⟨⟨((h.blk.set_ 0 _).set_ 1 _).alloc _, ⟨es, cl, ?_, hes⟩, f3.map h.seen (by simp only [List.mem_singleton]; exact Ne.symm hn.1.2.1), row_nil _ _ _ _, ?_⟩, f3⟩
 ·have := Go.heap_alloc_new ((w.setCell ⟨B, 0, none⟩ (.map (some w.heap.size))).setCell ⟨B, 1, none⟩ (.slice none 0 0)) (.map es cl)
  rw [hsz] at this
  exact this
 ·have := h.blk.lt
  have := h.seen.lt
  simp only [sOwn, Value.ownBlock, Option.toList_none, List.nodup_cons, List.mem_cons, List.not_mem_nil, or_false, not_or, not_false_eq_true, List.nodup_nil, and_true]
  omega
def SetPost (w : World) (B : Nat) (s : PSt) (m : Nat) (e : Ending) (w' : World) : Prop := e = .returned (.tuple #[]) ∧ SIs w' B s.settled w.heap.size m (.slice none 0 0) ∧ Fr [B] w w'
theorem settle_any {w : World} {B g m : Nat} {s : PSt} {ws : Value} (h : SIs w B s g m ws) :
 Calls Tryz.prog 111 #[.pointer (some ⟨B, 0, none⟩)] w (SetPost w B s m) := by
 have c0 := h.c0
 have c1 := h.c1
 have c2 := h.c2
 obtain ⟨es, cl, hb, hes⟩ := h.seen
 have hz0 := h.blk.frozen 0
 have hz1 := h.blk.frozen 1
 have hE := Lib.hid (h.settled hes)
 have hBlt := h.blk.lt
 clear h hes
 go_enter Tryz.func111, Tryz.ntmps111
 go_wp2_with (go_at_call 83; ((with_reducible refine (clone_any _ es cl _ hb).mono ?_); rintro e w1 ⟨rfl, rfl⟩))
 go_end0
 exact ⟨rfl, hE.out.1, hE.out.2⟩
theorem SIs.alloc {w : World} {B g m : Nat} {s : PSt} {ws : Value} (h : SIs w B s g m ws) (o : Obj) : SIs (w.alloc o) B s g m ws := h.keep (Fr.alloc w o) (by simp)
theorem SIs.mem {w : World} {B g m : Nat} {s : PSt} {ws : Value} (_ : SIs w B s g m ws) : B ∈ sOwn B g m ws := by simp [sOwn]
theorem SIs.post {w w' : World} {B g m : Nat} {s' : PSt} {ws : Value} {v : Value} (h : SIs w' B s' g m ws) (hf : Fr [B] w w') : StPost w B (sOwn B g m ws) v s' (.returned v) w' :=
 ⟨rfl, _, ⟨g, m, ws, h, rfl⟩, hf.mono fun k hk _ => by simp only [List.mem_singleton] at hk; simp [sOwn, hk], fun k hk => .inl hk⟩
theorem SetPost.post {w : World} {B g m : Nat} {s : PSt} {ws : Value} {e : Ending} {w' : World} (h : SetPost w B s m e w') : StPost w B (sOwn B g m ws) (.tuple #[]) s.settled e w' := by
 obtain ⟨rfl, h, hf⟩ := h
 refine ⟨rfl, _, ⟨_, _, _, h, rfl⟩, hf.mono fun k hk _ => by simp only [List.mem_singleton] at hk; simp [sOwn, hk], fun k hk => ?_⟩
 simp only [sOwn, List.mem_cons, Value.ownBlock, Option.toList_none, List.not_mem_nil, or_false] at hk
 rcases hk with rfl | rfl | rfl
 ·exact .inl (by simp [sOwn])
 ·exact .inr (Nat.le_refl _)
 ·exact .inl (by simp [sOwn])
theorem StPost.front {w0 w : World} {B : Nat} {O : List Nat} {v : Value} {s' : PSt} {e : Ending} {w' : World} (h : StPost w B O v s' e w') (hf : Fr O w0 w) : StPost w0 B O v s' e w' := by
 obtain ⟨he, O', h1, h2, h3⟩ := h
 exact ⟨he, O', h1, hf.trans h2 fun k hk _ => hk, fun k hk => (h3 k hk).imp id fun h => Nat.le_trans hf.size h⟩
def syncV (s : PSt) : Int := if s.down then 51 else 0
def syncS (s : PSt) : PSt := if s.down then s else s.settled
theorem sync_any {w : World} {B : Nat} {s : PSt} {O : List Nat} (h : SAt w B s O) :
 Calls Tryz.prog 81 #[.pointer (some ⟨B, 0, none⟩)] w (StPost w B O (.int .i64 (syncV s)) (syncS s)) := by
 obtain ⟨g, m, ws, h, rfl⟩ := h
 have c3 := h.c3
 have HH := Lib.hid h
 clear h
 cases hd : s.down <;> rw [hd] at c3
 ·have HS := Lib.hid (show syncV s = 0 ∧ syncS s = s.settled from ⟨by simp [syncV, hd], by simp [syncS, hd]⟩)
  clear hd
  go_enter Tryz.func81, Tryz.ntmps81
  go_wp2_with (go_at_call 111; ((with_reducible refine (settle_any HH.out).mono ?_)))
  intro e w1 hp
  have HP := Lib.hid hp
  obtain ⟨rfl, -, -⟩ := hp
  go_wp2_with fail
  go_ret
  obtain ⟨-, O', h1, h2, h3⟩ := HP.out.post (g := g) (ws := ws)
  rw [HS.out.1, HS.out.2]
  exact ⟨rfl, O', h1, h2, h3⟩
 ·have HS := Lib.hid (show syncV s = 51 ∧ syncS s = s from ⟨by simp [syncV, hd], by simp [syncS, hd]⟩)
  clear hd
  go_enter Tryz.func81, Tryz.ntmps81
  go_wp2_with fail
  go_ret
  rw [HS.out.1, HS.out.2]
  exact HH.out.post (Fr.refl _ _)
/-! faults -/
structure Flt where
 kind : Int
 store : Int
 n : Int
 at_ : Int
 c : Int
def Flt.cells (f : Flt) : Array Value := #[.int .u8 f.kind, .int .i64 f.store, .int .i64 f.n, .int .i64 f.at_, .int .i64 f.c]
theorem down_any {w : World} {B : Nat} {s : PSt} {O : List Nat} (h : SAt w B s O) (f : Flt) :
 Calls Tryz.prog 115 #[.pointer (some ⟨B, 0, none⟩), .agg #[.int .u8 f.kind, .int .i64 f.store, .int .i64 f.n, .int .i64 f.at_, .int .i64 f.c]] w (StPost w B O (.tuple #[]) { s with down := true }) := by
 obtain ⟨g, m, ws, h, rfl⟩ := h
 have c3 := h.c3
 have hz := h.blk.frozen 3
 have hB := h.blk.lt
 have HH := Lib.hid h
 clear h
 go_enter Tryz.func115, Tryz.ntmps115
 go_wp2_with fail
 go_end0
 have h1 := HH.out.write (s' := { s with down := true }) (HH.out.blk.set_ 3 (.bool true)) (Fr.cell w ⟨B, 3, none⟩ _) rfl rfl rfl
 exact (h1.alloc _).post ((Fr.cell w ⟨B, 3, none⟩ _).trans (Fr.alloc _ _) (by simp))
theorem up_any {w : World} {B : Nat} {s : PSt} {O : List Nat} (h : SAt w B s O) (f : Flt) :
 Calls Tryz.prog 116 #[.pointer (some ⟨B, 0, none⟩), .agg #[.int .u8 f.kind, .int .i64 f.store, .int .i64 f.n, .int .i64 f.at_, .int .i64 f.c]] w (StPost w B O (.tuple #[]) { s with down := false }) := by
 obtain ⟨g, m, ws, h, rfl⟩ := h
 have c3 := h.c3
 have hz := h.blk.frozen 3
 have hB := h.blk.lt
 have HH := Lib.hid h
 clear h
 go_enter Tryz.func116, Tryz.ntmps116
 go_wp2_with fail
 go_end0
 have h1 := HH.out.write (s' := { s with down := false }) (HH.out.blk.set_ 3 (.bool false)) (Fr.cell w ⟨B, 3, none⟩ _) rfl rfl rfl
 exact (h1.alloc _).post ((Fr.cell w ⟨B, 3, none⟩ _).trans (Fr.alloc _ _) (by simp))
theorem refuseOne_any {w : World} {B : Nat} {s : PSt} {O : List Nat} (h : SAt w B s O) (f : Flt) :
 Calls Tryz.prog 117 #[.pointer (some ⟨B, 0, none⟩), .agg #[.int .u8 f.kind, .int .i64 f.store, .int .i64 f.n, .int .i64 f.at_, .int .i64 f.c]] w (StPost w B O (.tuple #[]) { s with refuse := f.n }) := by
 obtain ⟨g, m, ws, h, rfl⟩ := h
 have c4 := h.c4
 have hz := h.blk.frozen 4
 have hB := h.blk.lt
 have HH := Lib.hid h
 clear h
 go_enter Tryz.func117, Tryz.ntmps117
 go_wp2_with fail
 go_end0
 have h1 := HH.out.write (s' := { s with refuse := f.n }) (HH.out.blk.set_ 4 (.int .i64 f.n)) (Fr.cell w ⟨B, 4, none⟩ _) rfl rfl rfl
 exact (h1.alloc _).post ((Fr.cell w ⟨B, 4, none⟩ _).trans (Fr.alloc _ _) (by simp))
theorem limit_any {w : World} {B : Nat} {s : PSt} {O : List Nat} (h : SAt w B s O) (f : Flt) :
 Calls Tryz.prog 118 #[.pointer (some ⟨B, 0, none⟩), .agg #[.int .u8 f.kind, .int .i64 f.store, .int .i64 f.n, .int .i64 f.at_, .int .i64 f.c]] w (StPost w B O (.tuple #[]) { s with room := f.n }) := by
 obtain ⟨g, m, ws, h, rfl⟩ := h
 have c5 := h.c5
 have hz := h.blk.frozen 5
 have hB := h.blk.lt
 have HH := Lib.hid h
 clear h
 go_enter Tryz.func118, Tryz.ntmps118
 go_wp2_with fail
 go_end0
 have h1 := HH.out.write (s' := { s with room := f.n }) (HH.out.blk.set_ 5 (.int .i64 f.n)) (Fr.cell w ⟨B, 5, none⟩ _) rfl rfl rfl
 exact (h1.alloc _).post ((Fr.cell w ⟨B, 5, none⟩ _).trans (Fr.alloc _ _) (by simp))
end Vm
end Go.Proofs.YtnbkhdbligjifaaGreatDoor
