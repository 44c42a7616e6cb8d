/-
 The interpreter: operations that write, the translated code turned into abstract code. No program is named.
-/
import Derived.Test.YtfkchheildfkpaaGreatDoorRfA
import Derived.AtR
import Derived.Orders
namespace Go.Proofs.YtfkchheildfkpaaGreatDoor.Refl
open Go Go.RowKit
namespace Abs
set_option linter.unusedVariables false
set_option linter.unusedSimpArgs false
def World.setObjAt (w : World) (B : Nat) (o : Obj) : World := { w with heap := w.heap.setIfInBounds B o }
def setCells (cs : Array Value) (i : Nat) : List Value → Array Value
 | [] => cs
 | v :: vs => setCells (cs.setIfInBounds i v) (i + 1) vs
theorem setCells_size : ∀ (vs : List Value) (cs : Array Value) (i : Nat), (setCells cs i vs).size = cs.size
 | [], _, _ => rfl
 | v :: vs, cs, i => by rw [setCells, setCells_size]; simp
theorem setCells_get : ∀ (vs : List Value) (cs : Array Value) (i j : Nat), i + vs.length ≤ cs.size → (setCells cs i vs)[j]? = if i ≤ j ∧ j < i + vs.length then vs[j - i]? else cs[j]?
 | [], cs, i, j, h => by rw [if_neg (by simp only [List.length_nil]; omega)]; rfl
 | v :: vs, cs, i, j, h => by
   rw [List.length_cons] at h ⊢
   rw [setCells, setCells_get vs _ (i + 1) j (by simp; omega)]
   by_cases hj : j = i
   · subst hj
     rw [if_neg (by omega), if_pos (by omega), Nat.sub_self, Array.getElem?_setIfInBounds_self, if_pos (by omega)]; rfl
   · by_cases h2 : i + 1 ≤ j ∧ j < i + 1 + vs.length
     · rw [if_pos h2, if_pos (by omega), show j - i = (j - (i + 1)) + 1 by omega, List.getElem?_cons_succ]
     · rw [if_neg h2, if_neg (by omega), Array.getElem?_setIfInBounds_ne (Ne.symm hj)]
theorem setCell_at {w : World} {B o : Nat} {cs : Array Value} {e : TypeId} {fr : Nat × Nat} (h : w.heap[B]? = some (.cells cs e fr)) (v : Value) :
   w.setCell ⟨B, o, none⟩ v = World.setObjAt w B (.cells (cs.setIfInBounds o v) e fr) := by
 unfold World.setCell World.setObjAt
 congr 1
 apply Array.ext_getElem?
 intro i
 rw [Array.getElem?_modify]
 by_cases hi : B = i
 · subst hi
   have hlt : B < w.heap.size := (Array.getElem?_eq_some_iff.1 h).1
   rw [if_pos rfl, Array.getElem?_setIfInBounds_self, if_pos hlt, h]; rfl
 · rw [if_neg hi, Array.getElem?_setIfInBounds_ne hi]
theorem setObjAt_get {w : World} {B : Nat} {o : Obj} (h : B < w.heap.size) : (World.setObjAt w B o).heap[B]? = some o := by
 unfold World.setObjAt; rw [Array.getElem?_setIfInBounds_self, if_pos h]
theorem setObjAt_twice (w : World) (B : Nat) (o o' : Obj) : World.setObjAt (World.setObjAt w B o) B o' = World.setObjAt w B o' := by
 unfold World.setObjAt
 congr 1
 apply Array.ext_getElem?
 intro i
 by_cases hi : B = i
 · subst hi
   simp [Array.getElem?_setIfInBounds_self]
 · simp [Array.getElem?_setIfInBounds_ne hi]
theorem setObjAt_same {w : World} {B : Nat} {o : Obj} (h : w.heap[B]? = some o) : World.setObjAt w B o = w := by
 unfold World.setObjAt
 have : w.heap.setIfInBounds B o = w.heap := by
   apply Array.ext_getElem?
   intro i
   by_cases hi : B = i
   · subst hi
     have hlt : B < w.heap.size := (Array.getElem?_eq_some_iff.1 h).1
     rw [Array.getElem?_setIfInBounds_self, if_pos hlt, h]
   · rw [Array.getElem?_setIfInBounds_ne hi]
 rw [this]
section
variable {P : Program}
theorem run_storeCells {B o : Nat} {e : TypeId} {lo hi : Nat} : ∀ (vs : List Value) (i : Nat) (cs : Array Value) (w : World), w.heap[B]? = some (.cells cs e (lo, hi)) → o + i + vs.length ≤ cs.size → (∀ j, o + i ≤ j → j < o + i + vs.length → ¬ (lo ≤ j ∧ j < hi)) → (∀ v ∈ vs, v.oneCell' = true) →
   (storeCells ⟨B, o, none⟩ vs i).run P w = .ok () (World.setObjAt w B (.cells (setCells cs (o + i) vs) e (lo, hi)))
 | [], i, cs, w, h, _, _, _ => by
   rw [setCells, setObjAt_same h]; rfl
 | v :: vs, i, cs, w, h, hl, hfr, h1 => by
   rw [List.length_cons] at hl hfr
   have hlt : B < w.heap.size := (Array.getElem?_eq_some_iff.1 h).1
   have hc : o + i < cs.size := by omega
   have hcell : w.cell? ⟨B, o + i, none⟩ = some cs[o + i] := cell_at h (by simp [hc])
   have hfz : w.frozen? ⟨B, o + i, none⟩ = false := by
     have := hfr (o + i) (by omega) (by omega)
     simp only [World.frozen?, h]
     rw [← Bool.not_eq_true, Bool.and_eq_true, decide_eq_true_eq, decide_eq_true_eq]
     exact this
   rw [storeCells]
   simp only [Sem.run_bind, add_plain, run_store P w _ v .plain (h1 v (List.mem_cons_self ..)), hcell, hfz, Bool.false_eq_true, if_false, Result.andThen_ok]
   rw [setCell_at h, run_storeCells vs (i + 1) (cs.setIfInBounds (o + i) v) _ (setObjAt_get hlt) (by simp; omega) (fun j h2 h3 => hfr j (by omega) (by omega)) (fun u hu => h1 u (List.mem_cons_of_mem _ hu)), setObjAt_twice]
   rfl
end
def scalar : AVal → Bool
 | .agg _ | .tup _ => false
 | _ => true
theorem scalar_rel {f : Inj} {a : AVal} {v : Value} (h : VRel f a v) (hs : scalar a = true) : v.oneCell' = true := by
 cases a <;> simp [scalar] at hs
 case unk => obtain ⟨_, _, rfl⟩ := h; rfl
 case str => obtain ⟨_, rfl, _⟩ := h; rfl
 case ptr => obtain ⟨_, _, _, rfl⟩ := h; rfl
 case slc => obtain ⟨_, _, _, _, _, _, _, _, rfl⟩ := h; rfl
 case map => obtain ⟨_, _, _, rfl⟩ := h; rfl
 case fn => obtain ⟨_, _, _, rfl, _⟩ := h; rfl
 case ifc => obtain ⟨_, rfl, _⟩ := h; rfl
 all_goals (cases h; rfl)
theorem scalars_rel {f : Inj} : ∀ {l : List AVal} {vs : List Value}, VRels f l vs → l.all scalar = true → ∀ v ∈ vs, v.oneCell' = true
 | [], _, h, _, v, hv => by cases h; cases hv
 | a :: l, _, ⟨u, us, e, h1, h2⟩, hs, v, hv => by
   subst e
   rw [List.all_cons, Bool.and_eq_true] at hs
   cases hv with
   | head => exact scalar_rel h1 hs.1
   | tail _ hv => exact scalars_rel h2 hs.2 v hv
noncomputable def writeCells {R : Type} (S : AState) (b o : Nat) (vs : List AVal) (K : AState → Option R) : Option R := match S.heap.get b with
 | some (.cells c d n wr e) => match and (and wr (vs.all scalar)) (and (Nat.ble (Nat.add o vs.length) n) (and (small S.next) (small n))) with
   | true => writeS S b (.cells (putCells c o vs) d n true e) K
   | false => none
 | _ => none
section
variable {E : Env} {M : Nat} {f : Inj} {S : AState} {w : World}
theorem writeCells_ok {R : Type} {b o : Nat} {vs : List AVal} {K : AState → Option R} {r : R} (hw : writeCells S b o vs K = some r) :
   vs.all scalar = true ∧ ∃ S', K S' = some r ∧ (S'.next = S.next ∧ AStep E S S') ∧ ∀ (M : Nat) (f : Inj) (w : World) (B N : Nat) (us : List Value), Sim E M f S.v w → S.next ≤ M → f b = some (B, N) → VRels f vs us →
     ∃ w', (storeCells ⟨B, o, none⟩ us).run E.P w = .ok () w' ∧ Step E M f S.v w f S'.v w' := by
 unfold writeCells at hw
 split at hw
 case h_2 => cases hw
 rename_i c d n wr e hg
 split at hw
 case h_2 => cases hw
 rename_i hc
 rw [Bool.and_eq_true, Bool.and_eq_true, Bool.and_eq_true, Bool.and_eq_true, Nat.ble_eq] at hc
 obtain ⟨⟨rfl, hsc⟩, hle, hsm, hsn⟩ := hc
 rw [writeS_eq] at hw
 refine ⟨hsc, _, hw, ⟨rfl, .write hg trivial⟩, fun M f w B N us h hM hf hv => ?_⟩
 obtain ⟨obj, hobj, hb⟩ := h.blk b _ hg B N hf
 obtain ⟨cs, lo, hi, rfl, hs, hn, hfr, hcells⟩ := hb
 have hlen := hv.length
 have hle : o + vs.length ≤ n := hle
 have hsn := small_lt hsn
 have hrun := run_storeCells (P := E.P) (B := B) (o := o) us 0 cs w hobj (by omega) (fun j h1 h2 => by rcases hfr rfl with h3 | h3 <;> omega) (scalars_rel hv hsc)
 refine ⟨_, hrun, Step.write h (small_lt hsm) hM hg rfl rfl hf rfl rfl rfl rfl ?_⟩
 refine ⟨_, lo, hi, rfl, by rw [setCells_size]; exact hs, hn, hfr, fun i hi => ?_⟩
 rw [Nat.add_zero, setCells_get _ _ _ _ (by omega), getCell_eq, putCells_get _ _ _ _ (by omega), ← hlen]
 by_cases hin : o ≤ i ∧ i < o + vs.length
 · rw [if_pos hin, if_pos hin]
   obtain ⟨u, hu, hr⟩ := hv.get (i := i - o) (a := vs[i - o]'(by omega)) (by simp)
   refine ⟨u, hu, ?_⟩
   simpa [show i - o < vs.length by omega] using hr
 · rw [if_neg hin, if_neg hin, ← getCell_eq]
   exact hcells i hi
def EOk (E : Env) (M : Nat) (f : Inj) (S : AState) (w : World) (run : World → Result Next) (v : AVal) (S' : AState) : Prop :=
 ∃ v' f' w', (run w = .ok (.value v') w' ∨ (run w = .ok .skip w' ∧ v' = undef)) ∧ Step E M f S.v w f' S'.v w' ∧ VRel f' v v'
variable {ρ : Operand → Value} {o : Oper} {R : Type} {r : R}
noncomputable def storeA (S : AState) (n : Nat) (agg : Bool) (a x : AVal) (K : AVal → AState → Option R) : Option R := match a with
 | .ptr b o => match agg with
   | true => match Nat.beq (cellsA x).length n with
     | true => writeCells S b o (cellsA x) (K undefA)
     | false => none
   | false => match Nat.beq n 1 with
     | true => writeCells S b o [x] (K undefA)
     | false => none
 | _ => none
def EffOk (E : Env) (S : AState) (K : AVal → AState → Option R) (r : R) (pre : Inj → (Operand → Value) → Prop) (o : Oper) : Prop :=
 ∃ v S', K v S' = some r ∧ AStep E S S' ∧ ∀ (M : Nat) (f : Inj) (w : World) (ρ : Operand → Value), Sim E M f S.v w → S'.next ≤ M → pre f ρ → EOk E M f S w ((execOp ρ o).run E.P) v S'
theorem store_ok {t : TypeId} {x y : Operand} (ho : o.op = .store t x y) {n : Nat} (hn : sizeA E.P t = some n) {agg : Bool} {a b : AVal} {K : AVal → AState → Option R}
   (hs : storeA S n agg a b K = some r) : EffOk E S K r (fun f ρ => VRel f a (ρ x) ∧ VRel f b (ρ y)) o := by
 have base : ∀ (ρ : Operand → Value) (w w' : World) (B off : Nat), ρ x = .pointer (some ⟨B, off, none⟩) → (ρ y).cells.size = n → (storeCells ⟨B, off, none⟩ (ρ y).cells.toList).run E.P w = .ok () w' → (execOp ρ o).run E.P w = .ok .skip w' := by
   intro ρ w w' B off hx hsz hrun
   simp only [execOp, ho, hx, Instr.storeAt, Instr.sureAddr, storeVar, Sem.run_bind, Sem.run_pure, Result.andThen_ok, r_size hn]
   rw [if_neg (by simpa using hsz)]
   simp only [Sem.run_bind, Sem.run_pure, Result.andThen_ok, hrun]
 unfold storeA at hs
 split at hs
 case h_2 => cases hs
 rename_i c off
 have fin : ∀ vs, cellsA b = vs → vs.length = n → writeCells S c off vs (K undefA) = some r → EffOk E S K r (fun f ρ => VRel f (.ptr c off) (ρ x) ∧ VRel f b (ρ y)) o := by
   intro vs hvs hlen hs
   obtain ⟨_, S', hK, hnx, hgo⟩ := writeCells_ok (E := E) hs
   refine ⟨_, S', hK, hnx.2, fun M f w ρ h hM hpre => ?_⟩
   obtain ⟨⟨B, N, hf, hx⟩, hb⟩ := hpre
   have hcells := hb.cells
   rw [hvs] at hcells
   obtain ⟨w', hrun, hst⟩ := hgo M f w B N _ h (by omega) hf hcells
   exact ⟨undef, f, w', .inr ⟨base ρ w w' B off hx (by have := hcells.length; simp at this; omega) hrun, rfl⟩, hst, VRel.undef f⟩
 split at hs
 · split at hs
   case h_2 => cases hs
   rename_i hlen
   rw [Nat.beq_eq] at hlen
   exact fin _ rfl hlen hs
 · split at hs
   case h_2 => cases hs
   rename_i hlen
   rw [Nat.beq_eq] at hlen
   subst hlen
   have hsc := (writeCells_ok (E := E) hs).1
   have hone : cellsA b = [b] := by cases b <;> first | rfl | (simp [scalar] at hsc)
   exact fin _ hone rfl hs
noncomputable def appVals (S : AState) (s : Nat) (z : Option (List AVal)) (y : AVal) : Option (Nat × List AVal) := match z with
 | some z => match y with
   | .int _ (.ofNat m) => match small (Nat.mul m (Nat.succ z.length)) with
     | true => some (m, copies m z)
     | false => none
   | _ => none
 | none => match y with
   | .slc0 => some (0, [])
   | .slc b o n s' => match S.heap.get b with
     | some (.cells c d k _ _) => match and (Nat.beq s s') (Nat.ble (Nat.add o (Nat.mul n s)) k) with
       | true => some (n, readCells c d o (Nat.mul n s))
       | false => none
     | _ => none
   | .str n x => match Nat.beq s 1 with
     | true => some (n, strCells n x)
     | false => none
   | _ => none
def appendedC (zeros : Bool) (e : TypeId) (s n : Nat) (x : Value) : Sem (Array Value) :=
 if !zeros then Builtin.firstCells s n x else if n * s = 0 then pure #[] else do pure (Builtin.zeroCells (← zeroValue e).cells n)
theorem zeroCells_rel {z : List AVal} {zv : Array Value} (hz : VRels f z zv.toList) (n : Nat) : VRels f (copies n z) (Builtin.zeroCells zv n).toList := zeros_rel hz n
theorem appVals_ok (h : Sim E M f S.v w) {e : TypeId} {s : Nat} (hs : sizeA E.P e = some s) {z : Option (List AVal)} (hz : ∀ zl, z = some zl → zeroA E.P e = some zl ∧ zl.length = s) {y : AVal} {v : Value} (hy : VRel f y v) {m : Nat} {vs : List AVal} (ha : appVals S s z y = some (m, vs)) :
   vs.length = m * s ∧ (z = none → (Builtin.lenOf v).run E.P w = .ok m w) ∧ (z.isSome = true → ∃ k, v = .int k (m : Int) ∧ m ≤ 1000000000) ∧ ∃ us : List Value, VRels f vs us ∧ ∀ w' : World, w'.heap = w.heap → (appendedC z.isSome e s m v).run E.P w' = .ok us.toArray w' := by
 unfold appVals at ha
 split at ha
 · rename_i zl
   obtain ⟨hz0, hzl⟩ := hz zl rfl
   split at ha
   case h_2 => cases ha
   rename_i k m'
   split at ha
   case h_2 => cases ha
   rename_i hsm
   cases ha
   have hsm := small_lt hsm
   have hm1 : m ≤ 1000000000 := by
     have h1 : m.mul zl.length.succ = m * (zl.length + 1) := rfl
     have h2 : m * 1 ≤ m * (zl.length + 1) := Nat.mul_le_mul_left _ (by omega)
     omega
   have hv : v = .int k (m : Int) := hy
   obtain ⟨zv, hzv, hzr⟩ := r_zero hz0
   have hlz : zl.length = zv.cells.size := by have := (hzr f).length; simpa using this
   refine ⟨by rw [copies_length, hzl], (fun h => by cases h), fun _ => ⟨k, hv, hm1⟩, (Builtin.zeroCells zv.cells m).toList, zeroCells_rel (hzr f) m, fun w' _ => ?_⟩
   unfold appendedC
   simp only [Option.isSome_some, Bool.not_true, Bool.false_eq_true, if_false]
   by_cases hn : m * s = 0
   · rw [if_pos hn]
     have : (Builtin.zeroCells zv.cells m).toList = [] := by
       apply List.eq_nil_of_length_eq_zero
       simp only [Builtin.zeroCells, Array.length_toList, Array.size_map, Array.size_range]
       rw [← hlz, hzl]; exact hn
     rw [this]; rfl
   · rw [if_neg hn]
     simp [hzv]
 · split at ha
   · cases ha
     have hv : v = .slice none 0 0 := hy
     subst hv
     refine ⟨by simp, fun _ => by simp [Builtin.lenOf], (fun h => by cases h), [], rfl, fun w' _ => ?_⟩
     simp [appendedC, Builtin.firstCells]
   · rename_i b off n s'
     split at ha
     case h_2 => cases ha
     rename_i c d k wr e' hg
     split at ha
     case h_2 => cases ha
     rename_i hc
     rw [Bool.and_eq_true, Nat.beq_eq, Nat.ble_eq] at hc
     obtain ⟨rfl, hle⟩ := hc
     cases ha
     obtain ⟨B, N, cap, p, hf, hlc, hcn, hp, rfl⟩ := hy
     obtain ⟨obj, hobj, hb⟩ := h.blk b _ hg B N hf
     obtain ⟨vs, hrun, hrel, hlen⟩ : ∃ vs : List Value, (∀ w' : World, w'.heap = w.heap → (loadCells ⟨B, p, none⟩ (m * s)).run E.P w' = .ok vs.toArray w') ∧ VRels f (readCells c d off (m * s)) vs ∧ vs.length = m * s := by
       rcases hp with rfl | rfl
       · have hle : p + m * s ≤ k := hle
         obtain ⟨cs, fr, rfl, hsz, hr⟩ := readCells_rel hb hle
         have hl := hr.length
         rw [readCells_length] at hl
         refine ⟨_, fun w' hw' => ?_, hr, hl.symm⟩
         have hobj' : w'.heap[B]? = some (.cells cs e' fr) := by rw [hw']; exact hobj
         have := run_loadCells_list (P := E.P) w' ⟨B, p, none⟩ ((cs.toList.drop p).take (m * s)) (fun j v hv => by
           rw [add_plain]
           have hj : j < m * s := by
             rcases Nat.lt_or_ge j (m * s) with h | h
             · exact h
             · rw [List.getElem?_eq_none (by rw [← hl]; exact h)] at hv; cases hv
           rw [List.getElem?_take_of_lt hj, List.getElem?_drop, Array.getElem?_toList] at hv
           exact cell_at hobj' hv)
         have hl2 : ((cs.toList.drop p).take (m * s)).length = m * s := hl.symm
         rw [hl2] at this
         exact this
       · obtain rfl : m = 0 := by omega
         rw [Nat.zero_mul]
         exact ⟨[], fun _ _ => rfl, rfl, rfl⟩
     refine ⟨by rw [show m.mul s = m * s from rfl, readCells_length], fun _ => by simp [Builtin.lenOf], (fun h => by cases h), vs, hrel, fun w' hw' => ?_⟩
     simp only [appendedC, Option.isSome_none, Bool.not_false, if_true, Builtin.firstCells]
     exact hrun w' hw'
   · rename_i n x
     split at ha
     case h_2 => cases ha
     rename_i hs1
     rw [Nat.beq_eq] at hs1
     subst hs1
     cases ha
     obtain ⟨str, rfl, hstr⟩ := hy
     have hn : str.size = m := by obtain ⟨rfl, _⟩ := hstr; simp
     refine ⟨by simp [strCells], fun _ => by simp [Builtin.lenOf, hn], (fun h => by cases h), _, strCells_rel hstr, fun w' _ => ?_⟩
     simp only [appendedC, Option.isSome_none, Bool.not_false, if_true, Builtin.firstCells, Sem.run_pure]
     congr 1
     apply Array.ext'
     have : (str.extract 0 m).data.toList = str.data.toList := by
       rw [ByteArray.data_extract, Array.toList_extract]
       simp [List.extract_eq_take_drop, List.take_of_length_le, ← hn]
     simp [this]
     exact List.take_of_length_le (by rw [List.length_map, hstr.1]; exact Nat.le_refl _)
   · cases ha
theorem growBy_le (n : Nat) : ∀ (r c : Nat), Builtin.growBy n r c ≤ 2 ^ r * (c + 192)
 | 0, c => by simp [Builtin.growBy]
 | r + 1, c => by
   rw [Builtin.growBy]
   have hp : 1 ≤ 2 ^ r := Nat.one_le_two_pow
   split
   · have : 1 * (c + 192) ≤ 2 ^ (r + 1) * (c + 192) := Nat.mul_le_mul_right _ Nat.one_le_two_pow
     omega
   · refine Nat.le_trans (growBy_le n r _) ?_
     rw [Nat.pow_succ, Nat.mul_assoc]
     refine Nat.mul_le_mul_left _ ?_
     omega
theorem nextcap_le (n c : Nat) : Builtin.nextslicecap n c ≤ 16 * (n + c + 192) := by
 unfold Builtin.nextslicecap
 split
 · omega
 · split
   · omega
   · have := growBy_le n 4 c
     omega
def capOf (w : World) (need cap : Nat) (e : TypeId) : Nat := (Question.appendCap need cap e).cut (w.tape w.drawn (.appendCap need cap e))
theorem capOf_le (w : World) (need cap : Nat) (e : TypeId) : need ≤ capOf w need cap e := by simp [capOf, Question.cut]
def isMakeT (P : Program) : Option TypeId → Option Bool
 | none => some false
 | some t => match P.underlying t with
   | some (.int _) => some true
   | some _ => some false
   | none => none
theorem run_append_room {P : Program} {w : World} {ts : Array TypeId} {t ty e : TypeId} (h0 : ts[0]? = some t) (h1 : P.underlying t = some (.slice e)) {s : Nat} (hs : sizeA P e = some s) {zeros : Bool} (hz : isMakeT P ts[1]? = some zeros)
   {bs : Nat} (hby : (P.info? e).map (·.bytes) = some bs) {base : Option Addr} {len cap m : Nat} {x : Value} (hx : zeros = false → (Builtin.lenOf x).run P w = .ok m w) (hx2 : zeros = true → ∃ k, x = .int k (m : Int) ∧ m * bs ≤ 1000000000 ∧ m ≤ 1000000000)
   (hroom : len + m ≤ cap) {us : List Value} (hus : (appendedC zeros e s m x).run P w = .ok us.toArray w) :
   (Builtin.append_ ts ty #[.slice base len cap, x]).run P w = ((match base with | some a => storeCells (a.add (len * s)) us | none => pure () : Sem Unit).run P w).andThen fun _ w1 => .ok (.slice base (len + m) cap) w1 := by
 simp only [Option.map_eq_some_iff] at hby
 obtain ⟨i, hi, rfl⟩ := hby
 have hti : ∀ w, (typeInfo e).run P w = .ok i w := fun w => by simp [typeInfo, hi]
 cases zeros with
 | false =>
   have hx := hx rfl
   have happ : (Builtin.firstCells s m x).run P w = .ok us.toArray w := by simpa [appendedC] using hus
   cases ht : ts[1]? with
   | none =>
     simp only [Builtin.append_, h0, ht, List.getElem?_toArray, List.getElem?_cons_zero, List.getElem?_cons_succ, Sem.run_bind, r_und h1, Result.andThen_ok, r_size hs, Sem.run_pure, Bool.false_eq_true, if_false, hx, if_pos hroom, Bool.not_false, if_true, happ]
     cases base <;> first | rfl | simp only [Sem.run_bind, Sem.run_pure]
   | some t2 =>
     rw [ht] at hz
     simp only [isMakeT] at hz
     cases hu : P.underlying t2 with
     | none => rw [hu] at hz; cases hz
     | some d =>
       rw [hu] at hz
       simp only [Builtin.append_, h0, ht, List.getElem?_toArray, List.getElem?_cons_zero, List.getElem?_cons_succ, Sem.run_bind, r_und h1, r_und hu, Result.andThen_ok, r_size hs, Sem.run_pure]
       cases d <;> first | (cases hz; done) | (simp only [Bool.false_eq_true, if_false, Sem.run_bind, hx, Result.andThen_ok, if_pos hroom, Bool.not_false, if_true, happ]; cases base <;> first | rfl | simp only [Sem.run_bind, Sem.run_pure])
 | true =>
   obtain ⟨k, rfl, hm, hm2⟩ := hx2 rfl
   have happ : ((if m * s = 0 then pure #[] else do pure (Builtin.zeroCells (← zeroValue e).cells m) : Sem (Array Value))).run P w = .ok us.toArray w := by simpa [appendedC] using hus
   have hw : IntKind.i64.wrap (m : Int) = m := wrap_small (by simp [lim]; omega)
   have hb : ¬ ((m : Int) * (i.bytes : Int) > 2 ^ 48) := by rw [← Int.natCast_mul]; omega
   have hn : ¬ ((m : Int) < 0) := by omega
   cases ht : ts[1]? with
   | none => rw [ht] at hz; cases hz
   | some t2 =>
     rw [ht] at hz
     simp only [isMakeT] at hz
     cases hu : P.underlying t2 with
     | none => rw [hu] at hz; cases hz
     | some d =>
       rw [hu] at hz
       cases d <;> first | (cases hz; done) | skip
       simp only [Builtin.append_, h0, ht, List.getElem?_toArray, List.getElem?_cons_zero, List.getElem?_cons_succ, Sem.run_bind, r_und h1, r_und hu, Result.andThen_ok, r_size hs, Sem.run_pure, if_true, asInt, asIntOf, hw, if_neg hn, hti, if_neg hb, Int.toNat_natCast, if_pos hroom, Bool.not_true, Bool.false_eq_true, if_false, happ]
       cases base <;> first | rfl | simp only [Sem.run_bind, Sem.run_pure]
theorem run_append_grow {P : Program} {w : World} {ts : Array TypeId} {t ty e : TypeId} (h0 : ts[0]? = some t) (h1 : P.underlying t = some (.slice e)) {s : Nat} (hs : sizeA P e = some s) {zeros : Bool} (hz : isMakeT P ts[1]? = some zeros)
   {bs : Nat} (hby : (P.info? e).map (·.bytes) = some bs) (hb1 : 0 < bs) (hb2 : bs ≤ 10000) {base : Option Addr} {len cap m : Nat} {x : Value} (hx : zeros = false → (Builtin.lenOf x).run P w = .ok m w) (hx2 : zeros = true → ∃ k, x = .int k (m : Int) ∧ m * bs ≤ 1000000000 ∧ m ≤ 1000000000)
   (hroom : ¬ len + m ≤ cap) (hm : (len + m) * bs ≤ 1000000000) {old us : List Value} (hold : (Builtin.firstCells s len (.slice base len cap)).run P w.drew = .ok old.toArray w.drew) (hus : (appendedC zeros e s m x).run P w.drew = .ok us.toArray w.drew) {zv : Value} (hzv : ∀ w, (zeroValue e).run P w = .ok zv w) :
   (Builtin.append_ ts ty #[.slice base len cap, x]).run P w = .ok (.slice (some ⟨w.heap.size, 0, none⟩) (len + m) (capOf w (len + m) cap e)) (w.drew.alloc (.cells (old.toArray ++ us.toArray ++ Builtin.zeroCells zv.cells (capOf w (len + m) cap e - (len + m))) e)) := by
 simp only [Option.map_eq_some_iff] at hby
 obtain ⟨i, hi, rfl⟩ := hby
 have hti : ∀ w, (typeInfo e).run P w = .ok i w := fun w => by simp [typeInfo, hi]
 have hml : len + m ≤ 1000000000 := by
   have : (len + m) * 1 ≤ (len + m) * i.bytes := Nat.mul_le_mul_left _ hb1
   omega
 have hmi : m * i.bytes ≤ 1000000000 := by
   have : m * i.bytes ≤ (len + m) * i.bytes := Nat.mul_le_mul_right _ (by omega)
   omega
 have c1 : ¬ (((len + m : Nat) : Int) > IntKind.i64.max ∧ (zeros = true ∨ i.bytes = 0)) := by
   rw [show IntKind.i64.max = 9223372036854775807 from rfl]; omega
 have c1' : ¬ (((len + m : Nat) : Int) > IntKind.i64.max) := by
   rw [show IntKind.i64.max = 9223372036854775807 from rfl]; omega
 have c2 : ¬ (Builtin.nextslicecap (len + m) cap * i.bytes > 2 ^ 48) := by
   have h1 := nextcap_le (len + m) cap
   have h2 : Builtin.nextslicecap (len + m) cap * i.bytes ≤ 16 * (len + m + cap + 192) * i.bytes := Nat.mul_le_mul_right _ h1
   have h3 : 16 * (len + m + cap + 192) * i.bytes ≤ 16 * ((len + m) + (len + m) + 192) * i.bytes := Nat.mul_le_mul_right _ (by omega)
   have h4 : 16 * ((len + m) + (len + m) + 192) * i.bytes = 32 * ((len + m) * i.bytes) + 3072 * i.bytes := by
     rw [show 16 * ((len + m) + (len + m) + 192) = 32 * (len + m) + 3072 by omega, Nat.add_mul, Nat.mul_assoc]
   omega
 have hcap : (Question.appendCap (len + m) cap e).cut (w.tape w.drawn (.appendCap (len + m) cap e)) = capOf w (len + m) cap e := rfl
 cases zeros with
 | false =>
   have hx := hx rfl
   have happ : (Builtin.firstCells s m x).run P w.drew = .ok us.toArray w.drew := by simpa [appendedC] using hus
   cases ht : ts[1]? with
   | none =>
     simp only [Builtin.append_, h0, ht, List.getElem?_toArray, List.getElem?_cons_zero, List.getElem?_cons_succ, Sem.run_bind, r_und h1, Result.andThen_ok, r_size hs, Sem.run_pure, Bool.false_eq_true, if_false, hx, if_neg hroom, hti, c1', false_and, if_neg c2,
       run_choose, Question.forced, World.drew_eq, run_askRoom, hold, Bool.not_false, if_true, happ, hzv, newRow, run_newObj]
     rfl
   | some t2 =>
     rw [ht] at hz
     simp only [isMakeT] at hz
     cases hu : P.underlying t2 with
     | none => rw [hu] at hz; cases hz
     | some d =>
       rw [hu] at hz
       simp only [Builtin.append_, h0, ht, List.getElem?_toArray, List.getElem?_cons_zero, List.getElem?_cons_succ, Sem.run_bind, r_und h1, r_und hu, Result.andThen_ok, r_size hs, Sem.run_pure]
       cases d <;> first | (cases hz; done) | (simp only [Bool.false_eq_true, if_false, Sem.run_bind, hx, Result.andThen_ok, if_neg hroom, hti, c1', false_and, if_neg c2, Sem.run_pure, run_choose, Question.forced, World.drew_eq, run_askRoom, hold, Bool.not_false, if_true, happ, hzv, newRow, run_newObj]; rfl)
 | true =>
   obtain ⟨k, rfl, hm, hm2⟩ := hx2 rfl
   have happ : ((if m * s = 0 then pure #[] else do pure (Builtin.zeroCells (← zeroValue e).cells m) : Sem (Array Value))).run P w.drew = .ok us.toArray w.drew := by simpa [appendedC] using hus
   have hw : IntKind.i64.wrap (m : Int) = m := wrap_small (by simp [lim]; omega)
   have hb : ¬ ((m : Int) * (i.bytes : Int) > 2 ^ 48) := by rw [← Int.natCast_mul]; omega
   have hn : ¬ ((m : Int) < 0) := by omega
   cases ht : ts[1]? with
   | none => rw [ht] at hz; cases hz
   | some t2 =>
     rw [ht] at hz
     simp only [isMakeT] at hz
     cases hu : P.underlying t2 with
     | none => rw [hu] at hz; cases hz
     | some d =>
       rw [hu] at hz
       cases d <;> first | (cases hz; done) | skip
       simp only [Builtin.append_, h0, ht, List.getElem?_toArray, List.getElem?_cons_zero, List.getElem?_cons_succ, Sem.run_bind, r_und h1, r_und hu, Result.andThen_ok, r_size hs, Sem.run_pure, if_true, asInt, asIntOf, hw, if_neg hn, hti, if_neg hb, Int.toNat_natCast, if_neg hroom, c1', false_and, if_false, if_neg c2,
         run_choose, Question.forced, Bool.false_eq_true, World.drew_eq, run_askRoom, hold, Bool.not_true, happ, hzv, newRow, run_newObj]
       rfl
noncomputable def appendB (S : AState) (s bs : Nat) (e : TypeId) (x : AVal) (m : Nat) (vs : List AVal) (K : AVal → AState → Option R) : Option R := match x with
 | .slc0 => match m with
   | 0 => K .slc0 S
   | _ + 1 => match and (small (Nat.mul m bs)) (small vs.length) with
     | true => allocS S (newCells vs e) fun b S => K (.slc b 0 m s) S
     | false => none
 | .slc b o n s' => match m with
   | 0 => K (.slc b o n s') S
   | _ + 1 => match S.heap.get b with
     | some (.cells c d k wr e') => match and (and wr (and (Nat.beq o 0) (and (Nat.beq s s') (Nat.beq e e')))) (and (Nat.ble (Nat.mul n s) k) (and (small (Nat.mul (Nat.add n m) bs)) (and (small (Nat.mul (Nat.add n m) s)) (and (small S.next) (vs.all scalar))))) with
       | true => writeS S b .dead fun S => allocS S (.cells (putCells c (Nat.mul n s) vs) d (Nat.mul (Nat.add n m) s) true e) fun b' S => forceN (Nat.add n m) fun l => K (.slc b' 0 l s) S
       | false => none
     | _ => none
 | _ => none
noncomputable def appendA (S : AState) (s bs : Nat) (e : TypeId) (z : Option (List AVal)) (x y : AVal) (K : AVal → AState → Option R) : Option R := match appVals S s z y with
 | some p => appendB S s bs e x p.1 p.2 K
 | none => none
theorem loadCells_any {c : T AVal} {d : AVal} {n N B : Nat} {wr : Bool} {e : TypeId} {obj : Obj} {w : World} (ho : w.heap[B]? = some obj) (hb : BRel E.P E.comp f N (.cells c d n wr e) obj) {i k : Nat} (hk : i + k ≤ n) :
   ∃ vs : List Value, (∀ w1 : World, w1.heap = w.heap → (loadCells ⟨B, i, none⟩ k).run E.P w1 = .ok vs.toArray w1) ∧ VRels f (readCells c d i k) vs ∧ vs.length = k := by
 obtain ⟨cs, fr, rfl, hs, hr⟩ := readCells_rel hb hk
 have hl := hr.length
 rw [readCells_length] at hl
 refine ⟨_, fun w1 hw1 => ?_, hr, hl.symm⟩
 have ho1 : w1.heap[B]? = some (.cells cs e fr) := by rw [hw1]; exact ho
 have := run_loadCells_list (P := E.P) w1 ⟨B, i, none⟩ ((cs.toList.drop i).take k) (fun j v hv => by
   rw [add_plain]
   have hj : j < k := by
     rcases Nat.lt_or_ge j k with h | h
     · exact h
     · rw [List.getElem?_eq_none (by rw [← hl]; exact h)] at hv; cases hv
   rw [List.getElem?_take_of_lt hj, List.getElem?_drop, Array.getElem?_toList] at hv
   exact cell_at ho1 hv)
 rwa [← hl] at this
theorem append_ok {c : Call} {x y : Operand} (ho : o.op = .call c) (hc : c.callee = .builtin .append) (hargs : c.args = #[x, y]) {t e : TypeId} (h0 : c.argTypes[0]? = some t) (h1 : E.P.underlying t = some (.slice e)) {s : Nat} (hs : sizeA E.P e = some s) {zc : List AVal} (hzc : zeroA E.P e = some zc) (hzl : zc.length = s)
   {z : Option (List AVal)} (hmk : isMakeT E.P c.argTypes[1]? = some z.isSome) (hz : ∀ zl, z = some zl → zl = zc) {bs : Nat} (hby : (E.P.info? e).map (·.bytes) = some bs) (hb1 : 0 < bs) (hb2 : bs ≤ 10000) {a b : AVal} {K : AVal → AState → Option R} (hA : appendA S s bs e z a b K = some r) :
   EffOk E S K r (fun f ρ => VRel f a (ρ x) ∧ VRel f b (ρ y)) o := by
 have hexec : ∀ (ρ : Operand → Value) (w : World), (execOp ρ o).run E.P w = ((Builtin.append_ c.argTypes o.type #[ρ x, ρ y]).run E.P w).andThen fun v w' => .ok (.value v) w' := by
   intro ρ w
   simp [execOp, ho, resolve, hc, hargs, invoke, builtin]
 unfold appendA at hA
 split at hA
 case h_2 => cases hA
 rename_i p hp
 obtain ⟨m, vs⟩ := p
 replace hA : appendB S s bs e a m vs K = some r := hA
 unfold appendB at hA
 split at hA
 · -- onto nil
   split at hA
   · refine ⟨_, _, hA, (by first | exact AStep.refl _ | exact AStep.write (by assumption) trivial | exact AStep.alloc _ trivial | exact (AStep.write (blk := ABlock.dead) (by assumption) trivial).trans (AStep.alloc (ABlock.cells _ _ _ _ _) trivial)), fun M f w ρ h hM ⟨hx, hy⟩ => ?_⟩
     have hx : ρ x = .slice none 0 0 := hx
     obtain ⟨hl, hlen, hmkv, us, hus, hrun⟩ := appVals_ok h hs (fun zl hzl' => by rw [hz zl hzl']; exact ⟨hzc, hzl⟩) hy hp
     refine ⟨.slice none 0 0, f, w, .inl ?_, Step.refl h, rfl⟩
     have := run_append_room (w := w) (ty := o.type) (base := none) (len := 0) (cap := 0) h0 h1 hs hmk hby (x := ρ y) (fun hzf => hlen (by cases z with | none => rfl | some => cases hzf)) (fun hzt => by obtain ⟨k, h1, h2⟩ := hmkv hzt; exact ⟨k, h1, by omega, by omega⟩) (Nat.le_refl _) (hrun w rfl)
     rw [hexec, hx, this]
     rfl
   · rename_i m'
     split at hA
     case h_2 => cases hA
     rename_i hcond
     rw [Bool.and_eq_true] at hcond
     obtain ⟨hsm1, hsm2⟩ := hcond
     have hsm1 : (m' + 1) * bs ≤ 1000000000 := small_lt hsm1
     obtain ⟨hnx, hK⟩ := allocS_eq hA
     refine ⟨_, _, hK, (by first | exact AStep.refl _ | exact AStep.write (by assumption) trivial | exact AStep.alloc _ trivial | exact (AStep.write (blk := ABlock.dead) (by assumption) trivial).trans (AStep.alloc (ABlock.cells _ _ _ _ _) trivial)), fun M f w ρ h hM ⟨hx, hy⟩ => ?_⟩
     have hM : S.next < M := hM
     have hx : ρ x = .slice none 0 0 := hx
     obtain ⟨hl, hlen, hmkv, us, hus, hrun⟩ := appVals_ok h hs (fun zl hzl' => by rw [hz zl hzl']; exact ⟨hzc, hzl⟩) hy hp
     obtain ⟨zv, hzv, hzr⟩ := r_zero hzc
     have hzs : zv.cells.size = s := by have := (hzr f).length; simp at this; omega
     have hul := hus.length
     have hgrow := run_append_grow (w := w) (ty := o.type) (base := none) (len := 0) (cap := 0) h0 h1 hs hmk hby hb1 hb2 (x := ρ y) (fun hzf => hlen (by cases z with | none => rfl | some => cases hzf)) (fun hzt => by obtain ⟨k, h1, h2⟩ := hmkv hzt; exact ⟨k, h1, by omega, by omega⟩) (by omega) (by rw [Nat.zero_add]; exact hsm1) (old := []) (by rfl) (hrun w.drew rfl) hzv
     have hcap := capOf_le w (0 + (m' + 1)) 0 e
     generalize hcq : capOf w (0 + (m' + 1)) 0 e = cq at hgrow hcap
     have hsize : (([] : List Value).toArray ++ us.toArray ++ Builtin.zeroCells zv.cells (cq - (0 + (m' + 1)))).size = cq * s := by
       simp only [Array.size_append, List.size_toArray, List.length_nil, Builtin.zeroCells, Array.size_map, Array.size_range, hzs, ← hul, hl]
       rw [Nat.zero_add, Nat.zero_add, ← Nat.add_mul]; congr 1; omega
     refine ⟨.slice (some ⟨w.heap.size, 0, none⟩) (0 + (m' + 1)) cq, upd f S.next (w.heap.size, cq * s), _, .inl ?_, Step.alloc h hnx hM (w' := w.drew.alloc (.cells (([] : List Value).toArray ++ us.toArray ++ Builtin.zeroCells zv.cells (cq - (0 + (m' + 1)))) e)) rfl rfl rfl rfl ?_, ?_⟩
     · rw [hexec, hx, hgrow]; rfl
     · intro g hg hid
       refine ⟨_, 0, 0, rfl, hsize, ?_, fun _ => .inl rfl, fun i hi => ?_⟩
       · rw [hl]; exact Nat.mul_le_mul_right _ (by omega)
       · have hvs := small_lt hsm2
         obtain ⟨u, hu, hr⟩ := (hus.mono hg).get (i := i) (a := vs[i]'hi) (by simp)
         refine ⟨u, ?_, ?_⟩
         · rw [Array.getElem?_append_left (by simp; omega)]
           simpa using hu
         · rw [getCell_eq, putCells_get _ _ _ _ (by omega), if_pos (by omega), Nat.sub_zero]
           simpa [hi] using hr
     · refine ⟨w.heap.size, cq * s, cq, 0, upd_same .., by omega, by omega, .inl rfl, by rw [Nat.zero_add]⟩
 · rename_i b' off n s'
   split at hA
   · refine ⟨_, _, hA, (by first | exact AStep.refl _ | exact AStep.write (by assumption) trivial | exact AStep.alloc _ trivial | exact (AStep.write (blk := ABlock.dead) (by assumption) trivial).trans (AStep.alloc (ABlock.cells _ _ _ _ _) trivial)), fun M f w ρ h hM ⟨hx, hy⟩ => ?_⟩
     obtain ⟨hl, hlen, hmkv, us, hus, hrun⟩ := appVals_ok h hs (fun zl hzl' => by rw [hz zl hzl']; exact ⟨hzc, hzl⟩) hy hp
     obtain ⟨B, N, cap, p, hf, hlc, hcn, hpo, hx⟩ := hx
     refine ⟨.slice (some ⟨B, p, none⟩) n cap, f, w, .inl ?_, Step.refl h, ⟨B, N, cap, p, hf, hlc, hcn, hpo, rfl⟩⟩
     have hus0 : us = [] := by
       have := hus.length
       rw [hl, Nat.zero_mul] at this
       exact List.eq_nil_of_length_eq_zero this.symm
     have := run_append_room (w := w) (ty := o.type) (base := some ⟨B, p, none⟩) (len := n) (cap := cap) h0 h1 hs hmk hby (x := ρ y) (fun hzf => hlen (by cases z with | none => rfl | some => cases hzf)) (fun hzt => by obtain ⟨k, h1, h2⟩ := hmkv hzt; exact ⟨k, h1, by omega, by omega⟩) (by omega) (hrun w rfl)
     rw [hexec, hx, this, hus0]
     rfl
   · rename_i m'
     split at hA
     case h_2 => cases hA
     rename_i c' d k wr e' hg
     split at hA
     case h_2 => cases hA
     rename_i hcond
     simp only [Bool.and_eq_true, Nat.beq_eq, Nat.ble_eq] at hcond
     obtain ⟨⟨rfl, rfl, rfl, rfl⟩, hk, hsm1, hsm2, hsm3, hall⟩ := hcond
     have hk : n * s ≤ k := hk
     have hsm1 : (n + (m' + 1)) * bs ≤ 1000000000 := small_lt hsm1
     have hsm2 : (n + (m' + 1)) * s ≤ 1000000000 := small_lt hsm2
     have hsm3 := small_lt hsm3
     rw [writeS_eq] at hA
     obtain ⟨hnx, hK⟩ := allocS_eq hA
     rw [forceN_eq] at hK
     refine ⟨_, _, hK, (by first | exact AStep.refl _ | exact AStep.write (by assumption) trivial | exact AStep.alloc _ trivial | exact (AStep.write (blk := ABlock.dead) (by assumption) trivial).trans (AStep.alloc (ABlock.cells _ _ _ _ _) trivial)), fun M f w ρ h hM ⟨hx, hy⟩ => ?_⟩
     have hM : S.next < M := hM
     obtain ⟨hl, hlen, hmkv, us, hus, hrun⟩ := appVals_ok h hs (fun zl hzl' => by rw [hz zl hzl']; exact ⟨hzc, hzl⟩) hy hp
     obtain ⟨zv, hzv, hzr⟩ := r_zero hzc
     have hzs : zv.cells.size = s := by have := (hzr f).length; simp at this; omega
     have hul := hus.length
     have hl : vs.length = (m' + 1) * s := hl
     obtain ⟨B, N, cap, p, hf, hlc, hcn, hpo, hx⟩ := hx
     obtain ⟨obj, hobj, hb⟩ := h.blk b' _ hg B N hf
     have hkill := Step.kill h hsm3 hg
     have hms : (m' + 1) * s + n * s = (n + (m' + 1)) * s := by rw [← Nat.add_mul]; congr 1; omega
     have hbn : b' < S.next := by
       rcases Nat.lt_or_ge b' S.next with h1 | h1
       · exact h1
       · rw [show S.heap.get b' = none from h.none b' h1] at hg; cases hg
     have hdead : (T.put ABlock.dead 40 S.heap b').get b' = some .dead := T.get_put_same _ _ _ _ (by omega)
     have hcell : ∀ (g : Inj) (hg' : f.le g) (cs : Array Value) (i : Nat), i < (n + (m' + 1)) * s → (∀ j, j < n * s → ∃ v, cs[j]? = some v ∧ VRel g (getCell c' d j) v) → (∀ j, j < (m' + 1) * s → cs[n * s + j]? = us[j]?) →
         ∃ v, cs[i]? = some v ∧ VRel g (getCell (putCells c' (n * s) vs) d i) v := by
       intro g hg' cs i hi hold hnew
       rw [getCell_eq, putCells_get _ _ _ _ (by omega)]
       by_cases hin : n * s ≤ i ∧ i < n * s + vs.length
       · rw [if_pos hin]
         obtain ⟨u, hu, hr⟩ := (hus.mono hg').get (i := i - n * s) (a := vs[i - n * s]'(by omega)) (by simp)
         refine ⟨u, ?_, ?_⟩
         · have := hnew (i - n * s) (by omega)
           rw [show n * s + (i - n * s) = i by omega] at this
           rw [this]; exact hu
         · simpa [show i - n * s < vs.length by omega] using hr
       · rw [if_neg hin, ← getCell_eq]
         exact hold i (by omega)
     by_cases hroom : n + (m' + 1) ≤ cap
     · -- in its place
       obtain rfl : p = 0 := by rcases hpo with h1 | h1 <;> omega
       have hcap : (n + (m' + 1)) * s ≤ cap * s := Nat.mul_le_mul_right _ hroom
       obtain ⟨cs, lo, hi, rfl, hsz, hkN, hfr, hcells⟩ := hb
       have hroomrun := run_append_room (w := w) (ty := o.type) (base := some ⟨B, 0, none⟩) (len := n) (cap := cap) h0 h1 hs hmk hby (x := ρ y) (fun hzf => hlen (by cases z with | none => rfl | some => cases hzf)) (fun hzt => by
         obtain ⟨k, h1, h2⟩ := hmkv hzt
         refine ⟨k, h1, ?_, by omega⟩
         exact Nat.le_trans (Nat.mul_le_mul_right _ (by omega : m'.succ ≤ n + (m' + 1))) hsm1) hroom (hrun w rfl)
       have hsc : ∀ v ∈ us, v.oneCell' = true := scalars_rel hus hall
       have hst := run_storeCells (P := E.P) (B := B) (o := n * s) us 0 cs w hobj (by omega) (fun j h1 h2 => by rcases hfr rfl with h3 | h3 <;> omega) hsc
       have hadopt := Step.adopt (f := f) hkill.sim hsm3 hM (b := b') (B := B) (N := N) hf (by omega) hdead (fun hlt => (addLog_self (S := S.v) hlt : b' ∈ addLog S.v b')) (h.base b' _ B N hf hg rfl)
         (fun q K hq hne hlive => hne (h.inj q b' B K N hq hf (fun blk hb' => hlive blk (by show (T.put ABlock.dead 40 S.heap b').get q = _; rw [T.get_put_other _ _ _ _ _ (Ne.symm hne)]; exact hb')) (fun blk hb' => by rw [show S.v.get b' = _ from hg] at hb'; cases hb'; rfl)))
         (blk := .cells (putCells c' (n * s) vs) d ((n + (m' + 1)) * s) true e) (obj := .cells (setCells cs (n * s) us) e (lo, hi)) (w' := World.setObjAt w B (.cells (setCells cs (n * s) us) e (lo, hi))) rfl rfl rfl rfl (fun g hg' => by
           refine ⟨_, lo, hi, rfl, by rw [setCells_size]; exact hsz, by omega, fun _ => hfr rfl, fun i hi => ?_⟩
           refine hcell g hg' _ i hi (fun j hj => ?_) (fun j hj => ?_)
           · rw [setCells_get _ _ _ _ (by omega), if_neg (by omega)]
             obtain ⟨v, hv, hr⟩ := hcells j (by omega)
             exact ⟨v, hv, hr.mono hg'⟩
           · rw [setCells_get _ _ _ _ (by omega), if_pos (by omega)]
             congr 1; omega)
       refine ⟨.slice (some ⟨B, 0, none⟩) (n + (m' + 1)) cap, _, _, .inl ?_, hkill.trans hadopt, ⟨B, N, cap, 0, upd_same .., hroom, hcn, .inl rfl, rfl⟩⟩
       rw [hexec, hx, hroomrun]
       simp only [add_plain, Nat.zero_add]
       rw [Nat.add_zero] at hst
       rw [hst]
       rfl
     · -- elsewhere
       obtain ⟨old, hold, horel, holen⟩ : ∃ vs : List Value, (∀ w1 : World, w1.heap = w.heap → (loadCells ⟨B, p, none⟩ (n * s)).run E.P w1 = .ok vs.toArray w1) ∧ VRels f (readCells c' d 0 (n * s)) vs ∧ vs.length = n * s := by
         rcases hpo with rfl | rfl
         · exact loadCells_any hobj hb (by omega)
         · obtain rfl : n = 0 := by omega
           rw [Nat.zero_mul]
           exact ⟨[], fun _ _ => rfl, rfl, rfl⟩
       have hgrow := run_append_grow (w := w) (ty := o.type) (base := some ⟨B, p, none⟩) (len := n) (cap := cap) h0 h1 hs hmk hby hb1 hb2 (x := ρ y) (fun hzf => hlen (by cases z with | none => rfl | some => cases hzf)) (fun hzt => by
         obtain ⟨k, h1, h2⟩ := hmkv hzt
         refine ⟨k, h1, ?_, by omega⟩
         exact Nat.le_trans (Nat.mul_le_mul_right _ (by omega : m'.succ ≤ n + (m' + 1))) hsm1) hroom hsm1 (old := old) (by simp only [Builtin.firstCells]; exact hold _ rfl) (hrun w.drew rfl) hzv
       have hcap := capOf_le w (n + (m' + 1)) cap e
       generalize hcq : capOf w (n + (m' + 1)) cap e = cq at hgrow hcap
       have hcqs : (n + (m' + 1)) * s ≤ cq * s := Nat.mul_le_mul_right _ hcap
       have hsize : (old.toArray ++ us.toArray ++ Builtin.zeroCells zv.cells (cq - (n + (m' + 1)))).size = cq * s := by
         simp only [Array.size_append, List.size_toArray, Builtin.zeroCells, Array.size_map, Array.size_range, hzs, ← hul, hl, holen]
         have : cq * s = (n + (m' + 1)) * s + (cq - (n + (m' + 1))) * s := by rw [← Nat.add_mul]; congr 1; omega
         omega
       refine ⟨.slice (some ⟨w.heap.size, 0, none⟩) (n + (m' + 1)) cq, upd f S.next (w.heap.size, cq * s), _, .inl ?_, hkill.trans (Step.alloc hkill.sim hsm3 hM (w' := w.drew.alloc (.cells (old.toArray ++ us.toArray ++ Builtin.zeroCells zv.cells (cq - (n + (m' + 1)))) e)) rfl rfl rfl rfl ?_), ⟨_, _, cq, 0, upd_same .., hcap, by omega, .inl rfl, rfl⟩⟩
       · rw [hexec, hx, hgrow]; rfl
       · intro g hg' hid
         refine ⟨_, 0, 0, rfl, hsize, hcqs, fun _ => .inl rfl, fun i hi => ?_⟩
         refine hcell g hg' _ i hi (fun j hj => ?_) (fun j hj => ?_)
         · obtain ⟨v, hv, hr⟩ := (horel.mono hg').get (i := j) (a := getCell c' d j) (by rw [readCells_get _ _ _ _ _ hj, Nat.zero_add])
           refine ⟨v, ?_, hr⟩
           rw [Array.getElem?_append_left (by simp; omega), Array.getElem?_append_left (by simp; omega)]
           simpa using hv
         · rw [Array.getElem?_append_left (by simp; omega), Array.getElem?_append_right (by simp; omega)]
           simp [holen]
 · cases hA
end
end Abs
end Go.Proofs.YtfkchheildfkpaaGreatDoor.Refl
namespace Go.Proofs.YtfkchheildfkpaaGreatDoor.Refl
open Go Go.RowKit
namespace Abs
set_option linter.unusedVariables false
set_option linter.unusedSimpArgs false
section
variable {E : Env} {M : Nat} {f : Inj} {S : AState} {w : World} {o : Oper} {R : Type} {r : R}
def srcLen (y : AVal) : Option Nat := match y with
 | .slc0 => some 0
 | .slc _ _ n _ => some n
 | .str n _ => some n
 | _ => none
noncomputable def srcVals (S : AState) (s m : Nat) (y : AVal) : Option (List AVal) := match y with
 | .slc b o _ s' => match S.heap.get b with
   | some (.cells c d k _ _) => match and (Nat.beq s s') (Nat.ble (Nat.add o (Nat.mul m s)) k) with
     | true => some (readCells c d o (Nat.mul m s))
     | false => none
   | _ => none
 | .str n x => match Nat.beq s 1 with
   | true => some ((strCells n x).take m)
   | false => none
 | _ => none
noncomputable def copyA (S : AState) (s : Nat) (x y : AVal) (K : AVal → AState → Option R) : Option R := match srcLen y with
 | none => none
 | some n => match x with
   | .slc0 => K (.int .i64 0) S
   | .slc b o k s' => match Nat.min n k with
     | 0 => K (.int .i64 0) S
     | m + 1 => match and (Nat.beq s s') (small k) with
       | true => match srcVals S s (m + 1) y with
         | some vs => match Nat.beq vs.length (Nat.mul (m + 1) s) with
           | true => writeCells S b o vs (K (.int .i64 (.ofNat (m + 1))))
           | false => none
         | none => none
       | false => none
   | _ => none
theorem copy_ok {c : Call} {x y : Operand} (ho : o.op = .call c) (hc : c.callee = .builtin .copy) (hargs : c.args = #[x, y]) {t e : TypeId} (h0 : c.argTypes[0]? = some t) (h1 : E.P.underlying t = some (.slice e)) {s : Nat} (hs : sizeA E.P e = some s) {a b : AVal} {K : AVal → AState → Option R} (hA : copyA S s a b K = some r) :
   EffOk E S K r (fun f ρ => VRel f a (ρ x) ∧ VRel f b (ρ y)) o := by
 have hexec : ∀ (ρ : Operand → Value) (w : World), (execOp ρ o).run E.P w = ((Builtin.copy_ c.argTypes o.type #[ρ x, ρ y]).run E.P w).andThen fun v w' => .ok (.value v) w' := by
   intro ρ w
   simp [execOp, ho, resolve, hc, hargs, invoke, builtin]
 have hcopy : ∀ (w w' : World) (base : Option Addr) (k cap n : Nat) (v : Value) (us : List Value), (Builtin.lenOf v).run E.P w = .ok n w → (Builtin.firstCells s (Nat.min n k) v).run E.P w = .ok us.toArray w →
     ((match base with | some a => storeCells a us | none => pure () : Sem Unit).run E.P w = .ok () w') → (Builtin.copy_ c.argTypes o.type #[.slice base k cap, v]).run E.P w = .ok (.int .i64 (Nat.min n k : Nat)) w' := by
   intro w w' base k cap n v us hl hf hst
   simp only [Builtin.copy_, h0, List.getElem?_toArray, List.getElem?_cons_zero, List.getElem?_cons_succ, Sem.run_bind, r_und h1, Result.andThen_ok, hl, r_size hs, hf]
   cases base with
   | none => cases hst; rfl
   | some a => simp only [Sem.run_bind, hst, Result.andThen_ok, Sem.run_pure]; rfl
 have hlen : ∀ (f : Inj) (v : Value) (n : Nat), srcLen b = some n → VRel f b v → ∀ w, (Builtin.lenOf v).run E.P w = .ok n w := by
   intro f v n hn hv w
   unfold srcLen at hn
   split at hn <;> cases hn
   · cases hv; simp [Builtin.lenOf]
   · obtain ⟨B, N, cap, p, _, _, _, _, rfl⟩ := hv; simp [Builtin.lenOf]
   · obtain ⟨str, rfl, hs'⟩ := hv
     have : str.size = n := by obtain ⟨rfl, _⟩ := hs'; simp
     simp [Builtin.lenOf, this]
 have hzero : ∀ (f : Inj) (v : Value) (n : Nat), srcLen b = some n → VRel f b v → ∀ w, (Builtin.firstCells s 0 v).run E.P w = .ok ([] : List Value).toArray w := by
   intro f v n hn hv w
   unfold srcLen at hn
   split at hn <;> cases hn
   · cases hv; rfl
   · obtain ⟨B, N, cap, p, _, _, _, _, rfl⟩ := hv
     simp only [Builtin.firstCells, Nat.zero_mul]; rfl
   · obtain ⟨str, rfl, hs'⟩ := hv
     simp only [Builtin.firstCells, Sem.run_pure]
     congr 1
     apply Array.ext'
     simp [ByteArray.data_extract]
 unfold copyA at hA
 split at hA
 · cases hA
 rename_i n hn
 split at hA
 · refine ⟨_, _, hA, (by first | exact AStep.refl _ | exact AStep.write (by assumption) trivial | exact AStep.alloc _ trivial | exact (AStep.write (blk := ABlock.dead) (by assumption) trivial).trans (AStep.alloc (ABlock.cells _ _ _ _ _) trivial)), fun M f w ρ h hM ⟨hx, hy⟩ => ?_⟩
   have hx : ρ x = .slice none 0 0 := hx
   have hm : Nat.min n 0 = 0 := Nat.min_zero n
   have := hcopy w w none 0 0 n (ρ y) [] (hlen f _ n hn hy w) (by rw [hm]; exact hzero f _ n hn hy w) rfl
   exact ⟨.int .i64 0, f, w, .inl (by rw [hexec, hx, this, hm]; rfl), Step.refl h, rfl⟩
 · rename_i b' off k s'
   split at hA
   · rename_i hm
     refine ⟨_, _, hA, (by first | exact AStep.refl _ | exact AStep.write (by assumption) trivial | exact AStep.alloc _ trivial | exact (AStep.write (blk := ABlock.dead) (by assumption) trivial).trans (AStep.alloc (ABlock.cells _ _ _ _ _) trivial)), fun M f w ρ h hM ⟨hx, hy⟩ => ?_⟩
     obtain ⟨B, N, cap, p, hf, hlc, hcn, hp, hx⟩ := hx
     have := hcopy w w (some ⟨B, p, none⟩) k cap n (ρ y) [] (hlen f _ n hn hy w) (by rw [hm]; exact hzero f _ n hn hy w) rfl
     exact ⟨.int .i64 0, f, w, .inl (by rw [hexec, hx, this, hm]; rfl), Step.refl h, rfl⟩
   · rename_i m hm
     split at hA
     case h_2 => cases hA
     rename_i hcond
     rw [Bool.and_eq_true, Nat.beq_eq] at hcond
     obtain ⟨rfl, _⟩ := hcond
     split at hA
     case h_2 => cases hA
     rename_i vs hvs
     split at hA
     case h_2 => cases hA
     rename_i hvl
     rw [Nat.beq_eq] at hvl
     have hvl : vs.length = (m + 1) * s := hvl
     obtain ⟨_, S', hK, hnx, hgo⟩ := writeCells_ok (E := E) hA
     refine ⟨_, S', hK, hnx.2, fun M f w ρ h hM ⟨hx, hy⟩ => ?_⟩
     obtain ⟨B, N, cap, p, hf, hlc, hcn, hp, hx⟩ := hx
     have hmk : m + 1 ≤ k ∧ m + 1 ≤ n := by
       have h1 := Nat.min_le_left n k
       have h2 := Nat.min_le_right n k
       have h3 : min n k = m + 1 := hm
       omega
     obtain rfl : p = off := by rcases hp with h1 | h1 <;> omega
     obtain ⟨us, hus, hrun⟩ : ∃ us : List Value, VRels f vs us ∧ (Builtin.firstCells s (m + 1) (ρ y)).run E.P w = .ok us.toArray w := by
       unfold srcVals at hvs
       split at hvs
       · rename_i b2 o2 n2 s2 _
         split at hvs
         case h_2 => cases hvs
         rename_i c2 d2 k2 wr2 e2 hg2
         split at hvs
         case h_2 => cases hvs
         rename_i hc2
         rw [Bool.and_eq_true, Nat.beq_eq, Nat.ble_eq] at hc2
         obtain ⟨rfl, hle⟩ := hc2
         cases hvs
         cases hn
         obtain ⟨B2, N2, cap2, p2, hf2, hlc2, hcn2, hp2, hy⟩ := hy
         obtain rfl : p2 = o2 := by rcases hp2 with h1 | h1 <;> omega
         obtain ⟨obj, hobj, hb⟩ := h.blk b2 _ hg2 B2 N2 hf2
         obtain ⟨us, hr, hrel, _⟩ := loadCells_any hobj hb (i := p2) (k := (m + 1) * s) hle
         exact ⟨us, hrel, by rw [hy]; simp only [Builtin.firstCells]; exact hr w rfl⟩
       · rename_i n2 x2
         split at hvs
         case h_2 => cases hvs
         rename_i hs1
         rw [Nat.beq_eq] at hs1
         subst hs1
         cases hvs
         obtain ⟨str, hy, hstr⟩ := hy
         refine ⟨_, (strCells_rel hstr).take (m + 1), ?_⟩
         rw [hy]
         simp only [Builtin.firstCells, Sem.run_pure]
         congr 1
         apply Array.ext'
         simp [ByteArray.data_extract, List.extract_eq_take_drop, List.map_take]
       · cases hvs
     obtain ⟨w', hst, hstep⟩ := hgo M f w B N us h (by omega) hf hus
     have := hcopy w w' (some ⟨B, p, none⟩) k cap n (ρ y) us (hlen f _ n hn hy w) (by rw [hm]; exact hrun) hst
     exact ⟨.int .i64 ((m + 1 : Nat) : Int), f, w', .inl (by rw [hexec, hx, this, hm]; rfl), hstep, rfl⟩
 · cases hA
theorem findNow_key {d : TypeDesc} {u : Value} : ∀ {ms : List MapEntry} {i j : Nat} {v : Value}, Instr.findNow d u ms i = some (some (j, v)) → i ≤ j ∧ ∃ e, ms[j - i]? = some e ∧ Instr.sameNow d u e.key = some true
 | [], i, j, v, h => by simp [Instr.findNow] at h
 | e :: ms, i, j, v, h => by
   rw [Instr.findNow] at h
   split at h
   · rename_i hs
     simp only [Option.some.injEq, Prod.mk.injEq] at h
     obtain ⟨rfl, rfl⟩ := h
     exact ⟨Nat.le_refl _, e, by simp, hs⟩
   · obtain ⟨h1, e', h2, h3⟩ := findNow_key h
     refine ⟨by omega, e', ?_, h3⟩
     rw [show j - i = (j - (i + 1)) + 1 by omega, List.getElem?_cons_succ]
     exact h2
   · cases h
theorem sameBits_of {d : TypeDesc} {u v : Value} (h : Instr.sameNow d u v = some true) (n : Nat) : Instr.sameBits n v u = true := by
 unfold Instr.sameNow at h
 split at h
 · rename_i k a k' b
   split at h
   · rename_i hk
     subst hk
     simp only [Option.some.injEq, beq_iff_eq] at h
     subst h
     cases n <;> simp [Instr.sameBits]
   · cases h
 · rename_i a b
   simp only [Option.some.injEq] at h
   have : (b == a) = true := by
     rw [beq_toListBytes] at h ⊢
     rw [beq_iff_eq] at h ⊢
     exact h.symm
   cases n <;> simp [Instr.sameBits, this]
 · rename_i a b
   simp only [Option.some.injEq, beq_iff_eq] at h
   subst h
   cases n <;> simp [Instr.sameBits]
 · cases h
theorem EntriesRel.set {es : List (AVal × AVal × Nat)} {ms : List MapEntry} (h : EntriesRel f es ms) {k v : AVal} {key val : Value} (hk : VRel f k key) (hv : VRel f v val) : ∀ i, EntriesRel f (es.modify i fun e => (k, v, e.2.2)) (ms.modify i fun e => { e with key, val }) := by
 intro i
 induction i generalizing es ms with
 | zero =>
   cases es with
   | nil => cases h; rfl
   | cons e es =>
     obtain ⟨m, ms', rfl, ⟨h1, h2, h3⟩, h4⟩ := h
     exact ⟨_, _, rfl, ⟨hk, hv, h3⟩, h4⟩
 | succ i ih =>
   cases es with
   | nil => cases h; rfl
   | cons e es =>
     obtain ⟨m, ms', rfl, h1, h4⟩ := h
     exact ⟨_, _, rfl, h1, ih h4⟩
theorem EntriesRel.snoc : ∀ {es : List (AVal × AVal × Nat)} {ms : List MapEntry}, EntriesRel f es ms → ∀ {a : AVal × AVal × Nat} {e : MapEntry}, EntryRel f a e → EntriesRel f (es ++ [a]) (ms ++ [e])
 | [], _, h, a, e, he => by cases h; exact ⟨e, [], rfl, he, rfl⟩
 | _ :: _, _, ⟨m, ms', e1, h1, h2⟩, a, e, he => by subst e1; exact ⟨m, ms' ++ [e], rfl, h1, h2.snoc he⟩
theorem EntriesRel.eraseIdx : ∀ {es : List (AVal × AVal × Nat)} {ms : List MapEntry}, EntriesRel f es ms → ∀ i, EntriesRel f (es.eraseIdx i) (ms.eraseIdx i)
 | [], _, h, _ => by cases h; simp [EntriesRel]
 | _ :: _, _, ⟨m, ms', e1, h1, h2⟩, 0 => by subst e1; exact h2
 | _ :: _, _, ⟨m, ms', e1, h1, h2⟩, i + 1 => by subst e1; exact ⟨m, _, rfl, h1, h2.eraseIdx i⟩
noncomputable def mapUpdateA (S : AState) (d : TypeDesc) (m k v : AVal) (K : AVal → AState → Option R) : Option R := match m with
 | .map b => match S.heap.get b with
   | some (.map es cl) => match and (keyOk d k) (small S.next) with
     | true => findA k es fun x => match x with
       | some p => writeS S b (.map (es.modify p.1 fun e => (k, v, e.2.2)) cl) (K undefA)
       | none => writeS S b (.map (es ++ [(k, v, cl)]) (Nat.succ cl)) (K undefA)
     | false => none
   | _ => none
 | _ => none
theorem run_getObj {P : Program} {B : Nat} {ms : Array MapEntry} {cl : Nat} (h : w.heap[B]? = some (.map ms cl)) : (getObj B).run P w = .ok (.map ms cl) w := by simp only [getObj, Sem.run, h]
theorem run_setObj {P : Program} {B : Nat} {ms : Array MapEntry} {cl : Nat} (h : w.heap[B]? = some (.map ms cl)) (o : Obj) : (setObj B o).run P w = .ok () (World.setObjAt w B o) := by simp only [setObj, Sem.run, h]; rfl
theorem findA_bind {k : AVal} : ∀ (es : List (AVal × AVal × Nat)) (K : Option (Nat × AVal) → Option R), findA k es K = (findA k es some).bind K := by
 have key : ∀ (es : List (AVal × AVal × Nat)) (i : Nat) (K : Option (Nat × AVal) → Option R),
     (List.rec (motive := fun _ => Nat → Option R) (fun _ => K none) (fun e _ ih i => match sameKey k e.1 with
       | some true => K (some (i, e.2.1))
       | some false => ih (Nat.succ i)
       | none => none) es i : Option R) =
     (List.rec (motive := fun _ => Nat → Option (Option (Nat × AVal))) (fun _ => some none) (fun e _ ih i => match sameKey k e.1 with
       | some true => some (some (i, e.2.1))
       | some false => ih (Nat.succ i)
       | none => none) es i : Option (Option (Nat × AVal))).bind K := by
   intro es
   induction es with
   | nil => intro i K; rfl
   | cons e es ih =>
     intro i K
     dsimp only
     split
     · rfl
     · exact ih _ K
     · rfl
 exact fun es K => key es 0 K
theorem mapUpdate_ok {t key e : TypeId} {x y z : Operand} (ho : o.op = .mapUpdate t x y z ∨ o.op = .insert t x y z) (h1 : E.P.underlying t = some (.map key e)) {d : TypeDesc} (h2 : E.P.underlying key = some d) {m k v : AVal} {K : AVal → AState → Option R} (hA : mapUpdateA S d m k v K = some r) :
   EffOk E S K r (fun f ρ => VRel f m (ρ x) ∧ VRel f k (ρ y) ∧ VRel f v (ρ z)) o := by
 have hexec : ∀ (ρ : Operand → Value) (w w' : World), (Instr.mapUpdate t (ρ x) (ρ y) (ρ z)).run E.P w = .ok () w' → (execOp ρ o).run E.P w = .ok .skip w' := by
   intro ρ w w' h
   rcases ho with ho | ho <;> simp only [execOp, ho, Sem.run_bind, h, Result.andThen_ok, Sem.run_pure]
 unfold mapUpdateA at hA
 split at hA
 case h_2 => cases hA
 rename_i b
 split at hA
 case h_2 => cases hA
 rename_i es cl hg
 split at hA
 case h_2 => cases hA
 rename_i hcond
 rw [Bool.and_eq_true] at hcond
 obtain ⟨hd, hsm⟩ := hcond
 have hck : ∀ b v w, (Instr.checkKey b 10000 key v).run E.P w = .ok () w := fun b v w => run_checkKey (n := 9999) h2 (plainKey_of hd) b v
 rw [findA_bind, Option.bind_eq_some_iff] at hA
 obtain ⟨q, hq, hA⟩ := hA
 cases q with
 | none =>
   rw [writeS_eq] at hA
   refine ⟨_, _, hA, (by first | exact AStep.refl _ | exact AStep.write (by assumption) trivial | exact AStep.alloc _ trivial | exact (AStep.write (blk := ABlock.dead) (by assumption) trivial).trans (AStep.alloc (ABlock.cells _ _ _ _ _) trivial)), fun M f w ρ h hM ⟨hx, hk, hv⟩ => ?_⟩
   obtain ⟨B, N, hf, hx⟩ := hx
   obtain ⟨obj, hobj, ms, rfl, hes⟩ := h.blk b _ hg B N hf
   rcases findA_spec hd hk hes hq with ⟨hfn, _⟩ | ⟨j, a, v', _, hj, _, _⟩
   case inr => cases hj
   refine ⟨undef, f, World.setObjAt w B (.map (ms.push { key := ρ y, val := ρ z, born := cl }) (cl + 1)), .inr ⟨hexec ρ w _ ?_, rfl⟩, Step.write h (small_lt hsm) hM hg rfl rfl hf rfl rfl rfl rfl ⟨_, rfl, ?_⟩, VRel.undef f⟩
   · have hfk : (Instr.findKey key (ρ y) ms.toList).run E.P w = .ok none w := by
       simp only [Instr.findKey, Sem.run_bind, r_und h2, Result.andThen_ok, hfn, Sem.run_pure]
     simp only [Instr.mapUpdate, hx, Sem.run_bind, r_und h1, Result.andThen_ok, run_getObj hobj, hck, hfk, run_setObj hobj]
   · rw [Array.toList_push]
     exact hes.snoc ⟨hk, hv, rfl⟩
 | some p =>
   obtain ⟨i, a⟩ := p
   dsimp only at hA
   rw [writeS_eq] at hA
   refine ⟨_, _, hA, (by first | exact AStep.refl _ | exact AStep.write (by assumption) trivial | exact AStep.alloc _ trivial | exact (AStep.write (blk := ABlock.dead) (by assumption) trivial).trans (AStep.alloc (ABlock.cells _ _ _ _ _) trivial)), fun M f w ρ h hM ⟨hx, hk, hv⟩ => ?_⟩
   obtain ⟨B, N, hf, hx⟩ := hx
   obtain ⟨obj, hobj, ms, rfl, hes⟩ := h.blk b _ hg B N hf
   rcases findA_spec hd hk hes hq with ⟨_, hj⟩ | ⟨j, a', v', hfn, hj, _, hjl⟩
   case inl => cases hj
   cases hj
   obtain ⟨_, e', he', hsn⟩ := findNow_key hfn
   rw [Nat.sub_zero, Array.getElem?_toList] at he'
   refine ⟨undef, f, World.setObjAt w B (.map (ms.modify i fun e => { e with key := ρ y, val := ρ z }) cl), .inr ⟨hexec ρ w _ ?_, rfl⟩, Step.write h (small_lt hsm) hM hg rfl rfl hf rfl rfl rfl rfl ⟨_, rfl, ?_⟩, VRel.undef f⟩
   · have hfk : (Instr.findKey key (ρ y) ms.toList).run E.P w = .ok (some (i, v')) w := by
       simp only [Instr.findKey, Sem.run_bind, r_und h2, Result.andThen_ok, hfn, Sem.run_pure]
     have hkt : (Instr.keyThatStays e'.key (ρ y)).run E.P w = .ok (ρ y) w := by
       simp only [Instr.keyThatStays, sameBits_of hsn, if_true, Sem.run_pure]
     simp only [Instr.mapUpdate, hx, Sem.run_bind, r_und h1, Result.andThen_ok, run_getObj hobj, hck, hfk, he', Option.map_some, Option.getD_some, hkt, run_setObj hobj]
   · rw [Array.toList_modify]
     exact hes.set hk hv i
noncomputable def deleteA (S : AState) (d : TypeDesc) (m k : AVal) (K : AVal → AState → Option R) : Option R := match keyOk d k with
 | true => match m with
   | .map0 => K undefA S
   | .map b => match S.heap.get b with
     | some (.map es cl) => match small S.next with
       | true => findA k es fun x => match x with
         | some p => writeS S b (.map (es.eraseIdx p.1) cl) (K undefA)
         | none => writeS S b (.map es cl) (K undefA)
       | false => none
     | _ => none
   | _ => none
 | false => none
theorem delete_ok {c : Call} {x y : Operand} (ho : o.op = .call c) (hc : c.callee = .builtin .delete) (hargs : c.args = #[x, y]) {t key e : TypeId} (h0 : c.argTypes[0]? = some t) (h1 : E.P.underlying t = some (.map key e)) {d : TypeDesc} (h2 : E.P.underlying key = some d) {m k : AVal} {K : AVal → AState → Option R} (hA : deleteA S d m k K = some r) :
   EffOk E S K r (fun f ρ => VRel f m (ρ x) ∧ VRel f k (ρ y)) o := by
 have hexec : ∀ (ρ : Operand → Value) (w w' : World), (Builtin.delete_ c.argTypes o.type #[ρ x, ρ y]).run E.P w = .ok (.tuple #[]) w' → (execOp ρ o).run E.P w = .ok (.value undef) w' := by
   intro ρ w w' h
   simp [execOp, ho, resolve, hc, hargs, invoke, builtin, h]; rfl
 unfold deleteA at hA
 split at hA
 case h_2 => cases hA
 rename_i hd
 have hck : ∀ b v w, (Instr.checkKey b 10000 key v).run E.P w = .ok () w := fun b v w => run_checkKey (n := 9999) h2 (plainKey_of hd) b v
 split at hA
 · refine ⟨_, _, hA, (by first | exact AStep.refl _ | exact AStep.write (by assumption) trivial | exact AStep.alloc _ trivial | exact (AStep.write (blk := ABlock.dead) (by assumption) trivial).trans (AStep.alloc (ABlock.cells _ _ _ _ _) trivial)), fun M f w ρ h hM ⟨hx, hk⟩ => ?_⟩
   have hx : ρ x = .map none := hx
   exact ⟨undef, f, w, .inl (hexec ρ w w (by simp only [Builtin.delete_, h0, hx, List.getElem?_toArray, List.getElem?_cons_zero, List.getElem?_cons_succ, Sem.run_bind, r_und h1, Result.andThen_ok, hck, Sem.run_pure])), Step.refl h, VRel.undef f⟩
 · rename_i b
   split at hA
   case h_2 => cases hA
   rename_i es cl hg
   split at hA
   case h_2 => cases hA
   rename_i hsm
   rw [findA_bind, Option.bind_eq_some_iff] at hA
   obtain ⟨q, hq, hA⟩ := hA
   cases q with
   | none =>
     dsimp only at hA
     rw [writeS_eq] at hA
     refine ⟨_, _, hA, (by first | exact AStep.refl _ | exact AStep.write (by assumption) trivial | exact AStep.alloc _ trivial | exact (AStep.write (blk := ABlock.dead) (by assumption) trivial).trans (AStep.alloc (ABlock.cells _ _ _ _ _) trivial)), fun M f w ρ h hM ⟨hx, hk⟩ => ?_⟩
     obtain ⟨B, N, hf, hx⟩ := hx
     obtain ⟨obj, hobj, ms, rfl, hes⟩ := h.blk b _ hg B N hf
     rcases findA_spec hd hk hes hq with ⟨hfn, _⟩ | ⟨j, a, v', _, hj, _, _⟩
     case inr => cases hj
     have hfk : (Instr.findKey key (ρ y) ms.toList).run E.P w = .ok none w := by
       simp only [Instr.findKey, Sem.run_bind, r_und h2, Result.andThen_ok, hfn, Sem.run_pure]
     refine ⟨undef, f, World.setObjAt w B (.map ms cl), .inl (hexec ρ w _ ?_), Step.write h (small_lt hsm) hM hg rfl rfl hf rfl rfl rfl rfl ⟨_, rfl, hes⟩, VRel.undef f⟩
     simp only [Builtin.delete_, h0, hx, List.getElem?_toArray, List.getElem?_cons_zero, List.getElem?_cons_succ, Sem.run_bind, r_und h1, Result.andThen_ok, run_getObj hobj, hck, hfk, run_setObj hobj, Sem.run_pure]
   | some p =>
     obtain ⟨i, a⟩ := p
     dsimp only at hA
     rw [writeS_eq] at hA
     refine ⟨_, _, hA, (by first | exact AStep.refl _ | exact AStep.write (by assumption) trivial | exact AStep.alloc _ trivial | exact (AStep.write (blk := ABlock.dead) (by assumption) trivial).trans (AStep.alloc (ABlock.cells _ _ _ _ _) trivial)), fun M f w ρ h hM ⟨hx, hk⟩ => ?_⟩
     obtain ⟨B, N, hf, hx⟩ := hx
     obtain ⟨obj, hobj, ms, rfl, hes⟩ := h.blk b _ hg B N hf
     rcases findA_spec hd hk hes hq with ⟨_, hj⟩ | ⟨j, a', v', hfn, hj, _, hjl⟩
     case inl => cases hj
     cases hj
     have hfk : (Instr.findKey key (ρ y) ms.toList).run E.P w = .ok (some (i, v')) w := by
       simp only [Instr.findKey, Sem.run_bind, r_und h2, Result.andThen_ok, hfn, Sem.run_pure]
     refine ⟨undef, f, World.setObjAt w B (.map (ms.eraseIdxIfInBounds i) cl), .inl (hexec ρ w _ ?_), Step.write h (small_lt hsm) hM hg rfl rfl hf rfl rfl rfl rfl ⟨_, rfl, ?_⟩, VRel.undef f⟩
     · simp only [Builtin.delete_, h0, hx, List.getElem?_toArray, List.getElem?_cons_zero, List.getElem?_cons_succ, Sem.run_bind, r_und h1, Result.andThen_ok, run_getObj hobj, hck, hfk, run_setObj hobj, Sem.run_pure]
     · have : (ms.eraseIdxIfInBounds i).toList = ms.toList.eraseIdx i := by simp
       rw [this]
       exact hes.eraseIdx i
 · cases hA
noncomputable def clearA (S : AState) (z : List AVal) (x : AVal) (K : AVal → AState → Option R) : Option R := match x with
 | .map0 => K undefA S
 | .slc0 => K undefA S
 | .map b => match S.heap.get b with
   | some (.map _ cl) => match small S.next with
     | true => writeS S b (.map [] cl) (K undefA)
     | false => none
   | _ => none
 | .slc b o n s => match n with
   | 0 => K undefA S
   | n + 1 => match Nat.beq s z.length with
     | true => writeCells S b o (copies (n + 1) z) (K undefA)
     | false => none
 | _ => none
theorem clearMap_ok {c : Call} {x : Operand} (ho : o.op = .call c) (hc : c.callee = .builtin .clear) (hargs : c.args = #[x]) {t key e : TypeId} (h0 : c.argTypes[0]? = some t) (h1 : E.P.underlying t = some (.map key e)) {m : AVal} (hm : (∃ b, m = .map b) ∨ m = .map0) {K : AVal → AState → Option R} (hA : clearA S [] m K = some r) :
   EffOk E S K r (fun f ρ => VRel f m (ρ x)) o := by
 have hexec : ∀ (ρ : Operand → Value) (w w' : World), (Builtin.clear_ c.argTypes o.type #[ρ x]).run E.P w = .ok (.tuple #[]) w' → (execOp ρ o).run E.P w = .ok (.value undef) w' := by
   intro ρ w w' h
   simp [execOp, ho, resolve, hc, hargs, invoke, builtin, h]; rfl
 rcases hm with ⟨b, rfl⟩ | rfl
 · simp only [clearA] at hA
   split at hA
   case h_2 => cases hA
   rename_i es cl hg
   split at hA
   case h_2 => cases hA
   rename_i hsm
   rw [writeS_eq] at hA
   refine ⟨_, _, hA, (by first | exact AStep.refl _ | exact AStep.write (by assumption) trivial | exact AStep.alloc _ trivial | exact (AStep.write (blk := ABlock.dead) (by assumption) trivial).trans (AStep.alloc (ABlock.cells _ _ _ _ _) trivial)), fun M f w ρ h hM hx => ?_⟩
   obtain ⟨B, N, hf, hx⟩ := hx
   obtain ⟨obj, hobj, ms, rfl, hes⟩ := h.blk b _ hg B N hf
   refine ⟨undef, f, World.setObjAt w B (.map #[] cl), .inl (hexec ρ w _ ?_), Step.write h (small_lt hsm) hM hg rfl rfl hf rfl rfl rfl rfl ⟨_, rfl, rfl⟩, VRel.undef f⟩
   simp only [Builtin.clear_, h0, hx, List.getElem?_toArray, List.getElem?_cons_zero, Sem.run_bind, r_und h1, Result.andThen_ok, run_getObj hobj, run_setObj hobj, Sem.run_pure]
 · simp only [clearA] at hA
   refine ⟨_, _, hA, (by first | exact AStep.refl _ | exact AStep.write (by assumption) trivial | exact AStep.alloc _ trivial | exact (AStep.write (blk := ABlock.dead) (by assumption) trivial).trans (AStep.alloc (ABlock.cells _ _ _ _ _) trivial)), fun M f w ρ h hM hx => ?_⟩
   have hx : ρ x = .map none := hx
   refine ⟨undef, f, w, .inl (hexec ρ w w ?_), Step.refl h, VRel.undef f⟩
   simp only [Builtin.clear_, h0, hx, List.getElem?_toArray, List.getElem?_cons_zero, Sem.run_bind, r_und h1, Result.andThen_ok, Sem.run_pure]
theorem clearSlice_ok {c : Call} {x : Operand} (ho : o.op = .call c) (hc : c.callee = .builtin .clear) (hargs : c.args = #[x]) {t e : TypeId} (h0 : c.argTypes[0]? = some t) (h1 : E.P.underlying t = some (.slice e)) {z : List AVal} (hz : zeroA E.P e = some z) {m : AVal} (hm : (∃ b o n s, m = .slc b o n s) ∨ m = .slc0) {K : AVal → AState → Option R} (hA : clearA S z m K = some r) :
   EffOk E S K r (fun f ρ => VRel f m (ρ x)) o := by
 have hexec : ∀ (ρ : Operand → Value) (w w' : World), (Builtin.clear_ c.argTypes o.type #[ρ x]).run E.P w = .ok (.tuple #[]) w' → (execOp ρ o).run E.P w = .ok (.value undef) w' := by
   intro ρ w w' h
   simp [execOp, ho, resolve, hc, hargs, invoke, builtin, h]; rfl
 rcases hm with ⟨b, off, n, s, rfl⟩ | rfl
 · simp only [clearA] at hA
   split at hA
   · refine ⟨_, _, hA, (by first | exact AStep.refl _ | exact AStep.write (by assumption) trivial | exact AStep.alloc _ trivial | exact (AStep.write (blk := ABlock.dead) (by assumption) trivial).trans (AStep.alloc (ABlock.cells _ _ _ _ _) trivial)), fun M f w ρ h hM hx => ?_⟩
     obtain ⟨B, N, cap, p, hf, hlc, hcn, hp, hx⟩ := hx
     refine ⟨undef, f, w, .inl (hexec ρ w w ?_), Step.refl h, VRel.undef f⟩
     simp only [Builtin.clear_, h0, hx, List.getElem?_toArray, List.getElem?_cons_zero, Sem.run_bind, r_und h1, Result.andThen_ok, Sem.run_pure]
   · rename_i n
     split at hA
     case h_2 => cases hA
     rename_i hs
     rw [Nat.beq_eq] at hs
     subst hs
     obtain ⟨_, S', hK, hnx, hgo⟩ := writeCells_ok (E := E) hA
     refine ⟨_, S', hK, hnx.2, fun M f w ρ h hM hx => ?_⟩
     obtain ⟨B, N, cap, p, hf, hlc, hcn, hp, hx⟩ := hx
     obtain rfl : p = off := by rcases hp with h1 | h1 <;> omega
     obtain ⟨zv, hzv, hzr⟩ := r_zero hz
     obtain ⟨w', hst, hstep⟩ := hgo M f w B N _ h (by omega) hf (zeroCells_rel (hzr f) (n + 1))
     refine ⟨undef, f, w', .inl (hexec ρ w w' ?_), hstep, VRel.undef f⟩
     simp only [Builtin.clear_, h0, hx, List.getElem?_toArray, List.getElem?_cons_zero, Sem.run_bind, r_und h1, Result.andThen_ok, hzv, hst, Sem.run_pure]
 · simp only [clearA] at hA
   refine ⟨_, _, hA, (by first | exact AStep.refl _ | exact AStep.write (by assumption) trivial | exact AStep.alloc _ trivial | exact (AStep.write (blk := ABlock.dead) (by assumption) trivial).trans (AStep.alloc (ABlock.cells _ _ _ _ _) trivial)), fun M f w ρ h hM hx => ?_⟩
   have hx : ρ x = .slice none 0 0 := hx
   refine ⟨undef, f, w, .inl (hexec ρ w w ?_), Step.refl h, VRel.undef f⟩
   simp only [Builtin.clear_, h0, hx, List.getElem?_toArray, List.getElem?_cons_zero, Sem.run_bind, r_und h1, Result.andThen_ok, Sem.run_pure]
theorem freeze_at {B o n : Nat} {cs : Array Value} {e : TypeId} {lo hi : Nat} (h : w.heap[B]? = some (.cells cs e (lo, hi))) (hn : 0 < n) :
   w.freeze { block := B, off := o } n = World.setObjAt w B (.cells cs e (if lo == hi then (o, o + n) else (min lo o, max hi (o + n)))) := by
 unfold World.freeze World.setObjAt
 rw [if_neg (by omega)]
 congr 1
 apply Array.ext_getElem?
 intro i
 rw [Array.getElem?_modify]
 by_cases hi : B = i
 · subst hi
   have hlt : B < w.heap.size := (Array.getElem?_eq_some_iff.1 h).1
   rw [if_pos rfl, Array.getElem?_setIfInBounds_self, if_pos hlt, h]
   rfl
 · rw [if_neg hi, Array.getElem?_setIfInBounds_ne hi]
theorem run_loadBytes {P : Program} {B : Nat} {cs : Array Value} {e : TypeId} {fr : Nat × Nat} (h : w.heap[B]? = some (.cells cs e fr)) : ∀ (bs : List UInt8) (o : Nat) (acc : ByteArray), (∀ j, j < bs.length → cs[o + j]? = (bs[j]?).map fun b => Value.int .u8 (b.toNat : Int)) →
   (loadBytes ⟨B, o, none⟩ acc bs.length).run P w = .ok ⟨(acc.data.toList ++ bs).toArray⟩ w
 | [], o, acc, _ => by simp [loadBytes]
 | b :: bs, o, acc, hb => by
   have h0 := hb 0 (by simp)
   simp only [Nat.add_zero, List.getElem?_cons_zero, Option.map_some] at h0
   have hc := cell_at h h0
   have ih := run_loadBytes (P := P) h bs (o + 1) (acc.push b) (fun j hj => by
     have := hb (j + 1) (by simpa using hj)
     rw [List.getElem?_cons_succ] at this
     rw [show o + 1 + j = o + (j + 1) by omega]; exact this)
   simp only [List.length_cons, loadBytes, Sem.run_bind, run_load, hc, Result.andThen_ok, add_plain, Int.toNat_natCast]
   rw [show b.toNat.toUInt8 = b by simp, ih]
   simp
theorem packA_inv {l : List AVal} {K : Nat → Nat → Option R} (h : packA l K = some r) : ∃ bs : List UInt8, l = bs.map (fun b => AVal.int .u8 (.ofNat b.toNat)) ∧ K bs.length (packL bs) = some r := by
 have key : ∀ (l : List AVal) (n x : Nat) , (List.rec (motive := fun _ => Nat → Nat → Option R) (fun n x => K n x) (fun v _ ih n x => match v with
   | .int .u8 (.ofNat b) => match Nat.ble b 255 with
     | true => forceN (Nat.add (Nat.mul x 256) b) fun x => ih (Nat.succ n) x
     | false => none
   | _ => none) l n x : Option R) = some r → ∃ bs : List UInt8, l = bs.map (fun b => AVal.int .u8 (.ofNat b.toNat)) ∧ K (n + bs.length) (bs.foldl (fun a b => a * 256 + b.toNat) x) = some r := by
   intro l
   induction l with
   | nil => intro n x h; exact ⟨[], rfl, h⟩
   | cons v l ih =>
     intro n x h
     dsimp only at h
     split at h
     case h_2 => cases h
     rename_i b
     split at h
     case h_2 => cases h
     rename_i hb
     rw [forceN_eq] at h
     have hb : b ≤ 255 := by rwa [Nat.ble_eq] at hb
     obtain ⟨bs, rfl, hk⟩ := ih _ _ h
     have hbt : (UInt8.ofNat b).toNat = b := by simp; omega
     refine ⟨UInt8.ofNat b :: bs, by rw [List.map_cons, hbt], ?_⟩
     rw [List.length_cons, List.foldl_cons, hbt, show n + (bs.length + 1) = n.succ + bs.length by omega]
     exact hk
 obtain ⟨bs, h1, h2⟩ := key l 0 0 h
 rw [Nat.zero_add] at h2
 exact ⟨bs, h1, h2⟩
theorem bytes_rel {bs : List UInt8} {vs : List Value} (h : VRels f (bs.map fun b => AVal.int .u8 (.ofNat b.toNat)) vs) : vs = bs.map fun b => Value.int .u8 (b.toNat : Int) := by
 induction bs generalizing vs with
 | nil => cases h; rfl
 | cons b bs ih =>
   obtain ⟨v, vs', rfl, h1, h2⟩ := h
   cases h1
   rw [ih h2]; rfl
noncomputable def unsafeStrA (S : AState) (e : TypeId) (p n : AVal) (K : AVal → AState → Option R) : Option R := match n with
 | .int _ (.ofNat n) => match n with
   | 0 => match p with
     | .ptr0 => K (.str 0 0) S
     | .ptr _ _ => K (.str 0 0) S
     | _ => none
   | n + 1 => match p with
     | .ptr b o => match S.heap.get b with
       | some (.cells c d k wr e') => match and (and wr (Nat.beq e e')) (and (Nat.ble (Nat.add o (n + 1)) k) (and (small S.next) (small k))) with
         | true => packA (readCells c d o (n + 1)) fun l x => writeS S b (.cells c d k false e') (K (.str l x))
         | false => none
       | _ => none
     | _ => none
 | _ => none
theorem run_variablesAt {P : Program} {B o n : Nat} {cs : Array Value} {e : TypeId} {fr : Nat × Nat} (h : w.heap[B]? = some (.cells cs e fr)) (hs : sizeA P e = some 1) (hn : o + n ≤ cs.size) : (variablesAt ⟨B, o, none⟩ e n).run P w = .ok true w := by
 have hc : P.cellsOf e = 1 := by
   simp only [sizeA, Option.map_eq_some_iff] at hs
   obtain ⟨i, hi, h1⟩ := hs
   simp [Program.cellsOf, hi, h1]
 have hd : P.depth = (2 * (P.types.size + Made.depth) + 1) + 1 := rfl
 have hsl : ∀ d, sameLayout P (d + 1) e e = true := by
   intro d
   unfold sameLayout
   simp
 have hrow : ∀ d, rowAt P (sameLayout P P.depth · e) (d + 1) e cs.size o n = true := by
   intro d
   unfold rowAt
   simp only [hc, Nat.one_ne_zero, if_false, Nat.div_one, Nat.mod_one, beq_self_eq_true, Bool.true_and, hd, hsl]
   rw [show decide (o + n ≤ cs.size) = true from decide_eq_true hn]
   rfl
 have hl : ∀ d, liesAt P (d + 1) e cs.size o e n = true := by
   intro d
   unfold liesAt
   have := hrow (2 * (P.types.size + Made.depth) + 1)
   rw [← hd] at this
   rw [this]; rfl
 have hsh : w.shape? B = some (e, cs.size) := by simp [World.shape?, h]
 simp only [variablesAt, Sem.run_bind, run_program, Result.andThen_ok, run_shape, hsh, hc, Nat.div_one, Sem.run_pure]
 rw [hd, hl]
theorem unsafeStr_ok {c : Call} {x y : Operand} (ho : o.op = .call c) (hc : c.callee = .builtin .unsafeString) (hargs : c.args = #[x, y]) {t e : TypeId} (h0 : c.argTypes[0]? = some t) (h1 : E.P.underlying t = some (.pointer e)) (hs : sizeA E.P e = some 1) {a b : AVal} {K : AVal → AState → Option R} (hA : unsafeStrA S e a b K = some r) :
   EffOk E S K r (fun f ρ => VRel f a (ρ x) ∧ VRel f b (ρ y)) o := by
 have hexec : ∀ (ρ : Operand → Value) (w w' : World) (v : Value), (Builtin.unsafeString_ c.argTypes o.type #[ρ x, ρ y]).run E.P w = .ok v w' → (execOp ρ o).run E.P w = .ok (.value v) w' := by
   intro ρ w w' v h
   simp [execOp, ho, resolve, hc, hargs, invoke, builtin, h]
 obtain ⟨m1, m2, m3, m4, m5, heq⟩ : ∃ m1 m2 m3 m4 m5, ∀ (p : Option Addr) (v : Value), Builtin.unsafeString_ c.argTypes o.type #[.pointer p, v] = (do
     let n ← asInt v
     let some pt := c.argTypes[0]? | stuck m1
     if n < 0 then runtimePanic m2
     if n > IntKind.i64.max then unsupported m3
     match p with
     | none =>
       if n = 0 then pure (.string .empty)
       else runtimePanic m4
     | some a =>
       if n = 0 then pure (.string .empty)
       else if ← variablesAt a (← elemOf pt) n.toNat then do
         let s ← loadBytes a .empty n.toNat
         freeze a n.toNat
         pure (.string s)
       else unsupported m5) := ⟨_, _, _, _, _, fun _ _ => rfl⟩
 unfold unsafeStrA at hA
 split at hA
 case h_2 => cases hA
 rename_i k n
 split at hA
 · have fin : ∀ p, (∀ (M : Nat) (f : Inj) (w : World) (ρ : Operand → Value), VRel f p (ρ x) → ∃ q, ρ x = .pointer q) → K (.str 0 0) S = some r → EffOk E S K r (fun f ρ => VRel f p (ρ x) ∧ VRel f (.int k (.ofNat 0)) (ρ y)) o := by
     intro p hp hA
     refine ⟨_, _, hA, (by first | exact AStep.refl _ | exact AStep.write (by assumption) trivial | exact AStep.alloc _ trivial | exact (AStep.write (blk := ABlock.dead) (by assumption) trivial).trans (AStep.alloc (ABlock.cells _ _ _ _ _) trivial)), fun M f w ρ h hM ⟨hx, hy⟩ => ?_⟩
     obtain ⟨q, hq⟩ := hp M f w ρ hx
     have hy : ρ y = .int k 0 := hy
     refine ⟨.string .empty, f, w, .inl (hexec ρ w w _ ?_), Step.refl h, ⟨_, rfl, rfl, rfl⟩⟩
     rw [hq, heq, hy]
     have hmx : ¬ ((0 : Int) > IntKind.i64.max) := by rw [show IntKind.i64.max = 9223372036854775807 from rfl]; omega
     simp only [asInt, asIntOf, Sem.run_bind, Sem.run_pure, Result.andThen_ok, h0, Int.lt_irrefl, if_false, if_neg hmx]
     cases q <;> simp
   split at hA
   · exact fin _ (fun M f w ρ hx => ⟨none, hx⟩) hA
   · exact fin _ (fun M f w ρ hx => by obtain ⟨B, N, _, hx⟩ := hx; exact ⟨_, hx⟩) hA
   · cases hA
 · rename_i n
   split at hA
   case h_2 => cases hA
   rename_i b' off
   split at hA
   case h_2 => cases hA
   rename_i c' d kk wr e' hg
   split at hA
   case h_2 => cases hA
   rename_i hcond
   simp only [Bool.and_eq_true, Nat.beq_eq, Nat.ble_eq] at hcond
   obtain ⟨⟨rfl, rfl⟩, hle, hsm, hsk⟩ := hcond
   have hle : off + (n + 1) ≤ kk := hle
   obtain ⟨bs, hbs, hK⟩ := packA_inv hA
   rw [writeS_eq] at hK
   have hlen : bs.length = n + 1 := by
     have := congrArg List.length hbs
     rw [readCells_length, List.length_map] at this
     exact this.symm
   refine ⟨_, _, hK, (by first | exact AStep.refl _ | exact AStep.write (by assumption) trivial | exact AStep.alloc _ trivial | exact (AStep.write (blk := ABlock.dead) (by assumption) trivial).trans (AStep.alloc (ABlock.cells _ _ _ _ _) trivial)), fun M f w ρ h hM ⟨hx, hy⟩ => ?_⟩
   obtain ⟨B, N, hf, hx⟩ := hx
   have hy : ρ y = .int k ((n + 1 : Nat) : Int) := hy
   obtain ⟨obj, hobj, hb⟩ := h.blk b' _ hg B N hf
   obtain ⟨cs, fr, rfl, hsz, hrel⟩ := readCells_rel hb hle
   rw [hbs] at hrel
   have hvs := bytes_rel hrel
   obtain ⟨cs', lo, hi, hcs, hsz', hkN, hfr, hcells⟩ := hb
   cases hcs
   have hget : ∀ j, j < bs.length → cs[off + j]? = (bs[j]?).map fun b => Value.int .u8 (b.toNat : Int) := by
     intro j hj
     have h1 : ((cs.toList.drop off).take (n + 1))[j]? = (bs.map fun b => Value.int .u8 (b.toNat : Int))[j]? := by rw [hvs]
     rw [List.getElem?_take_of_lt (by omega), List.getElem?_drop, Array.getElem?_toList, List.getElem?_map] at h1
     exact h1
   have hload := run_loadBytes (P := E.P) hobj bs off ByteArray.empty hget
   have hva := run_variablesAt (P := E.P) (w := w) (B := B) (o := off) (n := n + 1) hobj hs (by omega)
   have hfz := freeze_at (w := w) (o := off) (n := n + 1) hobj (by omega)
   have hsk := small_lt hsk
   refine ⟨.string ⟨bs.toArray⟩, f, _, .inl (hexec ρ w _ _ ?_), Step.write h (small_lt hsm) hM hg rfl rfl hf (obj := .cells cs e (if lo == hi then (off, off + (n + 1)) else (min lo off, max hi (off + (n + 1))))) (w' := World.setObjAt w B (.cells cs e (if lo == hi then (off, off + (n + 1)) else (min lo off, max hi (off + (n + 1)))))) rfl rfl rfl rfl ?_, ⟨_, rfl, by simp, rfl⟩⟩
   · rw [hx, heq, hy]
     have hmx : ¬ (((n + 1 : Nat) : Int) > IntKind.i64.max) := by rw [show IntKind.i64.max = 9223372036854775807 from rfl]; omega
     have hneg : ¬ (((n + 1 : Nat) : Int) < 0) := by omega
     have hnz : ¬ (((n + 1 : Nat) : Int) = 0) := by omega
     have hel : (elemOf t).run E.P w = .ok e w := by simp only [elemOf, Sem.run_bind, r_und h1, Result.andThen_ok, Sem.run_pure]
     rw [hlen] at hload
     simp only [asInt, asIntOf, Sem.run_bind, Sem.run_pure, Result.andThen_ok, h0, if_neg hneg, if_neg hmx, if_neg hnz, hel, Int.toNat_natCast, hva, if_true, hload, run_freeze, hfz]
     rfl
   · exact ⟨cs, _, _, rfl, hsz, hkN, (fun h => by cases h), hcells⟩
noncomputable def stringishA (S : AState) (x : AVal) (K : AVal → AState → Option R) : Option R := match x with
 | .slc b o n s => match S.heap.get b with
   | some (.cells c d k wr e) => match and wr (small S.next) with
     | true => writeS S b (.cells c d k false e) (K (.slc b o n s))
     | false => none
   | _ => none
 | _ => none
theorem stringish_ok {t e : TypeId} {x : Operand} (ho : o.op = .convert t t x) (h1 : E.P.underlying t = some (.slice e)) (h2 : E.P.underlying e = some (.int .u8)) {a : AVal} {K : AVal → AState → Option R} (hA : stringishA S a K = some r) :
   EffOk E S K r (fun f ρ => VRel f a (ρ x)) o := by
 unfold stringishA at hA
 split at hA
 case h_2 => cases hA
 rename_i b off n s
 split at hA
 case h_2 => cases hA
 rename_i c d k wr e' hg
 split at hA
 case h_2 => cases hA
 rename_i hcond
 rw [Bool.and_eq_true] at hcond
 obtain ⟨rfl, hsm⟩ := hcond
 rw [writeS_eq] at hA
 refine ⟨_, _, hA, (by first | exact AStep.refl _ | exact AStep.write (by assumption) trivial | exact AStep.alloc _ trivial | exact (AStep.write (blk := ABlock.dead) (by assumption) trivial).trans (AStep.alloc (ABlock.cells _ _ _ _ _) trivial)), fun M f w ρ h hM hx => ?_⟩
 obtain ⟨B, N, cap, p, hf, hlc, hcn, hp, hx⟩ := hx
 obtain ⟨obj, hobj, hb⟩ := h.blk b _ hg B N hf
 obtain ⟨cs, lo, hi, rfl, hsz, hkN, hfr, hcells⟩ := hb
 have hsh : w.shape? B = some (e', cs.size) := by simp [World.shape?, hobj]
 have hfz := freeze_at (w := w) (o := cs.size) (n := 1) hobj (by omega)
 refine ⟨.slice (some ⟨B, p, none⟩) n cap, f, World.setObjAt w B (.cells cs e' (if lo == hi then (cs.size, cs.size + 1) else (min lo cs.size, max hi (cs.size + 1)))), .inl ?_, Step.write h (small_lt hsm) hM hg rfl rfl hf rfl rfl rfl rfl ?_, ⟨B, N, cap, p, hf, hlc, hcn, hp, rfl⟩⟩
 · simp only [execOp, ho, hx, convert, Sem.run_bind, r_und h1, r_und h2, Result.andThen_ok, beq_self_eq_true, markStringish, run_shape, hsh, run_freeze, hfz, Sem.run_pure]
 · have := hfr rfl
   obtain ⟨lo', hi', he, hle⟩ : ∃ lo' hi', (if lo == hi then (cs.size, cs.size + 1) else (min lo cs.size, max hi (cs.size + 1))) = (lo', hi') ∧ cs.size ≤ lo' := by
     by_cases hq : lo = hi
     · exact ⟨_, _, by rw [if_pos (by simpa using hq)], Nat.le_refl _⟩
     · rcases this with h1 | h1
       · exact absurd h1 hq
       · exact ⟨_, _, by rw [if_neg (by simpa using hq)], by omega⟩
   rw [he]
   exact ⟨cs, lo', hi', rfl, hsz, hkN, fun h => (by cases h), hcells⟩
end
end Abs
end Go.Proofs.YtfkchheildfkpaaGreatDoor.Refl
namespace Go.Proofs.YtfkchheildfkpaaGreatDoor.Refl
open Go Go.RowKit
namespace Abs
set_option linter.unusedVariables false
set_option linter.unusedSimpArgs false
noncomputable def AOpd.eval (t : T AVal) (x : AOpd) : AVal := AOpd.rec (motive := fun _ => AVal) (fun n => tget t n) (fun v => v) x
def opdA (G : Nat) : Operand → Option AOpd
 | .tmp t => some (.tmp t)
 | .const v => (ofVal v).map .const
 | .global g => if g < G then some (.const (.ptr g 0)) else none
 | .func f => some (.const (.fn (.func f) [] []))
def opdsA (G : Nat) : List Operand → Option (List AOpd)
 | [] => some []
 | x :: l => (opdA G x).bind fun a => (opdsA G l).map (a :: ·)
def opdO (G : Nat) : Option Operand → Option (Option AOpd)
 | none => some none
 | some x => (opdA G x).map some
def OpdsRel (G : Nat) (f : Inj) (ρA : AOpd → AVal) (ρ : Operand → Value) : Prop := ∀ x a, opdA G x = some a → VRel f (ρA a) (ρ x)
theorem opds_rel {G : Nat} {f : Inj} {t : T AVal} {a : Act} {n : Nat} (h : TRel f t a.tmps n) (hg : ∀ g, g < G → ∃ N, f g = some (g, N)) : OpdsRel G f (AOpd.eval t) a.eval := by
 intro x y hx
 cases x with
 | tmp i => cases hx; exact h.get i
 | const v =>
   simp only [opdA, Option.map_eq_some_iff] at hx
   obtain ⟨u, hu, rfl⟩ := hx
   exact ofVal_rel f hu
 | global g =>
   simp only [opdA] at hx
   split at hx <;> cases hx
   rename_i hlt
   obtain ⟨N, hN⟩ := hg g hlt
   exact ⟨g, N, hN, rfl⟩
 | func g => cases hx; exact ⟨_, #[], #[], rfl, rfl, rfl, rfl⟩
theorem OpdsRel.list {G : Nat} {f : Inj} {ρA : AOpd → AVal} {ρ : Operand → Value} (h : OpdsRel G f ρA ρ) : ∀ {l : List Operand} {as : List AOpd}, opdsA G l = some as → VRels f (as.map ρA) (l.map ρ)
 | [], as, hl => by cases hl; rfl
 | x :: l, as, hl => by
   simp only [opdsA, Option.bind_eq_some_iff, Option.map_eq_some_iff] at hl
   obtain ⟨a, ha, bs, hb, rfl⟩ := hl
   exact ⟨_, _, rfl, h x a ha, h.list hb⟩
theorem OpdsRel.opt {G : Nat} {f : Inj} {ρA : AOpd → AVal} {ρ : Operand → Value} (h : OpdsRel G f ρA ρ) {x : Option Operand} {a : Option AOpd} (hx : opdO G x = some a) : ORel f (a.map ρA) (x.map ρ) := by
 cases x with
 | none => cases hx; trivial
 | some x =>
   simp only [opdO, Option.map_eq_some_iff] at hx
   obtain ⟨b, hb, rfl⟩ := hx
   exact h x b hb
section
variable (P : Program) (G : Nat)
def partsA (place : Nat → Option (Nat × Nat)) : List (Nat × Operand) → Option (List (Nat × Nat × AOpd))
 | [] => some []
 | (i, x) :: l => (place i).bind fun p => (opdA G x).bind fun a => (partsA place l).map ((p.1, p.2, a) :: ·)
def bytesA (t : TypeId) : Option Nat := (P.info? t).map (·.bytes)
def guardO (b : Bool) : Option Unit := if b then some () else none
def eqFit (d : TypeDesc) : Bool := match d with
 | .pointer e => match sizeA P e with
   | some (_ + 1) => true
   | _ => false
 | _ => true
def notIfc : TypeDesc → Bool
 | .interface _ => false
 | _ => true
def fnOk : Fn → Bool
 | .yield _ => false
 | _ => true
def compCall (o : Oper) (c : Call) : Option AOp := match c.callee with
 | .value g => (opdA G g).bind fun g => (opdsA G c.args.toList).map fun as => .call g as
 | .invoke _ _ => none
 | .builtin b => match b, c.args.toList with
   | .len, [x] => (opdA G x).bind fun x => (c.argTypes[0]?).bind fun t => (P.underlying t).bind fun d => if lenD d then some (.len d x) else none
   | .cap, [x] => (opdA G x).bind fun x => (c.argTypes[0]?).bind fun t => match P.underlying t with
     | some (.slice _) => some (.cap x)
     | _ => none
   | .append, [x, y] => (opdA G x).bind fun x => (opdA G y).bind fun y => (c.argTypes[0]?).bind fun t => match P.underlying t with
     | some (.slice e) => (sizeA P e).bind fun s => (zeroA P e).bind fun z => (bytesA P e).bind fun bs => (isMakeT P c.argTypes[1]?).bind fun mk => if z.length = s ∧ 0 < bs ∧ bs ≤ 10000 then some (.append s bs e (if mk then some z else none) x y) else none
     | _ => none
   | .copy, [x, y] => (opdA G x).bind fun x => (opdA G y).bind fun y => (c.argTypes[0]?).bind fun t => match P.underlying t with
     | some (.slice e) => (sizeA P e).map fun s => .copy s x y
     | _ => none
   | .delete, [x, y] => (opdA G x).bind fun x => (opdA G y).bind fun y => (c.argTypes[0]?).bind fun t => match P.underlying t with
     | some (.map k _) => (P.underlying k).map fun d => .delete d x y
     | _ => none
   | .clear, [x] => (opdA G x).bind fun x => (c.argTypes[0]?).bind fun t => match P.underlying t with
     | some (.slice e) => (zeroA P e).map fun z => .clearSlc z x
     | some (.map _ _) => some (.clearMap x)
     | _ => none
   | .min, [x, y] => (opdA G x).bind fun x => (opdA G y).map fun y => .minmax false x y
   | .max, [x, y] => (opdA G x).bind fun x => (opdA G y).map fun y => .minmax true x y
   | .unsafeSliceData, [x] => (opdA G x).map fun x => .sliceData x
   | .unsafeString, [x, y] => (opdA G x).bind fun x => (opdA G y).bind fun y => (c.argTypes[0]?).bind fun t => match P.underlying t with
     | some (.pointer e) => if sizeA P e = some 1 then some (.unsafeStr e x y) else none
     | _ => none
   | _, _ => none
def compConv (src dst : TypeId) (x : AOpd) : Option AOp := match P.underlying dst with
 | some (.int k) => match P.underlying src with
   | some _ => some (.convInt k x)
   | none => none
 | some .string => match P.underlying src with
   | some .string => some (.convSame x)
   | some (.slice e) => match P.underlying e with
     | some (.int .u8) => some (.bytesStr x)
     | _ => none
   | _ => none
 | some (.slice e) => match P.underlying e with
   | some (.int .u8) => match P.underlying src with
     | some .string => some (.strBytes e x)
     | some (.slice _) => if src = dst then some (.stringish x) else none
     | _ => none
   | _ => none
 | _ => none
def compOp (o : Oper) : Option AOp := match o.op with
 | .move x => (opdA G x).map .mov
 | .assign x => (opdA G x).map .mov
 | .pick c x y => (opdA G c).bind fun c => (opdA G x).bind fun x => (opdA G y).map fun y => .pick c x y
 | .alloc e => (zeroA P e).map fun z => .alloc z e
 | .box e x => (opdA G x).map fun x => .box x e
 | .build t parts => match P.underlying t with
   | some (.struct fs) => (zeroA P t).bind fun z => (placesA P fs.toList).bind fun pl => (partsA G (pl[·]?) parts.toList).map fun ps => .build z ps
   | some (.array _ e) => (zeroA P t).bind fun z => (sizeA P e).bind fun s => (partsA G (fun i => some (i * s, s)) parts.toList).map fun ps => .build z ps
   | _ => none
 | .buildSlice t len parts => match P.underlying t with
   | some (.slice e) => (zeroA P e).bind fun z => (partsA G (fun i => some (i * z.length, z.length)) parts.toList).bind fun ps => if sizeA P e = some z.length ∧ len * z.length ≤ 16777216 then some (.buildSlice z len z.length e ps) else none
   | _ => none
 | .load t x => (opdA G x).bind fun x => (sizeA P t).bind fun n => (isAggA P t).bind fun agg => if agg = false → n = 1 then some (.load n agg x) else none
 | .store t x y => (opdA G x).bind fun x => (opdA G y).bind fun y => (sizeA P t).bind fun n => (isAggA P t).map fun agg => .store n agg x y
 | .nilCheck x => (opdA G x).map .nilCheck
 | .binOp op t x y _ => (opdA G x).bind fun x => (opdA G y).bind fun y => (P.underlying t).bind fun d => match d with
   | .struct fs => (match op with | .eql => some false | .neq => some true | _ => none : Option Bool).bind fun neg => (codesG P 0 fs.toList).bind fun cs => if P.stoodInHeld t = false ∧ P.eqGuardType P.depth t = false then some (.eqS cs neg x y) else none
   | d => if eqFit P d then some (.bin d op x y) else none
 | .unOp op _ x => (opdA G x).map fun x => .un op x
 | .convert src dst x => (opdA G x).bind fun x => compConv P src dst x
 | .makeInterface t x => (opdA G x).bind fun x => (P.underlying t).bind fun d => if notIfc d then some (.mkIfc t x) else none
 | .makeFunc g as bs => if fnOk g then (opdsA G as.toList).bind fun as => (opdsA G bs.toList).map fun bs => .mkFn g as bs else none
 | .makeMap t h => (opdO G h).bind fun h => match P.underlying t with
   | some (.map _ _) => some (.mkMap h)
   | _ => none
 | .makeSlice t l c => (opdA G l).bind fun l => (opdA G c).bind fun c => match P.underlying t with
   | some (.slice e) => (zeroA P e).bind fun z => (bytesA P e).bind fun bs => if sizeA P e = some z.length then some (.mkSlice z bs e l c) else none
   | _ => none
 | .slice t x lo hi mx => (opdA G x).bind fun x => (opdO G lo).bind fun lo' => (opdO G hi).bind fun hi' => (opdO G mx).bind fun mx' => match P.underlying t with
   | some .string => if mx.isNone then some (.sliceStr x lo' hi') else none
   | some (.slice e) => (sizeA P e).bind fun s => if hi.isNone → mx.isNone then some (.sliceSlc s x lo' hi' mx') else none
   | some (.array n e) => (sizeA P e).bind fun s => if hi.isNone → mx.isNone then some (.sliceArr n s x lo' hi' mx') else none
   | _ => none
 | .fieldAddr s x i => (opdA G x).bind fun x => match P.underlying s with
   | some (.struct fs) => (fs[i]?).bind fun fd => (sizeA P fd.type).bind fun n => if n ≠ 0 then some (.fieldAddr fd.offset x) else none
   | _ => none
 | .field t x i => (opdA G x).bind fun x => match P.underlying t with
   | some (.struct fs) => (fs[i]?).bind fun fd => (sizeA P fd.type).bind fun n => (isAggA P fd.type).map fun agg => .field fd.offset n agg x
   | _ => none
 | .indexAddr t x y => (opdA G x).bind fun x => (opdA G y).bind fun y => match P.underlying t with
   | some (.array n e) => (sizeA P e).map fun s => .indexAddr s (some n) x y
   | some (.slice e) => (sizeA P e).map fun s => .indexAddr s none x y
   | _ => none
 | .index t x y => (opdA G x).bind fun x => (opdA G y).bind fun y => match P.underlying t with
   | some (.array n e) => (sizeA P e).bind fun s => (isAggA P e).map fun agg => .indexArr n s agg x y
   | some .string => some (.indexStr x y)
   | _ => none
 | .lookup t x y ok => (opdA G x).bind fun x => (opdA G y).bind fun y => match P.underlying t with
   | some (.map k e) => (P.underlying k).bind fun d => (zeroV P e).map fun z => .lookup d z ok x y
   | _ => none
 | .mapUpdate t x y z => (opdA G x).bind fun x => (opdA G y).bind fun y => (opdA G z).bind fun z => match P.underlying t with
   | some (.map k _) => (P.underlying k).map fun d => .mapUpdate d x y z
   | _ => none
 | .insert t x y z => (opdA G x).bind fun x => (opdA G y).bind fun y => (opdA G z).bind fun z => match P.underlying t with
   | some (.map k _) => (P.underlying k).map fun d => .mapUpdate d x y z
   | _ => none
 | .extract x i => (opdA G x).map fun x => .extract x i
 | .call c => compCall P G o c
 | _ => none
end
noncomputable def roomA (rd : Nat → Option ABlock) (a : AVal) (k : Nat) : Bool := match a with
 | .ptr b o => match rd b with
   | some (.cells _ _ n _ _) => Nat.ble (Nat.add o k) n
   | _ => false
 | _ => false
noncomputable def simpleA (ρ : AOpd → AVal) (rd : Nat → Option ABlock) (op : AOp) : Option SRes := match op with
 | .mov x => some (.val (ρ x))
 | .pick c x y => pickA (ρ c) (ρ x) (ρ y)
 | .alloc z e => allocA z e
 | .box x e => allocA (cellsA (ρ x)) e
 | .build z ps => buildA ρ z ps
 | .buildSlice z len s e ps => buildSliceA ρ z len s e ps
 | .load n agg a => loadA rd n agg (ρ a)
 | .nilCheck x => nilCheckA (ρ x)
 | .bin d op x y => binA d op (ρ x) (ρ y)
 | .eqS cs neg x y => eqSA cs neg (ρ x) (ρ y)
 | .un op x => unA op (ρ x)
 | .convInt k x => convIntA k (ρ x)
 | .convSame x => convSameA (ρ x)
 | .strBytes e x => strBytesA e (ρ x)
 | .bytesStr x => bytesStrA rd (ρ x)
 | .mkIfc t x => some (.val (.ifc t (ρ x)))
 | .mkFn g as bs => some (.val (.fn g (as.map ρ) (bs.map ρ)))
 | .mkMap h => mkMapA (h.map ρ)
 | .mkSlice z bs e l c => mkSliceA z bs e (ρ l) (ρ c)
 | .sliceStr x lo hi => sliceStrA (ρ x) (lo.map ρ) (hi.map ρ)
 | .sliceArr n s x lo hi mx => match roomA rd (ρ x) (Nat.mul n s) with
   | true => sliceArrA n s (ρ x) (lo.map ρ) (hi.map ρ) (mx.map ρ)
   | false => none
 | .sliceSlc s x lo hi mx => sliceSlcA s (ρ x) (lo.map ρ) (hi.map ρ) (mx.map ρ)
 | .fieldAddr off x => fieldAddrA off (ρ x)
 | .field off n agg x => fieldA off n agg (ρ x)
 | .indexAddr s arr x i => indexAddrA s arr (ρ x) (ρ i)
 | .indexStr x i => indexStrA (ρ x) (ρ i)
 | .indexArr n s agg x i => indexArrA n s agg (ρ x) (ρ i)
 | .lookup d z ok m k => lookupA rd d z ok (ρ m) (ρ k)
 | .extract x i => extractA (ρ x) i
 | .len d x => match lenOk d (ρ x) with
   | true => lenA rd (ρ x)
   | false => none
 | .cap x => capA (ρ x)
 | .minmax mx x y => minmaxA mx (ρ x) (ρ y)
 | .sliceData x => sliceDataA (ρ x)
 | _ => none
def effB : AOp → Bool
 | .store .. | .stringish _ | .mapUpdate .. | .append .. | .copy .. | .delete .. | .clearMap _ | .clearSlc .. | .unsafeStr .. | .call .. => true
 | _ => false
def readA (ρ : AOpd → AVal) : AOp → Option Nat
 | .load _ _ a => match ρ a with | .ptr b _ => some b | _ => none
 | .bytesStr x => match ρ x with | .slc b _ _ _ => some b | _ => none
 | .sliceArr _ _ x _ _ _ => match ρ x with | .ptr b _ => some b | _ => none
 | .lookup _ _ _ m _ => match ρ m with | .map b => some b | _ => none
 | .len _ x => match ρ x with | .map b => some b | _ => none
 | _ => none
end Abs
end Go.Proofs.YtfkchheildfkpaaGreatDoor.Refl
namespace Go.Proofs.YtfkchheildfkpaaGreatDoor.Refl
open Go Go.RowKit
namespace Abs
set_option linter.unusedVariables false
set_option linter.unusedSimpArgs false
section
variable {P : Program} {G : Nat} {comp : Code → ACode} {f : Inj} {w : World} {ρ : Operand → Value} {ρA : AOpd → AVal} {rd : Nat → Option ABlock} {o : Oper} {r : SRes}
theorem parts_ok (hop : OpdsRel G f ρA ρ) {place : Nat → Option (Nat × Nat)} : ∀ {qs : List (Nat × Operand)} {ps : List (Nat × Nat × AOpd)}, partsA G place qs = some ps → PartsOk f ρ ρA place ps qs
 | [], ps, h => by cases h; exact ⟨rfl, fun i p q hp hq => by simp at hp⟩
 | (i, x) :: l, ps, h => by
   simp only [partsA, Option.bind_eq_some_iff, Option.map_eq_some_iff] at h
   obtain ⟨p, hp, a, ha, qs, hq, rfl⟩ := h
   obtain ⟨h1, h2⟩ := parts_ok hop hq
   refine ⟨by simp [h1], fun j p' q' hp' hq' => ?_⟩
   cases j with
   | zero =>
     simp only [List.getElem?_cons_zero, Option.some.injEq] at hp' hq'
     subst hp'; subst hq'
     exact ⟨hp, hop _ _ ha⟩
   | succ j => exact h2 j p' q' (by simpa using hp') (by simpa using hq')
theorem eqFit_spec {d : TypeDesc} (h : eqFit P d = true) : ∀ e, d = .pointer e → ∃ n, sizeA P e = some n ∧ n ≠ 0 := by
 rintro e rfl
 unfold eqFit at h
 simp only at h
 split at h
 · rename_i n hn; exact ⟨n + 1, hn, by omega⟩
 · cases h
def ReadsOk (P : Program) (comp : Code → ACode) (f : Inj) (w : World) (ρA : AOpd → AVal) (rd : Nat → Option ABlock) (op : AOp) : Prop := ∀ b blk, readA ρA op = some b → rd b = some blk → BlockAt P comp f w b blk
theorem simpleCall_ok {c : Call} {op : AOp} (ho : o.op = .call c) (hc : compCall P G o c = some op) (hop : OpdsRel G f ρA ρ) (hm : ReadsOk P comp f w ρA rd op) (h : simpleA ρA rd op = some r) : SOk P comp f ((execOp ρ o).run P) w r := by
 unfold compCall at hc
 split at hc
 · simp only [Option.bind_eq_some_iff, Option.map_eq_some_iff] at hc
   obtain ⟨g, _, as, _, rfl⟩ := hc
   simp [simpleA] at h
 · cases hc
 · rename_i b hcal
   split at hc
   · rename_i x hx
     have hargs : c.args = #[x] := Array.ext' hx
     simp only [Option.bind_eq_some_iff] at hc
     obtain ⟨a, ha, t, ht, d, hd, hc⟩ := hc
     split at hc <;> cases hc
     simp only [simpleA] at h
     split at h
     case h_2 => cases h
     rename_i hl
     exact len_ok ho hcal hargs ht hd (hop _ _ ha) hl (fun b blk hb => hm b blk (by simp [readA, hb])) h
   · rename_i x hx
     have hargs : c.args = #[x] := Array.ext' hx
     simp only [Option.bind_eq_some_iff] at hc
     obtain ⟨a, ha, t, ht, hc⟩ := hc
     split at hc <;> cases hc
     rename_i hd
     exact cap_ok ho hcal hargs ht hd (hop _ _ ha) h
   · rename_i x y hx
     simp only [Option.bind_eq_some_iff] at hc
     obtain ⟨a, ha, b, hb, t, ht, hc⟩ := hc
     split at hc
     · simp only [Option.bind_eq_some_iff] at hc
       obtain ⟨_, _, _, _, _, _, _, _, hc⟩ := hc
       split at hc <;> cases hc
       simp [simpleA] at h
     · cases hc
   · rename_i x y hx
     simp only [Option.bind_eq_some_iff] at hc
     obtain ⟨a, ha, b, hb, t, ht, hc⟩ := hc
     split at hc
     · simp only [Option.map_eq_some_iff] at hc
       obtain ⟨_, _, rfl⟩ := hc
       simp [simpleA] at h
     · cases hc
   · rename_i x y hx
     simp only [Option.bind_eq_some_iff] at hc
     obtain ⟨a, ha, b, hb, t, ht, hc⟩ := hc
     split at hc
     · simp only [Option.map_eq_some_iff] at hc
       obtain ⟨_, _, rfl⟩ := hc
       simp [simpleA] at h
     · cases hc
   · rename_i x hx
     simp only [Option.bind_eq_some_iff] at hc
     obtain ⟨a, ha, t, ht, hc⟩ := hc
     split at hc
     · simp only [Option.map_eq_some_iff] at hc
       obtain ⟨_, _, rfl⟩ := hc
       simp [simpleA] at h
     · cases hc
       simp [simpleA] at h
     · cases hc
   · rename_i x y hx
     have hargs : c.args = #[x, y] := Array.ext' hx
     simp only [Option.bind_eq_some_iff, Option.map_eq_some_iff] at hc
     obtain ⟨a, ha, b, hb, rfl⟩ := hc
     exact minmax_ok (mx := false) ho hcal hargs (hop _ _ ha) (hop _ _ hb) h
   · rename_i x y hx
     have hargs : c.args = #[x, y] := Array.ext' hx
     simp only [Option.bind_eq_some_iff, Option.map_eq_some_iff] at hc
     obtain ⟨a, ha, b, hb, rfl⟩ := hc
     exact minmax_ok (mx := true) ho hcal hargs (hop _ _ ha) (hop _ _ hb) h
   · rename_i x hx
     have hargs : c.args = #[x] := Array.ext' hx
     simp only [Option.map_eq_some_iff] at hc
     obtain ⟨a, ha, rfl⟩ := hc
     exact sliceData_ok ho hcal hargs (hop _ _ ha) h
   · rename_i x y hx
     simp only [Option.bind_eq_some_iff] at hc
     obtain ⟨a, ha, b, hb, t, ht, hc⟩ := hc
     split at hc
     · split at hc <;> cases hc
       simp [simpleA] at h
     · cases hc
   · cases hc
theorem simple_ok {op : AOp} (hc : compOp P G o = some op) (hop : OpdsRel G f ρA ρ) (hm : ReadsOk P comp f w ρA rd op) (h : simpleA ρA rd op = some r) : SOk P comp f ((execOp ρ o).run P) w r := by
 unfold compOp at hc
 split at hc
 case h_1 x ho =>
   simp only [Option.map_eq_some_iff] at hc
   obtain ⟨a, ha, rfl⟩ := hc
   cases h
   exact mov_ok (.inl ho) (hop _ _ ha)
 case h_2 x ho =>
   simp only [Option.map_eq_some_iff] at hc
   obtain ⟨a, ha, rfl⟩ := hc
   cases h
   exact mov_ok (.inr ho) (hop _ _ ha)
 case h_3 c x y ho =>
   simp only [Option.bind_eq_some_iff, Option.map_eq_some_iff] at hc
   obtain ⟨u, hu, a, ha, b, hb, rfl⟩ := hc
   exact pick_ok ho (hop _ _ hu) (hop _ _ ha) (hop _ _ hb) h
 case h_4 e ho =>
   simp only [Option.map_eq_some_iff] at hc
   obtain ⟨z, hz, rfl⟩ := hc
   exact alloc_ok ho hz h
 case h_5 e x ho =>
   simp only [Option.map_eq_some_iff] at hc
   obtain ⟨a, ha, rfl⟩ := hc
   exact box_ok ho (hop _ _ ha) h
 case h_6 t parts ho =>
   split at hc
   · rename_i fs hfs
     simp only [Option.bind_eq_some_iff, Option.map_eq_some_iff] at hc
     obtain ⟨z, hz, pl, hpl, ps, hps, rfl⟩ := hc
     exact buildStruct_ok ho hfs hz hpl (parts_ok hop hps) h
   · rename_i n e hfs
     simp only [Option.bind_eq_some_iff, Option.map_eq_some_iff] at hc
     obtain ⟨z, hz, s, hs, ps, hps, rfl⟩ := hc
     exact buildArray_ok ho hfs hz hs (parts_ok hop hps) h
   · cases hc
 case h_7 t len parts ho =>
   split at hc
   · rename_i e hd
     simp only [Option.bind_eq_some_iff] at hc
     obtain ⟨z, hz, ps, hps, hc⟩ := hc
     split at hc <;> cases hc
     rename_i hcond
     exact buildSlice_ok ho hd hz hcond.1 hcond.2 (parts_ok hop hps) h
   · cases hc
 case h_8 t x ho =>
   simp only [Option.bind_eq_some_iff] at hc
   obtain ⟨a, ha, n, hn, agg, hagg, hc⟩ := hc
   split at hc <;> cases hc
   rename_i hcond
   exact load_ok ho hn hagg hcond (hop _ _ ha) (fun b off blk hb => hm b blk (by simp [readA, hb])) h
 case h_9 t x y ho =>
   simp only [Option.bind_eq_some_iff, Option.map_eq_some_iff] at hc
   obtain ⟨_, _, _, _, _, _, _, _, rfl⟩ := hc
   simp [simpleA] at h
 case h_10 x ho =>
   simp only [Option.map_eq_some_iff] at hc
   obtain ⟨a, ha, rfl⟩ := hc
   exact nilCheck_ok ho (hop _ _ ha) h
 case h_11 op' t x y yt ho =>
   simp only [Option.bind_eq_some_iff] at hc
   obtain ⟨a, ha, b, hb, d, hd, hc⟩ := hc
   split at hc
   · rename_i fs
     simp only [Option.bind_eq_some_iff] at hc
     obtain ⟨neg, hneg, cs, hcs, hc⟩ := hc
     split at hc <;> cases hc
     rename_i hcond
     refine eqS_ok ho hd hcs hcond.1 hcond.2 ?_ (hop _ _ ha) (hop _ _ hb) h
     split at hneg <;> cases hneg <;> rfl
   · split at hc <;> cases hc
     rename_i hfit
     exact bin_ok ho hd (eqFit_spec hfit) (hop _ _ ha) (hop _ _ hb) h
 case h_12 op' t x ho =>
   simp only [Option.map_eq_some_iff] at hc
   obtain ⟨a, ha, rfl⟩ := hc
   exact un_ok ho (hop _ _ ha) h
 case h_13 src dst x ho =>
   simp only [Option.bind_eq_some_iff] at hc
   obtain ⟨a, ha, hc⟩ := hc
   unfold compConv at hc
   split at hc
   · rename_i k hd
     split at hc <;> cases hc
     rename_i ds hsrc
     exact convInt_ok ho hsrc hd (hop _ _ ha) h
   · rename_i hd
     split at hc
     · rename_i hsrc
       cases hc
       exact convSame_ok ho hsrc hd (hop _ _ ha) h
     · rename_i e hsrc
       split at hc <;> cases hc
       rename_i he
       exact bytesStr_ok ho hsrc hd he (hop _ _ ha) (fun b off len s blk hb => hm b blk (by simp [readA, hb])) h
     · cases hc
   · rename_i e hd
     split at hc
     case h_2 => cases hc
     rename_i he
     split at hc
     · rename_i hsrc
       cases hc
       exact strBytes_ok ho hsrc hd he (hop _ _ ha) h
     · split at hc <;> cases hc
       simp [simpleA] at h
     · cases hc
   · cases hc
 case h_14 t x ho =>
   simp only [Option.bind_eq_some_iff] at hc
   obtain ⟨a, ha, d, hd, hc⟩ := hc
   split at hc <;> cases hc
   rename_i hni
   cases h
   exact mkIfc_ok ho hd (fun ms e => by subst e; simp [notIfc] at hni) (hop _ _ ha)
 case h_15 g as bs ho =>
   split at hc
   case isFalse => cases hc
   rename_i hfn
   simp only [Option.bind_eq_some_iff, Option.map_eq_some_iff] at hc
   obtain ⟨as', has, bs', hbs, rfl⟩ := hc
   cases h
   refine mkFn_ok ho (fun l e => by subst e; simp [fnOk] at hfn) ?_ ?_
   · rw [Array.toList_map]; exact hop.list has
   · rw [Array.toList_map]; exact hop.list hbs
 case h_16 t hint ho =>
   simp only [Option.bind_eq_some_iff] at hc
   obtain ⟨h', hh, hc⟩ := hc
   split at hc <;> cases hc
   rename_i k e hd
   refine mkMap_ok ho hd (a := h'.map ρA) ?_ h
   cases hint with
   | none => cases hh; trivial
   | some x =>
     simp only [opdO, Option.map_eq_some_iff] at hh
     obtain ⟨b, hb, rfl⟩ := hh
     exact hop x b hb
 case h_17 t l c ho =>
   simp only [Option.bind_eq_some_iff] at hc
   obtain ⟨a, ha, b, hb, hc⟩ := hc
   split at hc
   case h_2 => cases hc
   rename_i e hd
   simp only [Option.bind_eq_some_iff] at hc
   obtain ⟨z, hz, bs, hbs, hc⟩ := hc
   split at hc <;> cases hc
   rename_i hs
   exact mkSlice_ok (s := z.length) ho hd hz hs hbs (hop _ _ ha) (hop _ _ hb) h
 case h_18 t x lo hi mx ho =>
   simp only [Option.bind_eq_some_iff] at hc
   obtain ⟨a, ha, lo', hlo, hi', hhi, mx', hmx, hc⟩ := hc
   split at hc
   · rename_i hd
     split at hc <;> cases hc
     rename_i hnone
     rw [Option.isNone_iff_eq_none] at hnone
     subst hnone
     exact sliceStr_ok ho hd (hop _ _ ha) (hop.opt hlo) (hop.opt hhi) h
   · rename_i e hd
     simp only [Option.bind_eq_some_iff] at hc
     obtain ⟨s, hs, hc⟩ := hc
     split at hc <;> cases hc
     rename_i hcond
     exact sliceSlc_ok ho (fun e => by have := hcond (by rw [e]; rfl); rwa [Option.isNone_iff_eq_none] at this) hd hs (hop _ _ ha) (hop.opt hlo) (hop.opt hhi) (hop.opt hmx) h
   · rename_i n e hd
     simp only [Option.bind_eq_some_iff] at hc
     obtain ⟨s, hs, hc⟩ := hc
     split at hc <;> cases hc
     rename_i hcond
     simp only [simpleA] at h
     split at h
     case h_2 => cases h
     rename_i hroom
     refine sliceArr_ok (f := f) (comp := comp) (w := w) ho (fun e => by have := hcond (by rw [e]; rfl); rwa [Option.isNone_iff_eq_none] at this) hd hs (hop _ _ ha) (hop.opt hlo) (hop.opt hhi) (hop.opt hmx) (fun b off B N hab hfb => ?_) h
     unfold roomA at hroom
     rw [hab] at hroom
     dsimp only at hroom
     split at hroom
     case h_2 => cases hroom
     rename_i c d k wr e' hrd
     have hroom : off + n * s ≤ k := by rwa [Nat.ble_eq] at hroom
     obtain ⟨obj, _, cs, lo', hi', _, _, hk, _⟩ := hm b _ (by simp only [readA, hab]) hrd B N hfb
     omega
   · cases hc
 case h_19 s x i ho =>
   simp only [Option.bind_eq_some_iff] at hc
   obtain ⟨a, ha, hc⟩ := hc
   split at hc
   case h_2 => cases hc
   rename_i fs hd
   simp only [Option.bind_eq_some_iff] at hc
   obtain ⟨fd, hfd, n, hn, hc⟩ := hc
   split at hc <;> cases hc
   rename_i hn0
   exact fieldAddr_ok ho hd hfd hn hn0 (hop _ _ ha) h
 case h_20 t x i ho =>
   simp only [Option.bind_eq_some_iff] at hc
   obtain ⟨a, ha, hc⟩ := hc
   split at hc
   case h_2 => cases hc
   rename_i fs hd
   simp only [Option.bind_eq_some_iff, Option.map_eq_some_iff] at hc
   obtain ⟨fd, hfd, n, hn, agg, hagg, rfl⟩ := hc
   exact field_ok ho hd hfd hn hagg (hop _ _ ha) h
 case h_21 t x y ho =>
   simp only [Option.bind_eq_some_iff] at hc
   obtain ⟨a, ha, b, hb, hc⟩ := hc
   split at hc
   · rename_i n e hd
     simp only [Option.map_eq_some_iff] at hc
     obtain ⟨s, hs, rfl⟩ := hc
     exact indexAddr_ok (arr := some n) ho hd hs (hop _ _ ha) (hop _ _ hb) h
   · rename_i e hd
     simp only [Option.map_eq_some_iff] at hc
     obtain ⟨s, hs, rfl⟩ := hc
     exact indexAddr_ok (arr := none) ho hd hs (hop _ _ ha) (hop _ _ hb) h
   · cases hc
 case h_22 t x y ho =>
   simp only [Option.bind_eq_some_iff] at hc
   obtain ⟨a, ha, b, hb, hc⟩ := hc
   split at hc
   · rename_i n e hd
     simp only [Option.bind_eq_some_iff, Option.map_eq_some_iff] at hc
     obtain ⟨s, hs, agg, hagg, rfl⟩ := hc
     exact indexArr_ok ho hd hs hagg (hop _ _ ha) (hop _ _ hb) h
   · rename_i hd
     cases hc
     exact indexStr_ok ho hd (hop _ _ ha) (hop _ _ hb) h
   · cases hc
 case h_23 t x y ok ho =>
   simp only [Option.bind_eq_some_iff] at hc
   obtain ⟨a, ha, b, hb, hc⟩ := hc
   split at hc
   case h_2 => cases hc
   rename_i k e hd
   simp only [Option.bind_eq_some_iff, Option.map_eq_some_iff] at hc
   obtain ⟨d, hdk, z, hz, rfl⟩ := hc
   exact lookup_ok ho hd hdk hz (hop _ _ ha) (hop _ _ hb) (fun b blk hb => hm b blk (by simp [readA, hb])) h
 case h_24 t x y z ho =>
   simp only [Option.bind_eq_some_iff] at hc
   obtain ⟨a, ha, b, hb, z', hz', hc⟩ := hc
   split at hc
   case h_2 => cases hc
   simp only [Option.map_eq_some_iff] at hc
   obtain ⟨d, hdk, rfl⟩ := hc
   simp [simpleA] at h
 case h_25 t x y z ho =>
   simp only [Option.bind_eq_some_iff] at hc
   obtain ⟨a, ha, b, hb, z', hz', hc⟩ := hc
   split at hc
   case h_2 => cases hc
   simp only [Option.map_eq_some_iff] at hc
   obtain ⟨d, hdk, rfl⟩ := hc
   simp [simpleA] at h
 case h_26 x i ho =>
   simp only [Option.map_eq_some_iff] at hc
   obtain ⟨a, ha, rfl⟩ := hc
   exact extract_ok ho (hop _ _ ha) h
 case h_27 c ho => exact simpleCall_ok ho hc hop hm h
 case h_28 => cases hc
end
end Abs
end Go.Proofs.YtfkchheildfkpaaGreatDoor.Refl
namespace Go.Proofs.YtfkchheildfkpaaGreatDoor.Refl
open Go Go.RowKit
namespace Abs
set_option linter.unusedVariables false
set_option linter.unusedSimpArgs false
section
variable {E : Env} {ρA : AOpd → AVal} {o : Oper} {S : AState} {R : Type} {r : R}
noncomputable def clearMapA (S : AState) (x : AVal) (K : AVal → AState → Option R) : Option R := match x with
 | .map b => clearA S [] (.map b) K
 | .map0 => clearA S [] .map0 K
 | _ => none
noncomputable def clearSlcA (S : AState) (z : List AVal) (x : AVal) (K : AVal → AState → Option R) : Option R := match x with
 | .slc b o n s => clearA S z (.slc b o n s) K
 | .slc0 => clearA S z .slc0 K
 | _ => none
noncomputable def effectA (ρ : AOpd → AVal) (S : AState) (op : AOp) (K : AVal → AState → Option R) : Option R := match op with
 | .store n agg a x => storeA S n agg (ρ a) (ρ x) K
 | .stringish x => stringishA S (ρ x) K
 | .mapUpdate d m k v => mapUpdateA S d (ρ m) (ρ k) (ρ v) K
 | .append s bs e z x y => appendA S s bs e z (ρ x) (ρ y) K
 | .copy s x y => copyA S s (ρ x) (ρ y) K
 | .delete d m k => deleteA S d (ρ m) (ρ k) K
 | .clearMap x => clearMapA S (ρ x) K
 | .clearSlc z x => clearSlcA S z (ρ x) K
 | .unsafeStr e p n => unsafeStrA S e (ρ p) (ρ n) K
 | _ => none
theorem EffOk.mono {K : AVal → AState → Option R} {p q : Inj → (Operand → Value) → Prop} (h : EffOk E S K r p o) (hpq : ∀ f ρ, q f ρ → p f ρ) : EffOk E S K r q o := by
 obtain ⟨v, S', h1, h2, h3⟩ := h
 exact ⟨v, S', h1, h2, fun M f w ρ h4 h5 h6 => h3 M f w ρ h4 h5 (hpq f ρ h6)⟩
theorem effectCall_ok {c : Call} {op : AOp} {K : AVal → AState → Option R} (ho : o.op = .call c) (hc : compCall E.P E.G o c = some op) (h : effectA ρA S op K = some r) : EffOk E S K r (fun f ρ => OpdsRel E.G f ρA ρ) o := by
 unfold compCall at hc
 split at hc
 · simp only [Option.bind_eq_some_iff, Option.map_eq_some_iff] at hc
   obtain ⟨g, _, as, _, rfl⟩ := hc
   simp [effectA] at h
 · cases hc
 · rename_i b hcal
   split at hc
   · simp only [Option.bind_eq_some_iff] at hc
     obtain ⟨a, ha, t, ht, d, hd, hc⟩ := hc
     split at hc <;> cases hc
     simp [effectA] at h
   · simp only [Option.bind_eq_some_iff] at hc
     obtain ⟨a, ha, t, ht, hc⟩ := hc
     split at hc <;> cases hc
     simp [effectA] at h
   · rename_i x y hx
     have hargs : c.args = #[x, y] := Array.ext' hx
     simp only [Option.bind_eq_some_iff] at hc
     obtain ⟨a, ha, b, hb, t, ht, hc⟩ := hc
     split at hc
     case h_2 => cases hc
     rename_i e hd
     simp only [Option.bind_eq_some_iff] at hc
     obtain ⟨s, hs, z, hz, bs, hbs, mk, hmk, hc⟩ := hc
     split at hc <;> cases hc
     rename_i hcond
     refine (append_ok ho hcal hargs ht hd hs hz hcond.1 (z := if mk then some z else none) (by rw [hmk]; cases mk <;> rfl) (fun zl hzl => by cases mk <;> simp at hzl; exact hzl.symm) hbs hcond.2.1 hcond.2.2 h).mono fun f ρ hop => ⟨hop _ _ ha, hop _ _ hb⟩
   · rename_i x y hx
     have hargs : c.args = #[x, y] := Array.ext' hx
     simp only [Option.bind_eq_some_iff] at hc
     obtain ⟨a, ha, b, hb, t, ht, hc⟩ := hc
     split at hc
     case h_2 => cases hc
     rename_i e hd
     simp only [Option.map_eq_some_iff] at hc
     obtain ⟨s, hs, rfl⟩ := hc
     exact (copy_ok ho hcal hargs ht hd hs h).mono fun f ρ hop => ⟨hop _ _ ha, hop _ _ hb⟩
   · rename_i x y hx
     have hargs : c.args = #[x, y] := Array.ext' hx
     simp only [Option.bind_eq_some_iff] at hc
     obtain ⟨a, ha, b, hb, t, ht, hc⟩ := hc
     split at hc
     case h_2 => cases hc
     rename_i k e hd
     simp only [Option.map_eq_some_iff] at hc
     obtain ⟨d, hdk, rfl⟩ := hc
     exact (delete_ok ho hcal hargs ht hd hdk h).mono fun f ρ hop => ⟨hop _ _ ha, hop _ _ hb⟩
   · rename_i x hx
     have hargs : c.args = #[x] := Array.ext' hx
     simp only [Option.bind_eq_some_iff] at hc
     obtain ⟨a, ha, t, ht, hc⟩ := hc
     split at hc
     · rename_i e hd
       simp only [Option.map_eq_some_iff] at hc
       obtain ⟨z, hz, rfl⟩ := hc
       simp only [effectA, clearSlcA] at h
       split at h
       · rename_i hq
         refine (clearSlice_ok ho hcal hargs ht hd hz (.inl ⟨_, _, _, _, rfl⟩) h).mono fun f ρ hop => ?_
         rw [← hq]; exact hop _ _ ha
       · rename_i hq
         refine (clearSlice_ok ho hcal hargs ht hd hz (.inr rfl) h).mono fun f ρ hop => ?_
         rw [← hq]; exact hop _ _ ha
       · cases h
     · rename_i k e hd
       cases hc
       simp only [effectA, clearMapA] at h
       split at h
       · rename_i hq
         refine (clearMap_ok ho hcal hargs ht hd (.inl ⟨_, rfl⟩) h).mono fun f ρ hop => ?_
         rw [← hq]; exact hop _ _ ha
       · rename_i hq
         refine (clearMap_ok ho hcal hargs ht hd (.inr rfl) h).mono fun f ρ hop => ?_
         rw [← hq]; exact hop _ _ ha
       · cases h
     · cases hc
   · simp only [Option.bind_eq_some_iff, Option.map_eq_some_iff] at hc
     obtain ⟨a, ha, b, hb, rfl⟩ := hc
     simp [effectA] at h
   · simp only [Option.bind_eq_some_iff, Option.map_eq_some_iff] at hc
     obtain ⟨a, ha, b, hb, rfl⟩ := hc
     simp [effectA] at h
   · simp only [Option.map_eq_some_iff] at hc
     obtain ⟨a, ha, rfl⟩ := hc
     simp [effectA] at h
   · rename_i x y hx
     have hargs : c.args = #[x, y] := Array.ext' hx
     simp only [Option.bind_eq_some_iff] at hc
     obtain ⟨a, ha, b, hb, t, ht, hc⟩ := hc
     split at hc
     case h_2 => cases hc
     rename_i e hd
     split at hc <;> cases hc
     rename_i hs
     exact (unsafeStr_ok ho hcal hargs ht hd hs h).mono fun f ρ hop => ⟨hop _ _ ha, hop _ _ hb⟩
   · cases hc
theorem effect_ok {op : AOp} {K : AVal → AState → Option R} (hc : compOp E.P E.G o = some op) (h : effectA ρA S op K = some r) : EffOk E S K r (fun f ρ => OpdsRel E.G f ρA ρ) o := by
 unfold compOp at hc
 split at hc
 case h_9 t x y ho =>
   simp only [Option.bind_eq_some_iff, Option.map_eq_some_iff] at hc
   obtain ⟨a, ha, b, hb, n, hn, agg, hagg, rfl⟩ := hc
   exact (store_ok ho hn h).mono fun f ρ hop => ⟨hop _ _ ha, hop _ _ hb⟩
 case h_13 src dst x ho =>
   simp only [Option.bind_eq_some_iff] at hc
   obtain ⟨a, ha, hc⟩ := hc
   unfold compConv at hc
   split at hc
   · split at hc <;> cases hc
     simp [effectA] at h
   · split at hc
     · cases hc; simp [effectA] at h
     · split at hc <;> cases hc
       simp [effectA] at h
     · cases hc
   · rename_i e hd
     split at hc
     case h_2 => cases hc
     rename_i he
     split at hc
     · cases hc; simp [effectA] at h
     · split at hc <;> cases hc
       rename_i heq
       subst heq
       exact (stringish_ok ho hd he h).mono fun f ρ hop => hop _ _ ha
     · cases hc
   · cases hc
 case h_24 t x y z ho =>
   simp only [Option.bind_eq_some_iff] at hc
   obtain ⟨a, ha, b, hb, z', hz', hc⟩ := hc
   split at hc
   case h_2 => cases hc
   rename_i k e hd
   simp only [Option.map_eq_some_iff] at hc
   obtain ⟨d, hdk, rfl⟩ := hc
   exact (mapUpdate_ok (.inl ho) hd hdk h).mono fun f ρ hop => ⟨hop _ _ ha, hop _ _ hb, hop _ _ hz'⟩
 case h_25 t x y z ho =>
   simp only [Option.bind_eq_some_iff] at hc
   obtain ⟨a, ha, b, hb, z', hz', hc⟩ := hc
   split at hc
   case h_2 => cases hc
   rename_i k e hd
   simp only [Option.map_eq_some_iff] at hc
   obtain ⟨d, hdk, rfl⟩ := hc
   exact (mapUpdate_ok (.inr ho) hd hdk h).mono fun f ρ hop => ⟨hop _ _ ha, hop _ _ hb, hop _ _ hz'⟩
 case h_27 c ho => exact effectCall_ok ho hc h
 case h_1 =>
   simp only [Option.bind_eq_some_iff, Option.map_eq_some_iff] at hc
   obtain ⟨_, _, rfl⟩ := hc
   simp [effectA] at h
 case h_2 =>
   simp only [Option.bind_eq_some_iff, Option.map_eq_some_iff] at hc
   obtain ⟨_, _, rfl⟩ := hc
   simp [effectA] at h
 case h_3 =>
   simp only [Option.bind_eq_some_iff, Option.map_eq_some_iff] at hc
   obtain ⟨_, _, _, _, _, _, rfl⟩ := hc
   simp [effectA] at h
 case h_4 =>
   simp only [Option.bind_eq_some_iff, Option.map_eq_some_iff] at hc
   obtain ⟨_, _, rfl⟩ := hc
   simp [effectA] at h
 case h_5 =>
   simp only [Option.bind_eq_some_iff, Option.map_eq_some_iff] at hc
   obtain ⟨_, _, rfl⟩ := hc
   simp [effectA] at h
 case h_6 =>
   split at hc
   · simp only [Option.bind_eq_some_iff, Option.map_eq_some_iff] at hc
     obtain ⟨_, _, _, _, _, _, rfl⟩ := hc
     simp [effectA] at h
   · simp only [Option.bind_eq_some_iff, Option.map_eq_some_iff] at hc
     obtain ⟨_, _, _, _, _, _, rfl⟩ := hc
     simp [effectA] at h
   · cases hc
 case h_7 =>
   split at hc
   · simp only [Option.bind_eq_some_iff, Option.map_eq_some_iff] at hc
     obtain ⟨_, _, _, _, hc⟩ := hc
     split at hc <;> cases hc
     simp [effectA] at h
   · cases hc
 case h_8 =>
   simp only [Option.bind_eq_some_iff, Option.map_eq_some_iff] at hc
   obtain ⟨_, _, _, _, _, _, hc⟩ := hc
   split at hc <;> cases hc
   simp [effectA] at h
 case h_10 =>
   simp only [Option.bind_eq_some_iff, Option.map_eq_some_iff] at hc
   obtain ⟨_, _, rfl⟩ := hc
   simp [effectA] at h
 case h_11 =>
   simp only [Option.bind_eq_some_iff, Option.map_eq_some_iff] at hc
   obtain ⟨_, _, _, _, _, _, hc⟩ := hc
   split at hc
   · simp only [Option.bind_eq_some_iff] at hc
     obtain ⟨_, _, _, _, hc⟩ := hc
     split at hc <;> cases hc
     simp [effectA] at h
   · split at hc <;> cases hc
     simp [effectA] at h
 case h_12 =>
   simp only [Option.bind_eq_some_iff, Option.map_eq_some_iff] at hc
   obtain ⟨_, _, rfl⟩ := hc
   simp [effectA] at h
 case h_14 =>
   simp only [Option.bind_eq_some_iff, Option.map_eq_some_iff] at hc
   obtain ⟨_, _, _, _, hc⟩ := hc
   split at hc <;> cases hc
   simp [effectA] at h
 case h_15 =>
   split at hc
   · simp only [Option.bind_eq_some_iff, Option.map_eq_some_iff] at hc
     obtain ⟨_, _, _, _, rfl⟩ := hc
     simp [effectA] at h
   · cases hc
 case h_16 =>
   simp only [Option.bind_eq_some_iff, Option.map_eq_some_iff] at hc
   obtain ⟨_, _, hc⟩ := hc
   split at hc <;> cases hc
   simp [effectA] at h
 case h_17 =>
   simp only [Option.bind_eq_some_iff, Option.map_eq_some_iff] at hc
   obtain ⟨_, _, _, _, hc⟩ := hc
   split at hc
   · simp only [Option.bind_eq_some_iff, Option.map_eq_some_iff] at hc
     obtain ⟨_, _, _, _, hc⟩ := hc
     split at hc <;> cases hc
     simp [effectA] at h
   · cases hc
 case h_18 =>
   simp only [Option.bind_eq_some_iff, Option.map_eq_some_iff] at hc
   obtain ⟨_, _, _, _, _, _, _, _, hc⟩ := hc
   split at hc
   · split at hc <;> cases hc
     simp [effectA] at h
   · simp only [Option.bind_eq_some_iff, Option.map_eq_some_iff] at hc
     obtain ⟨_, _, hc⟩ := hc
     split at hc <;> cases hc
     simp [effectA] at h
   · simp only [Option.bind_eq_some_iff, Option.map_eq_some_iff] at hc
     obtain ⟨_, _, hc⟩ := hc
     split at hc <;> cases hc
     simp [effectA] at h
   · cases hc
 case h_19 =>
   simp only [Option.bind_eq_some_iff, Option.map_eq_some_iff] at hc
   obtain ⟨_, _, hc⟩ := hc
   split at hc
   · simp only [Option.bind_eq_some_iff, Option.map_eq_some_iff] at hc
     obtain ⟨_, _, _, _, hc⟩ := hc
     split at hc <;> cases hc
     simp [effectA] at h
   · cases hc
 case h_20 =>
   simp only [Option.bind_eq_some_iff, Option.map_eq_some_iff] at hc
   obtain ⟨_, _, hc⟩ := hc
   split at hc
   · simp only [Option.bind_eq_some_iff, Option.map_eq_some_iff] at hc
     obtain ⟨_, _, _, _, _, _, rfl⟩ := hc
     simp [effectA] at h
   · cases hc
 case h_21 =>
   simp only [Option.bind_eq_some_iff, Option.map_eq_some_iff] at hc
   obtain ⟨_, _, _, _, hc⟩ := hc
   split at hc
   · simp only [Option.bind_eq_some_iff, Option.map_eq_some_iff] at hc
     obtain ⟨_, _, rfl⟩ := hc
     simp [effectA] at h
   · simp only [Option.bind_eq_some_iff, Option.map_eq_some_iff] at hc
     obtain ⟨_, _, rfl⟩ := hc
     simp [effectA] at h
   · cases hc
 case h_22 =>
   simp only [Option.bind_eq_some_iff, Option.map_eq_some_iff] at hc
   obtain ⟨_, _, _, _, hc⟩ := hc
   split at hc
   · simp only [Option.bind_eq_some_iff, Option.map_eq_some_iff] at hc
     obtain ⟨_, _, _, _, rfl⟩ := hc
     simp [effectA] at h
   · cases hc
     simp [effectA] at h
   · cases hc
 case h_23 =>
   simp only [Option.bind_eq_some_iff, Option.map_eq_some_iff] at hc
   obtain ⟨_, _, _, _, hc⟩ := hc
   split at hc
   · simp only [Option.bind_eq_some_iff, Option.map_eq_some_iff] at hc
     obtain ⟨_, _, _, _, rfl⟩ := hc
     simp [effectA] at h
   · cases hc
 case h_26 =>
   simp only [Option.bind_eq_some_iff, Option.map_eq_some_iff] at hc
   obtain ⟨_, _, rfl⟩ := hc
   simp [effectA] at h
 case h_28 => cases hc
end
end Abs
end Go.Proofs.YtfkchheildfkpaaGreatDoor.Refl
namespace Go.Proofs.YtfkchheildfkpaaGreatDoor.Refl
open Go Go.RowKit
namespace Abs
set_option linter.unusedVariables false
set_option linter.unusedSimpArgs false
def pushOf (P : Program) : Next → Option Frame
 | .enter f args => some (Frame.enter P f args .normal)
 | .round l f tmps assign body => some (Frame.round l f tmps assign body .normal)
 | _ => none
def Back (P : Program) (fr : Frame) (w : World) (Q : Value → World → Prop) : Prop :=
 ∀ c cs, ∃ v w', Q v w' ∧ Steps P (lone fr (c :: cs) w) (lone (c.finish v) cs w')
def Goes (P : Program) (s : Result Next) (Q : Value → World → Prop) : Prop :=
 (∃ v w', s = .ok (.value v) w' ∧ Q v w') ∨ (∃ w', s = .ok .skip w' ∧ Q undef w') ∨ ∃ nx fr w', s = .ok nx w' ∧ pushOf P nx = some fr ∧ Back P fr w' Q
theorem Back.mono {P : Program} {fr : Frame} {w : World} {Q Q' : Value → World → Prop} (h : Back P fr w Q) (hq : ∀ v w, Q v w → Q' v w) : Back P fr w Q' :=
 fun c cs => let ⟨v, w', q, s⟩ := h c cs; ⟨v, w', hq _ _ q, s⟩
theorem Goes.mono {P : Program} {s : Result Next} {Q Q' : Value → World → Prop} (h : Goes P s Q) (hq : ∀ v w, Q v w → Q' v w) : Goes P s Q' := by
 rcases h with ⟨v, w', h1, h2⟩ | ⟨w', h1, h2⟩ | ⟨nx, fr, w', h1, h2, h3⟩
 · exact .inl ⟨v, w', h1, hq _ _ h2⟩
 · exact .inr (.inl ⟨w', h1, hq _ _ h2⟩)
 · exact .inr (.inr ⟨nx, fr, w', h1, h2, h3.mono hq⟩)
section
variable {P : Program} {b : Frame} {a : Act} {k : List Item} {cs : List Frame} {w : World} {ops : Array Oper} {Q : Value → World → Prop}
theorem apply_goes {fr0 fr : Frame} {w0 : World} (hto : match fr.todo with | .inRegion _ _ :: _ => True | .inRangeFunc _ :: _ => True | _ => False) {s : Sem Next} (h : Goes P (s.run P w) Q) (hg : (stepG P true { frame := fr0, callers := cs, status := .running, dying := none } w0).bare = (stepG.apply P true fr cs none s w).bare) :
   ∃ v w', Q v w' ∧ Steps P (lone fr0 cs w0) (lone (fr.finish v) cs w') := by
 rcases h with ⟨v, w', h1, h2⟩ | ⟨w', h1, h2⟩ | ⟨nx, fr', w', h1, h2, h3⟩
 · exact ⟨v, w', h2, .one (step_lone_go (by rw [hg]; simp [stepG.apply, Sem.runT_eq, h1]))⟩
 · exact ⟨undef, w', h2, .one (step_lone_go (by rw [hg]; simp [stepG.apply, Sem.runT_eq, h1]))⟩
 · obtain ⟨v, w2, hq, hs⟩ := h3 fr cs
   refine ⟨v, w2, hq, .head ?_ hs⟩
   cases nx <;> simp only [pushOf] at h2 <;> cases h2
   · refine step_lone_go ?_
     rw [hg]
     simp only [stepG.apply, Sem.runT_eq, h1, if_true]
     simp
     split
     · rename_i he; rw [he] at hto; exact hto.elim
     · rfl
   · refine step_lone_go ?_
     rw [hg]
     simp only [stepG.apply, Sem.runT_eq, h1, if_true]
     simp
theorem op_goes {i : Nat} {rest : List Nat} {o : Oper} (ho : ops[i]? = some o) (hw : Region.wanted o (yielded ops a.tmps) = true) (hd : ∀ c, o.op ≠ .defer c) (h : Goes P ((execOp a.eval o).run P w) Q) :
   ∃ v w', Q v w' ∧ Steps P (lone (b.atR a (.inRegion ops (i :: rest) :: k)) cs w) (lone (b.atR (a.put o.dst v) (.inRegion ops rest :: k)) cs w') := by
 obtain ⟨v, w', hq, hs⟩ := apply_goes (P := P) (fr0 := b.atR a (.inRegion ops (i :: rest) :: k)) (fr := b.atR a (.inRegion ops (i :: rest) :: k)) (w0 := w) (cs := cs) (w := w) (by simp [Frame.atR]) h (by rw [stepGR_op ho hw, Oper.semAt_eq _ _ _ hd])
 refine ⟨v, w', hq, ?_⟩
 rw [Frame.finish_atR, ho] at hs
 exact hs
def Arr (P : Program) (m : Machine) (b : Frame) (k : List Item) (cs : List Frame) : AExit → Act → World → Prop
 | .normal, a, w => Steps P m (lone (b.atR a k) cs w)
 | .exit id, a, w => ∃ k', Steps P m (lone (b.atR a (.code (.exit id) :: k')) cs w) ∧ exitTo id k' = exitTo id k
 | .ret, a, w => ∃ k', Steps P m (lone (b.atR a (.code .ret :: k')) cs w)
theorem Arr.of_steps {m m' : Machine} {e : AExit} (h : Steps P m m') (h' : Arr P m' b k cs e a w) : Arr P m b k cs e a w := by
 cases e with
 | normal => exact h.trans h'
 | exit id => obtain ⟨k', h1, h2⟩ := h'; exact ⟨k', h.trans h1, h2⟩
 | ret => obtain ⟨k', h1⟩ := h'; exact ⟨k', h.trans h1⟩
theorem Arr.pass {m : Machine} {e : AExit} {x : Item} (hx : ∀ id, exitTo id (x :: k) = exitTo id k) (hn : e ≠ .normal) (h : Arr P m b (x :: k) cs e a w) : Arr P m b k cs e a w := by
 cases e with
 | normal => exact absurd rfl hn
 | exit id => obtain ⟨k', h1, h2⟩ := h; exact ⟨k', h1, h2.trans (hx id)⟩
 | ret => exact h
theorem stepR_scope {c : Code} : step P (lone (b.atR a (.code (.scope c) :: k)) cs w) = .next (lone (b.atR a (.code c :: .inScope c :: k)) cs w) :=
 step_lone_go (by simp [stepG, stepG.exec, Frame.atR])
theorem stepR_inScope {c : Code} : step P (lone (b.atR a (.inScope c :: k)) cs w) = .next (lone (b.atR a k) cs w) :=
 step_lone_go (by simp [stepG, stepG.exec, Frame.atR])
end
end Abs
end Go.Proofs.YtfkchheildfkpaaGreatDoor.Refl
namespace Go.Proofs.YtfkchheildfkpaaGreatDoor.Refl
open Go Go.RowKit
namespace Abs
set_option linter.unusedVariables false
set_option linter.unusedSimpArgs false
def tmpOf : Operand → Option Nat
 | .tmp t => some t
 | _ => none
def atmpOf : AOpd → Option Nat
 | .tmp t => some t
 | _ => none
def AOp.opds : AOp → List AOpd
 | .mov x | .box x _ | .load _ _ x | .nilCheck x | .un _ x | .convInt _ x | .convSame x | .strBytes _ x | .bytesStr x | .stringish x | .mkIfc _ x | .fieldAddr _ x | .field _ _ _ x | .extract x _
 | .len _ x | .cap x | .clearMap x | .clearSlc _ x | .sliceData x => [x]
 | .pick c a b => [c, a, b]
 | .alloc _ _ => []
 | .build _ ps => ps.map (·.2.2)
 | .buildSlice _ _ _ _ ps => ps.map (·.2.2)
 | .store _ _ a x => [a, x]
 | .bin _ _ x y => [x, y]
 | .mkFn _ a b => a ++ b
 | .mkMap h => h.toList
 | .mkSlice _ _ _ l c => [l, c]
 | .sliceStr x lo hi => x :: (lo.toList ++ hi.toList)
 | .sliceArr _ _ x lo hi mx => x :: (lo.toList ++ hi.toList ++ mx.toList)
 | .sliceSlc _ x lo hi mx => x :: (lo.toList ++ hi.toList ++ mx.toList)
 | .indexAddr _ _ x i | .indexStr x i | .indexArr _ _ _ x i => [x, i]
 | .lookup _ _ _ m k => [m, k]
 | .mapUpdate _ m k v => [m, k, v]
 | .append _ _ _ _ x y => [x, y]
 | .copy _ x y => [x, y]
 | .delete _ m k => [m, k]
 | .minmax _ x y => [x, y]
 | .unsafeStr _ p n => [p, n]
 | .call f as => f :: as
 | .eqS _ _ x y => [x, y]
def readsT (o : Oper) : List Nat := o.op.operands.toList.filterMap tmpOf
def readB : AOp → Bool
 | .load .. | .bytesStr _ | .lookup .. | .len .. | .sliceArr .. => true
 | _ => false
def newB : AOp → Bool
 | .alloc .. | .box .. | .buildSlice .. | .strBytes .. | .mkMap _ | .mkSlice .. => true
 | _ => false
def maskOf (acc : List Nat) (o : Oper) : Nat := o.after.toList.foldl (fun m e => if Region.binds .any e then m ||| (1 <<< e.on) ||| acc.getD e.on 0 else m) 0
def masks : List Oper → List Nat → List Nat
 | [], acc => acc
 | o :: r, acc => masks r (acc ++ [maskOf acc o])
def ahead (ms : List Nat) (j i : Nat) : Bool := (ms.getD i 0).testBit j
section
variable (P : Program) (G : Nat)
def mapO {α β : Type} (f : α → Option β) : List α → Option (List β)
 | [] => some []
 | x :: l => (f x).bind fun y => (mapO f l).map (y :: ·)
def guardC (ops : List Oper) (o : Oper) : Option (Option (Nat × Bool)) := match o.guard with
 | none => some none
 | some (j, b) => ((ops[j]?).bind (·.dst)).map fun d => some (d, b)
def compBare (ops : List Oper) (o : Oper) : Option AOper := (compOp P G o).bind fun op => (guardC ops o).bind fun g =>
 if (op.opds.filterMap atmpOf).all fun t => (readsT o).contains t then some ⟨o.dst, op, g, [], false⟩ else none
def dstB (n : Nat) (o : AOper) : Bool := match o.dst with
 | some d => decide (d < n)
 | none => true
def looksT (o : Oper) (a : AOper) : List Nat := match a.guard with
 | some (t, _) => t :: readsT o
 | none => readsT o
def unOf (as : List AOper) (ms : List Nat) (i : Nat) (a : AOper) : List Nat := (List.range i).filter fun j => !(ahead ms j i) && match as[j]? with
 | some b => if effB a.op then !(effB b.op) && (readB b.op || newB b.op) else readB a.op && effB b.op
 | none => false
def drawOkAt (ops : List Oper) (as : List AOper) (ms : List Nat) (i : Nat) : Bool := match ops[i]?, as[i]? with
 | some o, some a =>
   o.after.toList.all (fun e => !(Region.binds .any e) || decide (e.on < i)) &&
   (List.range as.length).all (fun j => match as[j]? with
     | some b => decide (j = i) || ((match b.dst with
       | some d => (a.dst != some d) && (!((looksT o a).contains d) || (if j < i then ahead ms j i else ahead ms i j))
       | none => true) && (!(decide (j < i) && effB a.op && effB b.op) || ahead ms j i))
     | none => false) &&
   (match a.guard, a.dst with
     | some (t, _), some d => t != d
     | _, _ => true)
 | _, _ => false
def usOf (as : List AOper) (ms : List Nat) : List (List Nat) := (List.range as.length).map fun i => match as[i]? with
 | some a => unOf as ms i a
 | none => []
def withUn (as : List AOper) (ms : List Nat) : List AOper :=
 let us := usOf as ms
 (List.range as.length).map fun i => match as[i]? with
   | some a => { a with un := us.getD i [], rc := us.any (·.contains i) }
   | none => ⟨none, .alloc [] 0, none, [], false⟩
def boundOf (as : List AOper) : Nat := as.foldl (fun m a => match a.dst with | some d => max m (d + 1) | none => m) 0
def compRegion (ops : List Oper) (draw : Bool) : Option (List AOper) := (mapO (compBare P G ops) ops).bind fun as =>
 if draw then
   let ms := masks ops []
   if Nat.ble ops.length 1000000000 && (List.range as.length).all (drawOkAt ops as ms) then some (withUn as ms) else none
 else some as
def compC : Code → ACode
 | .skip | .label _ => .skip
 | .region _ ops draw => match compRegion P G ops.toList draw with
   | some l => .region (boundOf l) l draw
   | none => .no
 | .seq a b => .seq (compC a) (compC b)
 | .cond c a b => match opdA G c with
   | some c => .cond c (compC a) (compC b)
   | none => .no
 | .block id c => .block id (compC c)
 | .loop c => .loop (compC c)
 | .exit id => .exit id
 | .ret => .ret
 | .scope c => compC c
 | .rangeFunc f ps a b => match opdA G f with
   | some f => .rangeFunc f ps.toList (compC a) (compC b) a b
   | none => .no
 | .goto _ | .refuse _ => .no
end
section
variable {R : Type}
abbrev KV (R : Type) := AVal → AState → Option R
abbrev KX (R : Type) := AExit → T AVal → List Nat → AState → Option R
structure Cfg (R : Type) where
 fns : T AFunc
 orc : T (List AVal → AState → KV R → Option R)
noncomputable def tset (τ : T AVal) (d : Option Nat) (v : AVal) (K : T AVal → Option R) : Option R := match d with
 | none => K τ
 | some d => T.setK v 40 τ d K
noncomputable def guardA (τ : T AVal) (g : Option (Nat × Bool)) : Bool := match g with
 | none => true
 | some (t, b) => match tget τ t with
   | .bool c => match b, c with
     | true, true => true
     | false, false => true
     | _, _ => false
   | _ => false
noncomputable def mapE (τ : T AVal) (l : List AOpd) : List AVal := List.rec (motive := fun _ => List AVal) [] (fun x _ ih => AOpd.eval τ x :: ih) l
theorem mapE_eq (τ : T AVal) : ∀ l : List AOpd, mapE τ l = l.map (AOpd.eval τ)
 | [] => rfl
 | x :: l => by show AOpd.eval τ x :: mapE τ l = _; rw [mapE_eq τ l]; rfl
def plainB : ABlock → Bool
 | .loop .. => false
 | _ => true
noncomputable def doOp (call : AVal → List AVal → AState → KV R → Option R) (τ : T AVal) (op : AOp) (S : AState) (K : KV R) : Option R := match op with
 | .call g as => forceV (AOpd.eval τ g) fun g => forceL (mapE τ as) fun as => call g as S fun v S => forceV v fun v => K v S
 | op => match effB op with
   | true => effectA (AOpd.eval τ) S op fun v S => forceV v fun v => K v S
   | false => match simpleA (AOpd.eval τ) S.heap.get op with
     | some (.val v) => forceV v fun v => K v S
     | some (.new b v) => match plainB b with
       | true => allocS S b fun id S => forceV (v id) fun v => K v S
       | false => none
     | none => none
noncomputable def runOps (call : AVal → List AVal → AState → KV R → Option R) (l : List AOper) : T AVal → AState → (T AVal → AState → Option R) → Option R :=
 List.rec (motive := fun _ => T AVal → AState → (T AVal → AState → Option R) → Option R) (fun τ S K => K τ S)
   (fun o _ ih τ S K => match guardA τ o.guard with
     | true => doOp call τ o.op S fun v S => tset τ o.dst v fun τ => ih τ S K
     | false => tset τ o.dst undefA fun τ => ih τ S K) l
noncomputable def mergeW (W : List Nat) (fl : Nat) (wl : List Nat) (K : List Nat → Option R) : Option R :=
 List.rec (motive := fun _ => List Nat → Option R) (fun wl => K wl) (fun b _ ih wl => addToK b fl wl ih) W wl
noncomputable def disjB (a b : List Nat) : Bool := List.rec (motive := fun _ => Bool) true (fun x _ ih => match memB x b with | true => false | false => ih) a
noncomputable def checkUn (recs : T (List Nat)) (X : List Nat) (un : List Nat) : Bool :=
 List.rec (motive := fun _ => Bool) true (fun j _ ih => match recs.get j with
   | some l => match disjB l X with
     | true => ih
     | false => false
   | none => false) un
noncomputable def newOf (op : AOp) (S S' : AState) (rd : List Nat) (K : List Nat → Option R) : Option R := match Nat.beq S.next S'.next with
 | true => K rd
 | false => match newB op with
   | true => K (S.next :: rd)
   | false => none
noncomputable def doDraw (call : AVal → List AVal → AState → KV R → Option R) (τ : T AVal) (op : AOp) (S : AState) (K : AVal → AState → List Nat → Option R) : Option R := match effB op with
 | true => match S with
   | ⟨h, n, fl, wl⟩ => doOp call τ op ⟨h, n, n, []⟩ fun v S' => match S' with
     | ⟨h', n', _, W⟩ => mergeW W fl wl fun wl' => K v ⟨h', n', fl, wl'⟩ W
 | false => match readA (AOpd.eval τ) op with
   | none => doOp call τ op S fun v S' => newOf op S S' [] fun X => K v S' X
   | some b => forceN b fun b => doOp call τ op S fun v S' => newOf op S S' [b] fun X => K v S' X
noncomputable def keepX (rc : Bool) (X : List Nat) (recs : T (List Nat)) (i : Nat) (K : T (List Nat) → Option R) : Option R := match rc with
 | true => T.setK X 40 recs i K
 | false => K recs
noncomputable def runDraw (call : AVal → List AVal → AState → KV R → Option R) (l : List AOper) : Nat → T (List Nat) → T AVal → AState → (T AVal → AState → Option R) → Option R :=
 List.rec (motive := fun _ => Nat → T (List Nat) → T AVal → AState → (T AVal → AState → Option R) → Option R) (fun _ _ τ S K => K τ S)
   (fun o _ ih i recs τ S K => match guardA τ o.guard with
     | true => doDraw call τ o.op S fun v S X => match checkUn recs X o.un with
       | true => tset τ o.dst v fun τ => keepX o.rc X recs i fun recs => forceN (Nat.succ i) fun i => ih i recs τ S K
       | false => none
     | false => tset τ o.dst undefA fun τ => keepX o.rc [] recs i fun recs => forceN (Nat.succ i) fun i => ih i recs τ S K) l
noncomputable def lateL (a b : List AVal) : List AVal := List.rec (motive := fun _ => List AVal) b (fun x _ ih => x :: ih) a
theorem lateL_eq (b : List AVal) : ∀ a, lateL a b = a ++ b
 | [] => rfl
 | x :: a => by show x :: lateL a b = _; rw [lateL_eq b a]; rfl
noncomputable def writeC (S : AState) (b : Nat) (blk : ABlock) (K : AState → Option R) : Option R := match small S.next with
 | true => writeS S b blk K
 | false => none
theorem writeC_eq {S : AState} {b : Nat} {blk : ABlock} {K : AState → Option R} {r : R} (h : writeC S b blk K = some r) : S.next ≤ 1000000000 ∧ K ⟨T.put blk 40 S.heap b, S.next, S.floor, logA S b⟩ = some r := by
 unfold writeC at h
 split at h
 · rename_i hs
   rw [writeS_eq] at h
   exact ⟨small_lt hs, h⟩
 · cases h
noncomputable def unwA (ds : List Nat) : AState → (AState → Option R) → Option R :=
 List.rec (motive := fun _ => AState → (AState → Option R) → Option R) (fun S K => K S) (fun d _ ih S K => match S.heap.get d with
   | some .defd => writeC S d .dead fun S => ih S K
   | _ => none) ds
noncomputable def resA (τ : T AVal) (S : AState) (x : ARes) (K : AVal → Option R) : Option R := match x with
 | .tmp t => forceV (tget τ t) K
 | .cell t n agg => match loadA S.heap.get n agg (tget τ t) with
   | some (.val v) => forceV v K
   | _ => none
noncomputable def resL (τ : T AVal) (S : AState) (l : List ARes) : (List AVal → Option R) → Option R :=
 List.rec (motive := fun _ => (List AVal → Option R) → Option R) (fun K => K []) (fun x _ ih K => resA τ S x fun v => ih fun l => K (v :: l)) l
noncomputable def resultsA (τ : T AVal) (S : AState) (l : List ARes) (K : AVal → Option R) : Option R := resL τ S l fun vs => match vs with
 | [v] => K v
 | vs => K (.tup vs)
abbrev Exec (R : Type) := Option Nat → Nat → ACode → T AVal → List Nat → AState → KX R → Option R
noncomputable def callB (ih : Exec R) (fn : AFunc) (args : List AVal) (S : AState) (K : KV R) : Option R := match Nat.ble args.length fn.ntmps, small fn.ntmps with
 | true, true => forceT (putCells .leaf 0 args) fun τ => ih none fn.ntmps fn.body τ [] S fun x τ ds S => match x with
   | .exit _ => none
   | _ => unwA ds S fun S => resultsA τ S fn.results fun v => K v S
 | _, _ => none
noncomputable def callF (C : Cfg R) (ih : Exec R) (f : Nat) (args : List AVal) (S : AState) (K : KV R) : Option R := match C.orc.get f with
 | some o => o args S K
 | none => match C.fns.get f with
   | some fn => callB ih fn args S K
   | none => none
noncomputable def bindP (ps : List Nat) : List AVal → T AVal → (T AVal → Option R) → Option R :=
 List.rec (motive := fun _ => List AVal → T AVal → (T AVal → Option R) → Option R) (fun args τ K => match args with | [] => K τ | _ :: _ => none)
   (fun p _ ih args τ K => match args with
     | [] => none
     | v :: args => T.setK v 40 τ p fun τ => ih args τ K) ps
noncomputable def callY (ih : Exec R) (l : Nat) (args : List AVal) (S : AState) (K : KV R) : Option R := match S.heap.get l with
 | some (.loop .ready _ size tmps ps assign body _ _ _) => match ps.all (fun p => Nat.ble (Nat.succ p) size), small size with
   | true, true => bindP ps args tmps fun τ => ih (some l) size assign τ [] S fun x τ ds S => match x, ds, S.heap.get l with
     | .normal, [], some (.loop .ready pend size' tmps ps assign' body' ca cb dsb) => writeC S l (.loop .busy pend size' tmps ps assign' body' ca cb dsb) fun S =>
       ih (some l) size body τ [] S fun x τ ds S => match ds, S.heap.get l with
         | [], some (.loop _ _ size' tmps ps assign' body' ca cb dsb) => match x with
           | .normal => writeC S l (.loop .ready none size' tmps ps assign' body' ca cb dsb) fun S => K (.bool true) S
           | .exit id => writeC S l (.loop .done (some (.exit id)) size' tmps ps assign' body' ca cb dsb) fun S => K (.bool false) S
           | .ret => writeC S l (.loop .done (some .ret) size' tmps ps assign' body' ca cb dsb) fun S => K (.bool false) S
         | _, _ => none
     | _, _, _ => none
   | _, _ => none
 | _ => none
noncomputable def callV (C : Cfg R) (ih : Exec R) (g : AVal) (args : List AVal) (S : AState) (K : KV R) : Option R := match g with
 | .fn (.func f) a b => callF C ih f (lateL a (lateL args b)) S K
 | .fn (.yield l) [] _ => callY ih l args S K
 | _ => none
noncomputable def rangeK (C : Cfg R) (ih : Exec R) (f : AVal) (l : Nat) (τ : T AVal) (ds : List Nat) (S : AState) (K : KX R) : Option R :=
 callV C ih f [.fn (.yield l) [] []] S fun _ S => match S.heap.get l with
   | some (.loop st pend size tmps ps assign body ca cb dsb) => match st with
     | .busy => none
     | _ => writeC S l (.loop .exhausted pend size tmps ps assign body ca cb dsb) fun S => match pend with
       | none => K .normal τ ds S
       | some .ret => K .ret τ ds S
       | some (.exit id) => K (.exit id) τ ds S
       | _ => none
   | _ => none
noncomputable def execStep (C : Cfg R) (ih : Exec R) : Exec R := fun ro size c τ ds S K => match c with
 | .skip => K .normal τ ds S
 | .region bound ops draw => match Nat.ble bound size with
   | true => match draw with
     | true => runDraw (callV C ih) ops 0 .leaf τ S fun τ S => K .normal τ ds S
     | false => runOps (callV C ih) ops τ S fun τ S => K .normal τ ds S
   | false => none
 | .seq a b => ih ro size a τ ds S fun x τ ds S => match x with
   | .normal => ih ro size b τ ds S K
   | x => K x τ ds S
 | .cond c a b => match AOpd.eval τ c with
   | .bool true => ih ro size a τ ds S K
   | .bool false => ih ro size b τ ds S K
   | _ => none
 | .block id c => ih ro size c τ ds S fun x τ ds S => match x with
   | .exit id' => match Nat.beq id id' with
     | true => K .normal τ ds S
     | false => K (.exit id') τ ds S
   | x => K x τ ds S
 | .loop c => ih ro size c τ ds S fun x τ ds S => match x with
   | .normal => ih ro size (.loop c) τ ds S K
   | x => K x τ ds S
 | .exit id => K (.exit id) τ ds S
 | .ret => K .ret τ ds S
 | .no => none
 | .rangeFunc f ps assign body ca cb => forceV (AOpd.eval τ f) fun f => match ro with
   | none => allocS S .defd fun d S => allocS S (.loop .ready none size τ ps assign body ca cb d) fun l S => rangeK C ih f l τ (d :: ds) S K
   | some l0 => match S.heap.get l0 with
     | some (.loop _ _ _ _ _ _ _ _ _ d) => allocS S (.loop .ready none size τ ps assign body ca cb d) fun l S => rangeK C ih f l τ ds S K
     | _ => none
noncomputable def exec (C : Cfg R) (n : Nat) : Exec R := Nat.rec (motive := fun _ => Exec R) (fun _ _ _ _ _ _ _ => none) (fun _ ih => execStep C ih) n
end
end Abs
end Go.Proofs.YtfkchheildfkpaaGreatDoor.Refl
namespace Go.Proofs.YtfkchheildfkpaaGreatDoor.Refl
open Go Go.RowKit
namespace Abs
set_option linter.unusedVariables false
set_option linter.unusedSimpArgs false
theorem map_congr' {α β : Type} {f g : α → β} : ∀ {l : List α}, (∀ x ∈ l, f x = g x) → l.map f = l.map g
 | [], _ => rfl
 | x :: l, h => by rw [List.map_cons, List.map_cons, h x (List.mem_cons_self ..), map_congr' fun y hy => h y (List.mem_cons_of_mem _ hy)]
theorem opt_congr {α β : Type} {f g : α → β} {x : Option α} (h : ∀ y ∈ x.toList, f y = g y) : x.map f = x.map g := by
 cases x with
 | none => rfl
 | some y => simp [h y (by simp)]
theorem fillA_congr {ρ ρ' : AOpd → AVal} : ∀ {ps : List (Nat × Nat × AOpd)} {z : List AVal}, (∀ x ∈ ps.map (·.2.2), ρ x = ρ' x) → fillA ρ ps z = fillA ρ' ps z
 | [], z, _ => rfl
 | p :: ps, z, h => by
   have h0 := h p.2.2 (by simp)
   have ih' := fun z => fillA_congr (ps := ps) (z := z) fun x hx => h x (by simp at hx ⊢; exact .inr hx)
   simp only [fillA, h0, ih']
theorem simpleA_congr {ρ ρ' : AOpd → AVal} {rd : Nat → Option ABlock} {op : AOp} (h : ∀ x ∈ op.opds, ρ x = ρ' x) : simpleA ρ rd op = simpleA ρ' rd op := by
 cases op <;> simp only [AOp.opds, List.mem_cons, List.not_mem_nil, or_false, forall_eq_or_imp, forall_eq, List.mem_append, or_imp, forall_and] at h <;> simp only [simpleA] <;> first
   | rfl
   | (simp only [h]; done)
   | skip
 case build z ps => unfold buildA; rw [fillA_congr h]
 case buildSlice z len s e ps => unfold buildSliceA; rw [fillA_congr h]
 case mkFn f a b => rw [map_congr' h.1, map_congr' h.2]
 case mkMap x => rw [opt_congr h]
 case sliceStr x lo hi => rw [h.1, opt_congr h.2.1, opt_congr h.2.2]
 case sliceArr n s x lo hi mx => rw [h.1, opt_congr h.2.1.1, opt_congr h.2.1.2, opt_congr h.2.2]
 case sliceSlc s x lo hi mx => rw [h.1, opt_congr h.2.1.1, opt_congr h.2.1.2, opt_congr h.2.2]
theorem effectA_congr {R : Type} {ρ ρ' : AOpd → AVal} {S : AState} {K : AVal → AState → Option R} {op : AOp} (h : ∀ x ∈ op.opds, ρ x = ρ' x) : effectA ρ S op K = effectA ρ' S op K := by
 cases op <;> simp only [AOp.opds, List.mem_cons, List.not_mem_nil, or_false, forall_eq_or_imp, forall_eq] at h <;> simp only [effectA] <;> first
   | rfl
   | (simp only [h]; done)
theorem readA_congr {ρ ρ' : AOpd → AVal} {op : AOp} (h : ∀ x ∈ op.opds, ρ x = ρ' x) : readA ρ op = readA ρ' op := by
 cases op <;> simp only [AOp.opds, List.mem_cons, List.not_mem_nil, or_false, forall_eq_or_imp, forall_eq] at h <;> simp only [readA] <;> first
   | rfl
   | (simp only [h]; done)
section
variable {E : Env} {R : Type} {r : R}
def OpPost (E : Env) (M : Nat) (f : Inj) (S : VSt) (w : World) (v : AVal) (S' : VSt) (v' : Value) (w' : World) : Prop := ∃ f', Step E M f S w f' S' w' ∧ VRel f' v v'
def CallOk (E : Env) (R : Type) (call : AVal → List AVal → AState → KV R → Option R) : Prop :=
 ∀ (g : AVal) (as : List AVal) (S : AState) (K : KV R) (r : R), call g as S K = some r → AOk E S → ∃ v S', K v S' = some r ∧ AStep E S S' ∧
   ∀ (M : Nat) (f : Inj) (w : World) (gv : Value) (us : Array Value), Sim E M f S.v w → S'.next ≤ M → VRel f g gv → VRels f as us.toList →
     Goes E.P ((Deferred.ofValue gv us >>= fun d => invoke d.target d.args).run E.P w) (OpPost E M f S.v w v S'.v)
def Looks (f : Inj) (τ : T AVal) (o : Oper) (a : Act) : Prop := ∀ t, t ∈ readsT o → VRel f (tget τ t) (a.tmps.getD t undef)
noncomputable def evalOn (τ : T AVal) (o : Oper) : AOpd → AVal
 | .tmp t => if t ∈ readsT o then tget τ t else undefA
 | .const v => v
def evalOn' (a : Act) (o : Oper) : Operand → Value
 | .tmp t => if t ∈ readsT o then a.eval (.tmp t) else undef
 | x => a.eval x
theorem mem_readsT {o : Oper} {t : Nat} : t ∈ readsT o ↔ Operand.tmp t ∈ o.op.operands := by
 unfold readsT
 rw [List.mem_filterMap]
 constructor
 · rintro ⟨x, hx, ht⟩
   cases x <;> simp only [tmpOf] at ht <;> cases ht
   exact Array.mem_toList_iff.1 hx
 · exact fun h => ⟨_, Array.mem_toList_iff.2 h, rfl⟩
theorem not_select {P : Program} {G : Nat} {o : Oper} {op : AOp} (hc : compOp P G o = some op) : ∀ cs b, o.op ≠ .select cs b := by
 intro cs b h
 simp [compOp, h] at hc
theorem not_defer {P : Program} {G : Nat} {o : Oper} {op : AOp} (hc : compOp P G o = some op) : ∀ c, o.op ≠ .defer c := by
 intro c h
 simp [compOp, h] at hc
theorem run_on {P : Program} {G : Nat} {o : Oper} {op : AOp} (hc : compOp P G o = some op) (a : Act) : execOp (evalOn' a o) o = execOp a.eval o := by
 refine execOp_congr o (not_select hc) fun x hx => ?_
 cases x with
 | tmp t => simp only [evalOn', if_pos (mem_readsT.2 hx)]
 | _ => rfl
theorem on_rel {f : Inj} {τ : T AVal} {o : Oper} {a : Act} {G : Nat} (h : Looks f τ o a) (hg : ∀ g, g < G → ∃ N, f g = some (g, N)) : OpdsRel G f (evalOn τ o) (evalOn' a o) := by
 intro x y hx
 cases x with
 | tmp i =>
   cases hx
   simp only [evalOn, evalOn']
   by_cases hi : i ∈ readsT o
   · rw [if_pos hi, if_pos hi]; exact h i hi
   · rw [if_neg hi, if_neg hi]; exact VRel.undef f
 | const v =>
   simp only [opdA, Option.map_eq_some_iff] at hx
   obtain ⟨u, hu, rfl⟩ := hx
   exact ofVal_rel f hu
 | global g =>
   simp only [opdA] at hx
   split at hx <;> cases hx
   rename_i hlt
   obtain ⟨N, hN⟩ := hg g hlt
   exact ⟨g, N, hN, rfl⟩
 | func g => cases hx; exact ⟨_, #[], #[], rfl, rfl, rfl, rfl⟩
theorem on_same {τ : T AVal} {o : Oper} {op : AOp} (hsub : ∀ t ∈ op.opds.filterMap atmpOf, t ∈ readsT o) : ∀ x ∈ op.opds, evalOn τ o x = AOpd.eval τ x := by
 intro x hx
 cases x with
 | tmp t =>
   simp only [evalOn, if_pos (hsub t (List.mem_filterMap.2 ⟨_, hx, rfl⟩))]; rfl
 | const v => rfl
theorem simple_at {o : Oper} {op : AOp} {τ : T AVal} {a : Act} {f : Inj} {w : World} {rd : Nat → Option ABlock} {sr : SRes} (hc : compOp E.P E.G o = some op) (hsub : ∀ t ∈ op.opds.filterMap atmpOf, t ∈ readsT o)
   (hg : ∀ g, g < E.G → ∃ N, f g = some (g, N)) (hl : Looks f τ o a) (hm : ReadsOk E.P E.comp f w (AOpd.eval τ) rd op) (h : simpleA (AOpd.eval τ) rd op = some sr) : SOk E.P E.comp f ((execOp a.eval o).run E.P) w sr := by
 have hs := on_same (τ := τ) hsub
 rw [← run_on hc a]
 refine simple_ok hc (on_rel hl hg) (rd := rd) (ρA := evalOn τ o) ?_ (by rw [simpleA_congr hs]; exact h)
 unfold ReadsOk at hm ⊢
 rw [readA_congr hs]
 exact hm
theorem call_inv {P : Program} {G : Nat} {o : Oper} {g : AOpd} {as : List AOpd} (hc : compOp P G o = some (.call g as)) :
   ∃ c gx, o.op = .call c ∧ c.callee = .value gx ∧ opdA G gx = some g ∧ opdsA G c.args.toList = some as := by
 unfold compOp at hc
 split at hc
 case h_27 c ho =>
   unfold compCall at hc
   split at hc
   · rename_i gx hcal
     simp only [Option.bind_eq_some_iff, Option.map_eq_some_iff] at hc
     obtain ⟨g', hg, as', has, he⟩ := hc
     cases he
     exact ⟨c, gx, ho, hcal, hg, has⟩
   · cases hc
   · exfalso
     split at hc <;> ((repeat (first | (cases hc; done) | (simp only [Option.bind_eq_some_iff, Option.map_eq_some_iff, reduceCtorEq, and_false, exists_false, exists_const] at hc; done) | (simp only [Option.bind_eq_some_iff, Option.map_eq_some_iff] at hc) | (obtain ⟨_, _, hc⟩ := hc) | (split at hc))); done)
 all_goals (exfalso; first | ((repeat (first | (cases hc; done) | (simp only [Option.bind_eq_some_iff, Option.map_eq_some_iff, reduceCtorEq, and_false, exists_false, exists_const] at hc; done) | (simp only [Option.bind_eq_some_iff, Option.map_eq_some_iff] at hc) | (obtain ⟨_, _, hc⟩ := hc) | (split at hc))); done) | (unfold compConv at hc; ((repeat (first | (cases hc; done) | (simp only [Option.bind_eq_some_iff, Option.map_eq_some_iff, reduceCtorEq, and_false, exists_false, exists_const] at hc; done) | (simp only [Option.bind_eq_some_iff, Option.map_eq_some_iff] at hc) | (obtain ⟨_, _, hc⟩ := hc) | (split at hc))); done)))
theorem looks_opds {f : Inj} {τ : T AVal} {o : Oper} {a : Act} {x : Operand} {y : AOpd} {G : Nat} (h : Looks f τ o a) (hg : ∀ g, g < G → ∃ N, f g = some (g, N)) (hx : x ∈ o.op.operands) (hy : opdA G x = some y) : VRel f (AOpd.eval τ y) (a.eval x) := by
 cases x with
 | tmp i => cases hy; exact h i (mem_readsT.2 hx)
 | const v =>
   simp only [opdA, Option.map_eq_some_iff] at hy
   obtain ⟨u, hu, rfl⟩ := hy
   exact ofVal_rel f hu
 | global g =>
   simp only [opdA] at hy
   split at hy <;> cases hy
   rename_i hlt
   obtain ⟨N, hN⟩ := hg g hlt
   exact ⟨g, N, hN, rfl⟩
 | func g => cases hy; exact ⟨_, #[], #[], rfl, rfl, rfl, rfl⟩
theorem looks_list {f : Inj} {τ : T AVal} {a : Act} {G : Nat} {op : Op} (h : ∀ x ∈ op.operands, ∀ y, opdA G x = some y → VRel f (AOpd.eval τ y) (a.eval x)) : ∀ {l : List Operand} {as : List AOpd}, (∀ x ∈ l, x ∈ op.operands) → opdsA G l = some as → VRels f (as.map (AOpd.eval τ)) (l.map a.eval)
 | [], as, _, hl => by cases hl; rfl
 | x :: l, as, hm, hl => by
   simp only [opdsA, Option.bind_eq_some_iff, Option.map_eq_some_iff] at hl
   obtain ⟨y, hy, bs, hb, rfl⟩ := hl
   exact ⟨_, _, rfl, h x (hm x (List.mem_cons_self ..)) y hy, looks_list h (fun z hz => hm z (List.mem_cons_of_mem _ hz)) hb⟩
theorem eff_ok {call : AVal → List AVal → AState → KV R → Option R} (hcall : CallOk E R call) {o : Oper} {op : AOp} {τ : T AVal} {S : AState} {K : KV R} (hc : compOp E.P E.G o = some op) (hsub : ∀ t ∈ op.opds.filterMap atmpOf, t ∈ readsT o)
   (he : effB op = true) (hok : AOk E S) (h : doOp call τ op S K = some r) :
   ∃ v S', K v S' = some r ∧ AStep E S S' ∧ ∀ (M : Nat) (f : Inj) (w : World) (a : Act), Sim E M f S.v w → S'.next ≤ M → Looks f τ o a → Goes E.P ((execOp a.eval o).run E.P w) (OpPost E M f S.v w v S'.v) := by
 unfold doOp at h
 split at h
 · rename_i g as
   obtain ⟨c, gx, ho, hcal, hgx, has⟩ := call_inv hc
   rw [forceV_eq, forceL_eq, mapE_eq] at h
   obtain ⟨v, S', hK, hnx, hgo⟩ := hcall _ _ _ _ _ h hok
   rw [forceV_eq] at hK
   refine ⟨v, S', hK, hnx, fun M f w a hsim hM hl => ?_⟩
   have hops : o.op.operands = #[gx] ++ c.args := by rw [ho]; simp only [Op.operands, Call.operands, hcal]
   have hlook : ∀ x ∈ o.op.operands, ∀ y, opdA E.G x = some y → VRel f (AOpd.eval τ y) (a.eval x) := fun x hx y hy => looks_opds hl hsim.glob hx hy
   have := hgo M f w (a.eval gx) (c.args.map a.eval) hsim hM (hlook gx (by rw [hops]; simp) g hgx) (by
     have := looks_list hlook (l := c.args.toList) (fun x hx => by rw [hops]; simp; exact .inr (Array.mem_toList_iff.1 hx)) has
     simpa using this)
   have he : execOp a.eval o = (Deferred.ofValue (a.eval gx) (c.args.map a.eval) >>= fun d => invoke d.target d.args) := by
     simp only [execOp, ho, resolve, hcal]
   rw [he]
   exact this
 · rename_i hne
   rw [he] at h
   dsimp only at h
   have hs := on_same (τ := τ) hsub
   rw [effectA_congr (ρ' := evalOn τ o) fun x hx => (hs x hx).symm] at h
   obtain ⟨v, S', hK, hnx, hgo⟩ := effect_ok hc h
   dsimp only at hK
   rw [forceV_eq] at hK
   refine ⟨v, S', hK, hnx, fun M f w a hsim hM hl => ?_⟩
   obtain ⟨v', f', w', hrun, hstep, hv⟩ := hgo M f w (evalOn' a o) hsim hM (on_rel hl hsim.glob)
   rw [run_on hc a] at hrun
   rcases hrun with hrun | ⟨hrun, rfl⟩
   · exact .inl ⟨v', w', hrun, f', hstep, hv⟩
   · exact .inr (.inl ⟨w', hrun, f', hstep, hv⟩)
theorem doOp_simple (E : Env) {call : AVal → List AVal → AState → KV R → Option R} {op : AOp} {τ : T AVal} {S : AState} {K : KV R} (he : effB op = false) (h : doOp call τ op S K = some r) :
   ∃ sr, simpleA (AOpd.eval τ) S.heap.get op = some sr ∧ match sr with
     | .val v => K v S = some r
     | .new b v => (S.next ≤ 1000000000 ∧ CompB E b) ∧ K (v S.next) ⟨T.put b 40 S.heap S.next, S.next + 1, S.floor, S.wl⟩ = some r := by
 unfold doOp at h
 split at h
 · simp [effB] at he
 · rw [he] at h
   dsimp only at h
   split at h
   · rename_i v hs
     rw [forceV_eq] at h
     exact ⟨_, hs, h⟩
   · rename_i b v hs
     split at h
     case h_2 => cases h
     rename_i hp
     obtain ⟨hnx, hK⟩ := allocS_eq h
     rw [forceV_eq] at hK
     exact ⟨_, hs, ⟨hnx, by cases b <;> first | trivial | (simp [plainB] at hp)⟩, hK⟩
   · cases h
theorem doOp_ok {call : AVal → List AVal → AState → KV R → Option R} (hcall : CallOk E R call) {o : Oper} {op : AOp} {τ : T AVal} {S : AState} {K : KV R} (hc : compOp E.P E.G o = some op) (hsub : ∀ t ∈ op.opds.filterMap atmpOf, t ∈ readsT o)
   (hok : AOk E S) (h : doOp call τ op S K = some r) :
   ∃ v S', K v S' = some r ∧ AStep E S S' ∧ ∀ (M : Nat) (f : Inj) (w : World) (a : Act), Sim E M f S.v w → S'.next ≤ M → Looks f τ o a → Goes E.P ((execOp a.eval o).run E.P w) (OpPost E M f S.v w v S'.v) := by
 cases he : effB op
 · obtain ⟨sr, hs, hK⟩ := doOp_simple E he h
   cases sr with
   | val v =>
     refine ⟨v, S, hK, .refl _, fun M f w a hsim hM hl => ?_⟩
     obtain ⟨v', hrun, hv⟩ := simple_at hc hsub hsim.glob hl (fun b blk _ hb => hsim.blk b blk hb) hs
     exact .inl ⟨v', w, hrun, f, .refl hsim, hv⟩
   | new b v =>
     obtain ⟨⟨hnx, hcb⟩, hK⟩ := hK
     refine ⟨_, _, hK, .alloc _ hcb, fun M f w a hsim hM hl => ?_⟩
     obtain ⟨v', obj, w', N, hrun, hheap, hos, htape, hout, hrel⟩ := simple_at hc hsub hsim.glob hl (fun b blk _ hb => hsim.blk b blk hb) hs
     have hf0 : f S.next = none := hsim.fresh _ (Nat.le_refl _) hM
     exact .inl ⟨v', w', hrun, _, Step.alloc hsim hnx hM hheap hos htape hout (fun g hg hid => (hrel g _ hg hid).2), (hrel _ S.next (upd_le _ hf0) (upd_same ..)).1⟩
 · exact eff_ok hcall hc hsub he hok h
end
end Abs
end Go.Proofs.YtfkchheildfkpaaGreatDoor.Refl
