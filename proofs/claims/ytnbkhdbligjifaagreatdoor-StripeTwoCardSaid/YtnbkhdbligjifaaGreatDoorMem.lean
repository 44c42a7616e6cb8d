/-
 A region that draws its order, whose operations (calls and allocations among them) each keep what stands: one goal for each operation, no order counted. No program is named. Words and laws for memory that a call makes for itself: a block known whole; rows of bytes; text out of bytes. No program is named.
-/
import Derived.StillTail
import Derived.WalkKit
import Derived.WalkLawsBesides
import Derived.WalkSpells
import Derived.Lib.Hide
import Derived.Handy
import Derived.Below
import Derived.Laws.OwnMore
import Derived.Laws.BytesArg
import Derived.Deep.Draws
import Derived.Laws.Rows
set_option linter.unusedVariables false
set_option linter.unusedSimpArgs false
namespace Go.Proofs.YtnbkhdbligjifaaGreatDoor
open Go.RowKit
namespace Stab
section
variable {P : Program} {ops : Array Oper} {Q : Exit → Act → World → Prop} {md : Region.Mode}
def slot (d : Option Tmp) (a : Act) : Value := match d with
 | some d => a.eval (.tmp d)
 | none => undef
theorem slot_put_same {d : Option Tmp} {a : Act} {v : Value} (h : ∀ t, d = some t → t < a.tmps.size) (hn : d = none → v = undef) : slot d (a.put d v) = v := by
 cases d with
 | none => exact (hn rfl).symm
 | some t => simp [slot, Act.eval, Act.put, h t rfl]
theorem wp_slot {o : Oper} {a : Act} {w : World} {K : Value → World → Prop} (hd : ∀ t, o.dst = some t → t < a.tmps.size)
 (h : Oper.wp P o a w (fun a' w' => a'.defers = a.defers ∧ K (slot o.dst a') w') Q) : Oper.wp P o a w (fun a' w' => ∃ v, a' = a.put o.dst v ∧ K v w' ∧ (o.dst = none → v = undef)) Q := by
 have key : ∀ (v : Value) (w' : World), ((a.put o.dst v).defers = a.defers ∧ K (slot o.dst (a.put o.dst v)) w') → ∃ u, a.put o.dst v = a.put o.dst u ∧ K u w' ∧ (o.dst = none → u = undef) := by
  rintro v w' ⟨_, h2⟩
  cases hdst : o.dst with
  | none => rw [hdst] at h2; exact ⟨undef, rfl, h2, fun _ => rfl⟩
  | some t =>
    rw [hdst] at h2
    rw [slot_put_same (fun t' e => by cases e; exact hd t hdst) (fun e => by cases e)] at h2
    exact ⟨v, rfl, h2, fun e => by cases e⟩
 unfold Oper.wp at *
 generalize (execOp a.eval o).run P w = r at *
 cases r with
 | ok n w' =>
   cases n <;> simp only [Oper.upon] at h ⊢
   case value v => exact key v w' h
   case skip => exact key undef w' h
   case defer d =>
    have h1 := h.1
    have h2 : ∀ (b : Act) (v : Value), (b.put o.dst v).defers = b.defers := fun b v => by cases o.dst <;> rfl
    rw [h2] at h1
    exact absurd (congrArg List.length h1) (by simp)
   case enter f args =>
    refine Calls.mono h fun e w'' he => ?_
    cases e with
    | returned u => exact key u w'' he
    | panicked c => exact he
    | outgrown => exact he
   case row row args => exact Rows.mono h fun u w'' he => key u w'' he
 | halt x w' =>
   cases x <;> simp only [Oper.upon] at h ⊢
   case panic u => exact h
def putAll (us : Nat → Value) : Nat → List (Option Tmp) → Act → Act
 | _, [], a => a
 | k, d :: ds, a => putAll us (k + 1) ds (a.put d (us k))
def usOf (ds : List (Option Tmp)) (a : Act) (j : Nat) : Value := slot (ds.getD j none) a
theorem putAll_usOf (all : List (Option Tmp)) (a : Act) : ∀ (ds : List (Option Tmp)) (k : Nat) (b : Act), all.drop k = ds → b.tmps.size = a.tmps.size → b.defers = a.defers →
 (∀ s, some s ∉ ds → b.tmps[s]? = a.tmps[s]?) → putAll (usOf all a) k ds b = a
 | [], k, b, _, hs, hd, h => by
   show b = a
   obtain ⟨bt, bd⟩ := b
   obtain ⟨at_, ad⟩ := a
   simp only at hs hd h
   subst hd
   congr
   exact Array.ext_getElem? (fun i => h i (by simp))
 | d :: ds, k, b, hk, hs, hd, h => by
   have hk1 : all.drop (k + 1) = ds := by rw [← List.drop_drop, hk]; rfl
   have hu : all.getD k none = d := by
    have : (all.drop k)[0]? = some d := by rw [hk]; rfl
    rw [List.getElem?_drop, Nat.add_zero] at this
    rw [List.getD, this]; rfl
   show putAll (usOf all a) (k + 1) ds (b.put d (usOf all a k)) = a
   refine putAll_usOf all a ds (k + 1) _ hk1 ?_ ?_ (fun s hsn => ?_)
   ·cases d <;> simp [Act.put, hs]
   ·cases d <;> simp [Act.put, hd]
   ·cases d with
    | none => exact h s (by simp [hsn])
    | some t =>
      have hv : usOf all a k = a.tmps.getD t undef := by rw [usOf, hu]; rfl
      simp only [Act.put, hv]
      by_cases hst : t = s
      ·subst hst
       rw [Array.getElem?_setIfInBounds_self]
       by_cases hl : t < a.tmps.size
       ·have hl' : t < b.tmps.size := by rw [hs]; exact hl
        rw [if_pos hl']
        simp [hl]
       ·have hl' : ¬ t < b.tmps.size := by rw [hs]; exact hl
        rw [if_neg hl', Array.getElem?_eq_none (Nat.le_of_not_lt hl)]
      ·rw [Array.getElem?_setIfInBounds_ne hst]
       exact h s (by simp [hsn, Ne.symm hst])
/-! ### who surely comes ahead -/
def maskOf (md : Region.Mode) (acc : List Nat) (o : Oper) : Nat := o.after.toList.foldl (fun m e => if Region.binds md e then m ||| (1 <<< e.on) ||| acc.getD e.on 0 else m) 0
def masks (md : Region.Mode) : List Oper → List Nat → List Nat
 | [], acc => acc
 | o :: r, acc => masks md r (acc ++ [maskOf md acc o])
theorem fold_bit (md : Region.Mode) (acc : List Nat) (j : Nat) : ∀ (l : List Edge) (m : Nat), (l.foldl (fun m e => if Region.binds md e then m ||| (1 <<< e.on) ||| acc.getD e.on 0 else m) m).testBit j = true →
 m.testBit j = true ∨ ∃ e ∈ l, Region.binds md e = true ∧ (e.on = j ∨ (acc.getD e.on 0).testBit j = true)
 | [], m, h => .inl h
 | e :: l, m, h => by
   rw [List.foldl_cons] at h
   rcases fold_bit md acc j l _ h with h1 | ⟨e', he', hb, h2⟩
   ·by_cases hb : Region.binds md e = true
    ·rw [if_pos hb, Nat.testBit_or, Nat.testBit_or, Bool.or_eq_true, Bool.or_eq_true] at h1
     rcases h1 with (h1 | h1) | h1
     ·exact .inl h1
     ·refine .inr ⟨e, List.mem_cons_self .., hb, .inl ?_⟩
      rw [Nat.one_shiftLeft, Nat.testBit_two_pow] at h1
      exact of_decide_eq_true h1
     ·exact .inr ⟨e, List.mem_cons_self .., hb, .inr h1⟩
    ·rw [if_neg hb] at h1; exact .inl h1
   ·exact .inr ⟨e', List.mem_cons_of_mem _ he', hb, h2⟩
def MaskOk (md : Region.Mode) (ops : Array Oper) (listed : Array Bool) (acc : List Nat) : Prop :=
 ∀ i o, i < acc.length → ops[i]? = some o → (∀ e ∈ o.after, Region.binds md e = true → listed.getD e.on false = true) → ∀ j, (acc.getD i 0).testBit j = true → listed.getD j false = true
theorem masks_ok {listed : Array Bool} (hc : ∀ j oj, ops[j]? = some oj → listed.getD j false = true → ∀ e ∈ oj.after, Region.binds md e = true → listed.getD e.on false = true) :
 ∀ (l : List Oper) (acc : List Nat), (∀ j, l[j]? = ops[acc.length + j]?) → acc.length ≤ ops.size → MaskOk md ops listed acc → MaskOk md ops listed (masks md l acc)
 | [], acc, _, _, h => h
 | o :: l, acc, hl, hsz, h => by
   have h0 : ops[acc.length]? = some o := by simpa using (hl 0).symm
   have hlt : acc.length < ops.size := (Array.getElem?_eq_some_iff.1 h0).1
   refine masks_ok hc l (acc ++ [maskOf md acc o]) (fun j => ?_) (by simp; omega) ?_
   ·have := hl (j + 1)
    simp only [List.getElem?_cons_succ] at this
    rw [this, List.length_append, List.length_singleton]
    congr 1; omega
   ·intro i oi hi ho hall j hj
    rw [List.length_append, List.length_singleton] at hi
    by_cases hia : i < acc.length
    ·rw [List.getD, List.getElem?_append_left hia] at hj
     exact h i oi hia ho hall j hj
    ·have hie : i = acc.length := by omega
     subst hie
     have : oi = o := Option.some.inj (ho.symm.trans h0)
     subst this
     rw [List.getD, List.getElem?_append_right (Nat.le_refl _), Nat.sub_self] at hj
     simp only [List.getElem?_cons_zero, Option.getD_some] at hj
     rcases fold_bit md acc j _ 0 hj with h1 | ⟨e, he, hb, h1⟩
     ·simp at h1
     ·have hle := hall e (by simpa using he) hb
      rcases h1 with h1 | h1
      ·rw [← h1]; exact hle
      ·by_cases hea : e.on < acc.length
       ·have heo : e.on < ops.size := by omega
        exact h e.on ops[e.on] hea (Array.getElem?_eq_getElem heo) (fun e' he' hb' => hc e.on _ (Array.getElem?_eq_getElem heo) hle e' he' hb') j h1
       ·rw [List.getD, List.getElem?_eq_none (by omega)] at h1
        simp at h1
def PreL (V : Nat → Value → World → Prop) (us : Nat → Value) (w : World) : List Nat → Prop
 | [] => True
 | j :: l => V j (us j) w ∧ PreL V us w l
def OpGoal (P : Program) (Q : Exit → Act → World → Prop) (E : World → World → Prop) (w0 : World) (V : Nat → Value → World → Prop) (F : (Nat → Value) → Act) (i : Nat) (o : Oper) (ns : List Nat) : Prop :=
 ∀ (us : Nat → Value) (w : World) (K : Value → World → Prop), E w0 w → PreL V us w ns → (∀ v w', V i v w' → E w w' → K v w') →
  match o.guard with
  | none => Oper.wp P o (F us) w (fun a' w' => a'.defers = (F us).defers ∧ K (slot o.dst a') w') Q
  | some (j, b) => (∃ x, us j = .bool x ∧ if x = b then Oper.wp P o (F us) w (fun a' w' => a'.defers = (F us).defers ∧ K (slot o.dst a') w') Q else K undef w) ∨ (j < i ∧ us j = undef ∧ K undef w)
def OpGoals (P : Program) (Q : Exit → Act → World → Prop) (E : World → World → Prop) (w0 : World) (V : Nat → Value → World → Prop) (F : (Nat → Value) → Act) : Nat → List Oper → List (List Nat) → Prop
 | _, [], _ => True
 | i, o :: r, ns => OpGoal P Q E w0 V F i o (ns.headD []) ∧ OpGoals P Q E w0 V F (i + 1) r ns.tail
theorem OpGoals.get {E : World → World → Prop} {w0 : World} {V : Nat → Value → World → Prop} {F : (Nat → Value) → Act} : ∀ {l : List Oper} {ns : List (List Nat)} {i : Nat}, OpGoals P Q E w0 V F i l ns →
 ∀ j o, l[j]? = some o → OpGoal P Q E w0 V F (i + j) o (ns.getD j [])
 | [], _, _, _, j, o, h => by simp at h
 | x :: l, ns, i, hg, j, o, h => by
   cases j with
   | zero =>
     simp only [List.getElem?_cons_zero, Option.some.injEq] at h
     subst h
     have h1 := hg.1
     cases ns <;> exact h1
   | succ j =>
     have h1 := OpGoals.get hg.2 j o (by simpa using h)
     rw [show i + 1 + j = i + (j + 1) by omega] at h1
     cases ns with
     | nil => simpa using h1
     | cons y ns => simpa using h1
def distinctB : List (Option Tmp) → Bool
 | [] => true
 | none :: l => distinctB l
 | some d :: l => !l.contains (some d) && distinctB l
theorem distinct_spec : ∀ {l : List (Option Tmp)}, distinctB l = true → ∀ (i j : Nat) (d : Tmp), l[i]? = some (some d) → l[j]? = some (some d) → i = j
 | [], _, i, _, d, h, _ => by simp at h
 | x :: l, h, i, j, d, hi, hj => by
   have hl : distinctB l = true := by
    cases x with
    | none => exact h
    | some y => simp only [distinctB, Bool.and_eq_true] at h; exact h.2
   have hx : x = some d → ∀ k : Nat, l[k]? ≠ some (some d) := by
    rintro rfl k hk
    simp only [distinctB, Bool.and_eq_true, Bool.not_eq_true', List.contains_eq_mem, decide_eq_false_iff_not] at h
    exact h.1 (List.mem_of_getElem? hk)
   cases i with
   | zero =>
     cases j with
     | zero => rfl
     | succ j => exact absurd (by simpa using hj) (hx (by simpa using hi) j)
   | succ i =>
     cases j with
     | zero => exact absurd (by simpa using hi) (hx (by simpa using hj) i)
     | succ j => rw [distinct_spec hl i j d (by simpa using hi) (by simpa using hj)]
def needsB (ms : List Nat) : Nat → List (List Nat) → Bool
 | _, [] => true
 | i, l :: r => l.all (fun j => (ms.getD i 0).testBit j) && needsB ms (i + 1) r
theorem needs_spec {ms : List Nat} : ∀ {ns : List (List Nat)} {i : Nat}, needsB ms i ns = true → ∀ k, ∀ j ∈ ns.getD k [], (ms.getD (i + k) 0).testBit j = true
 | [], _, _, k, j, hj => by simp at hj
 | l :: r, i, h, k, j, hj => by
   simp only [needsB, Bool.and_eq_true] at h
   cases k with
   | zero => exact List.all_eq_true.1 h.1 j (by simpa using hj)
   | succ k =>
     have := needs_spec h.2 k j (by simpa using hj)
     rw [show i + 1 + k = i + (k + 1) by omega] at this
     exact this
def headMarks (n g : Nat) : Array Bool := (List.replicate n true ++ List.replicate g false).toArray
def backB (md : Region.Mode) : Nat → List Oper → Bool
 | _, [] => true
 | i, o :: r => o.after.all (fun e => !Region.binds md e || decide (e.on < i)) && backB md (i + 1) r
theorem back_spec {md : Region.Mode} : ∀ {l : List Oper} {i : Nat}, backB md i l = true → ∀ (k : Nat) (o : Oper), l[k]? = some o → ∀ e ∈ o.after, Region.binds md e = true → e.on < i + k
 | [], _, _, k, o, h => by simp at h
 | x :: l, i, hb, k, o, h => by
   simp only [backB, Bool.and_eq_true] at hb
   cases k with
   | zero =>
     simp only [List.getElem?_cons_zero, Option.some.injEq] at h
     subst h
     intro e he hbd
     have := Array.all_eq_true'.1 hb.1 e he
     simpa [hbd] using this
   | succ k =>
     intro e he hbd
     have := back_spec hb.2 k o (by simpa using h) e he hbd
     omega
theorem least {p : Nat → Prop} : ∀ k, p k → ∃ m, m ≤ k ∧ p m ∧ ∀ j, j < m → ¬ p j := by
 intro k
 induction k using Nat.strongRecOn with
 | _ k ih =>
   intro hk
   by_cases h : ∃ j, j < k ∧ p j
   ·obtain ⟨j, hj, hp⟩ := h
    obtain ⟨m, hm, h1, h2⟩ := ih j hj hp
    exact ⟨m, by omega, h1, h2⟩
   ·exact ⟨k, Nat.le_refl _, hk, fun j hj hp => h ⟨j, hj, hp⟩⟩
theorem masks_length (md : Region.Mode) : ∀ (l : List Oper) (acc : List Nat), (masks md l acc).length = acc.length + l.length
 | [], acc => rfl
 | o :: l, acc => by rw [masks, masks_length md l]; simp; omega
def okB (ops : List Oper) (n size : Nat) (ds : List (Option Tmp)) (ns : List (List Nat)) : Bool :=
 decide (n ≤ ops.length) && decide (ds = (ops.take n).map (·.dst)) && distinctB ds && ds.all (fun d => match d with | some d => decide (d < size) | none => true) &&
 (decide (n = ops.length) || (Region.sinkB .any ops.toArray n && Region.chainB .any ops.toArray n)) && Region.seqB .any ops.toArray (ops.length - n) n (headMarks n (ops.length - n)) &&
 needsB (masks .any ops []) 0 ns && backB .any 0 ops
theorem wpAny_more : ∀ (f : Nat) (listed : Array Bool) (a : Act) (w : World), wpAny P md ops Q f listed a w → wpAny P md ops Q (f + 1) listed a w
 | 0, listed, a, w, h => ⟨fun _ => h.2, fun i hi => by rw [h.1] at hi; cases hi⟩
 | f + 1, listed, a, w, h => ⟨h.1, fun i hi => wpOp_mono (fun a' w' h' => wpAny_more f _ a' w' h') (h.2 i hi)⟩
theorem wpAny_more' (g : Nat) {f : Nat} {listed : Array Bool} {a : Act} {w : World} (h : wpAny P md ops Q f listed a w) : wpAny P md ops Q (f + g) listed a w := by
 induction g with
 | zero => exact h
 | succ g ih => exact wpAny_more _ _ _ _ ih
structure SInv (ops : Array Oper) (n : Nat) (ds : List (Option Tmp)) (E : World → World → Prop) (V : Nat → Value → World → Prop) (a0 : Act) (w0 : World) (listed : Array Bool) (a : Act) (w : World) : Prop where
 head : HeadInv .any ops n listed
 world : E w0 w
 defers : a.defers = a0.defers
 size : a.tmps.size = a0.tmps.size
 off : ∀ s, some s ∉ ds → a.tmps[s]? = a0.tmps[s]?
 done : ∀ j, j < n → listed.getD j false = true → V j (usOf ds a j) w
theorem PreL_of {V : Nat → Value → World → Prop} {us : Nat → Value} {w : World} : ∀ {l : List Nat}, (∀ j ∈ l, V j (us j) w) → PreL V us w l
 | [], _ => trivial
 | j :: _, h => ⟨h j (List.mem_cons_self ..), PreL_of fun k hk => h k (List.mem_cons_of_mem _ hk)⟩
theorem getD_falses {listed : Array Bool} {i : Nat} (h : listed.getD i true = false) : listed.getD i false = false := getD_both h
theorem bound_of {ds : List (Option Tmp)} {size : Nat} (h : ds.all (fun d => match d with | some d => decide (d < size) | none => true) = true) (t : Tmp) (ht : some t ∈ ds) : t < size := by
 have := List.all_eq_true.1 h _ ht
 simpa using this
theorem stable_any {l : List Oper} {n : Nat} {ds : List (Option Tmp)} {ns : List (List Nat)} {E : World → World → Prop} {V : Nat → Value → World → Prop} {a0 : Act} {w0 : World} {F : (Nat → Value) → Act} {keep : List Nat}
 (hF : ∀ us, putAll us 0 ds a0 = F us) (hB : okB l n a0.tmps.size ds ns = true) (htr : ∀ a b c, E a b → E b c → E a c) (hst : ∀ j v w w', V j v w → E w w' → V j v w') (hk : keep.all (fun j => decide (j < n)) = true)
 (hg : OpGoals P Q E w0 V F 0 (l.take n) ns) (hend : ∀ us w, E w0 w → PreL V us w keep → wpList P l.toArray Q (l.drop n) (F us) w) :
 ∀ (f : Nat) (listed : Array Bool) (a : Act) (w : World), (∃ rem : List Nat, rem.length ≤ f ∧ ∀ j, j < n → listed.getD j false = true ∨ j ∈ rem) → SInv l.toArray n ds E V a0 w0 listed a w → wpAny P .any l.toArray Q (f + (l.length - n)) listed a w := by
 simp only [okB, Bool.and_eq_true, decide_eq_true_eq, Bool.or_eq_true] at hB
 obtain ⟨⟨⟨⟨⟨⟨⟨hn, hds⟩, hdis⟩, hbd⟩, hsc⟩, hseq⟩, hneeds⟩, hback⟩ := hB
 have hdl : ds.length = n := by rw [hds]; simp; omega
 have hdget : ∀ (j : Nat) (o : Oper), j < n → l[j]? = some o → ds[j]? = some o.dst := fun j o hj ho => by
  rw [hds, List.getElem?_map, List.getElem?_take_of_lt hj, ho]; rfl
 have hall : ∀ listed a w, (∀ j, j < n → listed.getD j false = true) → SInv l.toArray n ds E V a0 w0 listed a w → wpAny P .any l.toArray Q (l.length - n) listed a w := by
  intro listed a w hd inv
  have hsz : listed.size = l.length := by have := inv.head.size; simpa using this
  have hl : listed = headMarks n (l.length - n) := by
   apply Array.ext_getElem?
   intro i
   rcases Nat.lt_or_ge i n with hi | hi
   ·have h1 := hd i hi
    have h2 : i < listed.size := by omega
    simp [h2] at h1
    rw [Array.getElem?_eq_getElem h2, h1]
    simp [headMarks, List.getElem?_append, hi]
   ·rcases Nat.lt_or_ge i l.length with hi2 | hi2
    ·have h1 := inv.head.tail i hi (by simpa using hi2)
     have h2 : i < listed.size := by omega
     simp [h2] at h1
     rw [Array.getElem?_eq_getElem h2, h1]
     simp [headMarks, List.getElem?_append, Nat.not_lt.2 hi, List.getElem?_replicate]
     omega
    ·rw [Array.getElem?_eq_none (by omega), Array.getElem?_eq_none (by simp [headMarks]; omega)]
  have hFa : F (usOf ds a) = a := by
   rw [← hF]
   exact putAll_usOf ds a ds 0 a0 rfl inv.size.symm inv.defers.symm (fun s hs => (inv.off s hs).symm)
  have hw := hend (usOf ds a) w inv.world (PreL_of fun j hj => inv.done j (by have := List.all_eq_true.1 hk j hj; simpa using this) (hd j (by have := List.all_eq_true.1 hk j hj; simpa using this)))
  rw [hFa] at hw
  have := wpAny_of_seq (P := P) (md := .any) (Q' := Q) (ops := l.toArray) (l.drop n) n listed a w (fun j => by simp [List.getElem?_drop]) (by rw [List.length_drop, hl]; exact hseq) hw
  rwa [List.length_drop] at this
 intro f
 induction f with
 | zero =>
   intro listed a w ⟨rem, hr, hrem⟩ inv
   rw [Nat.zero_add]
   refine hall listed a w (fun j hj => ?_) inv
   rcases hrem j hj with h | h
   ·exact h
   ·rw [List.eq_nil_of_length_eq_zero (by omega : rem.length = 0)] at h; cases h
 | succ f ih =>
   intro listed a w ⟨rem, hr, hrem⟩ inv
   by_cases hd : ∀ j, j < n → listed.getD j false = true
   ·have := wpAny_more' (f + 1) (hall listed a w hd inv)
    rwa [Nat.add_comm] at this
   ·have hex : ∃ k, k < n ∧ listed.getD k true = false := by
     apply Classical.byContradiction
     intro hno
     refine hd fun j hj => ?_
     cases hb : listed.getD j false with
     | true => rfl
     | false => exact absurd ⟨j, hj, getD_in (by have := inv.head.size; simp at this; omega) hb⟩ hno
    obtain ⟨k0, hk0, hk1⟩ := hex
    have hin : ∀ i ∈ Region.ready .any l.toArray listed, i < n := by
     intro i hi
     rcases Nat.lt_or_ge i n with h | h
     ·exact h
     ·rcases hsc with hsc | hsc
      ·obtain ⟨_, o, ho, _⟩ := mem_ready.1 hi
       have := (Array.getElem?_eq_some_iff.1 ho).1
       simp at this; omega
      ·have hlt : n < l.toArray.size := by
        obtain ⟨_, o, ho, _⟩ := mem_ready.1 hi
        have := (Array.getElem?_eq_some_iff.1 ho).1
        omega
       exact absurd hi (tail_waits hsc.1 hsc.2 hlt inv.head _ k0 rfl hk0 hk1 i h)
    have hFa : F (usOf ds a) = a := by
     rw [← hF]
     exact putAll_usOf ds a ds 0 a0 rfl inv.size.symm inv.defers.symm (fun s hs => (inv.off s hs).symm)
    rw [show f + 1 + (l.length - n) = (f + (l.length - n)) + 1 by omega]
    have hne : Region.ready .any l.toArray listed = [] → Q .normal a w := fun h0 => by
     exfalso
     obtain ⟨m, hm, h1, h2⟩ := least (p := fun k => listed.getD k true = false) k0 hk1
     have hml : m < l.length := by omega
     have hr : m ∈ Region.ready .any l.toArray listed := mem_ready.2 ⟨h1, l[m], by simp [hml], fun e he hb => by
      have hlt := back_spec hback m l[m] (List.getElem?_eq_getElem hml) e he hb
      have h3 := h2 e.on (by omega)
      have hsz := inv.head.size
      simp only [List.size_toArray] at hsz
      have h4 : e.on < listed.size := by omega
      simp [h4] at h3 ⊢
      exact h3⟩
     rw [h0] at hr; cases hr
    refine ⟨hne, fun i hi => ?_⟩
    have hi_n := hin i hi
    obtain ⟨hun, o, ho, hafter⟩ := mem_ready.1 hi
    have hol : l[i]? = some o := by simpa using ho
    have hmask := masks_ok (md := .any) inv.head.closed l [] (fun j => by simp) (Nat.zero_le _) (fun i o hi => by simp at hi)
    have hlm : i < (masks .any l []).length := by
     rw [masks_length, List.length_nil, Nat.zero_add]; omega
    have hpre : PreL V (usOf ds a) w (ns.getD i []) := PreL_of fun j hj => by
     have hb := needs_spec hneeds i j hj
     rw [Nat.zero_add] at hb
     have hlj := hmask i o hlm ho hafter j hb
     refine inv.done j ?_ hlj
     rcases Nat.lt_or_ge j n with h | h
     ·exact h
     ·have h2 : j < l.toArray.size := by
       have : j < listed.size := by
        rcases Nat.lt_or_ge j listed.size with h | h
        ·exact h
        ·simp [Array.getElem?_eq_none h] at hlj
       rw [inv.head.size] at this; exact this
      have := inv.head.tail j h h2
      rw [getD_falses this] at hlj; cases hlj
    have hgi := OpGoals.get hg i o (by rw [List.getElem?_take_of_lt hi_n]; exact hol)
    rw [Nat.zero_add] at hgi
    have hdst : ∀ t, o.dst = some t → t < a.tmps.size := fun t ht => by
     rw [inv.size]
     exact bound_of hbd t (by rw [← ht]; exact List.mem_of_getElem? (hdget i o hi_n hol))
    have hnext : ∀ v w', V i v w' → E w w' → (o.dst = none → v = undef) → wpAny P .any l.toArray Q (f + (l.length - n)) (listed.setIfInBounds i true) (a.put o.dst v) w' := by
     intro v w' hv hE hnone
     refine ih _ _ _ ⟨rem.erase i, ?_, fun j hj => ?_⟩ ?_
     ·have : i ∈ rem := by
       rcases hrem i hi_n with h | h
       ·rw [getD_falses hun] at h; cases h
       ·exact h
      rw [List.length_erase_of_mem this]; omega
     ·by_cases hji : j = i
      ·subst hji
       left
       have : j < listed.size := by rw [inv.head.size]; exact (Array.getElem?_eq_some_iff.1 ho).1
       simp [this]
      ·rcases hrem j hj with h | h
       ·exact .inl (getD_set_true h)
       ·exact .inr ((List.mem_erase_of_ne hji).2 h)
     ·refine ⟨inv.head.set hi hi_n, htr _ _ _ inv.world hE, ?_, ?_, fun s hs => ?_, fun j hj hlj => ?_⟩
      ·rw [← inv.defers]; cases o.dst <;> rfl
      ·rw [← inv.size]; cases o.dst <;> simp [Act.put]
      ·rw [← inv.off s hs]
       cases hd' : o.dst with
       | none => rfl
       | some t =>
         have : t ≠ s := by
          rintro rfl
          exact hs (by rw [← hd']; exact List.mem_of_getElem? (hdget i o hi_n hol))
         simp only [Act.put]
         rw [Array.getElem?_setIfInBounds_ne this]
      ·by_cases hji : j = i
       ·subst hji
        have hu : usOf ds (a.put o.dst v) j = v := by
         rw [usOf, List.getD, hdget j o hj hol]
         exact slot_put_same hdst hnone
        rw [hu]; exact hv
       ·have hlj' : listed.getD j false = true := by rwa [getD_set_ne false (Ne.symm hji)] at hlj
        have hu : usOf ds (a.put o.dst v) j = usOf ds a j := by
         rw [usOf, usOf]
         cases hdj : ds.getD j none with
         | none => rfl
         | some t =>
           have hdj' : ds[j]? = some (some t) := by
            rw [List.getD] at hdj
            cases h : ds[j]? with
            | none => rw [h] at hdj; cases hdj
            | some x => rw [h] at hdj; simp at hdj; rw [hdj]
           cases hd' : o.dst with
           | none => rfl
           | some t' =>
             have : t' ≠ t := by
              rintro rfl
              exact hji (distinct_spec hdis j i t' hdj' (by rw [hdget i o hi_n hol, hd']))
             show ((a.tmps.setIfInBounds t' v).getD t undef) = a.tmps.getD t undef
             simp [Array.getElem?_setIfInBounds_ne this]
        rw [hu]
        exact hst _ _ _ _ (inv.done j hj hlj') hE
    have hgo := hgi (usOf ds a) w (fun v w' => (o.dst = none → v = undef) → wpAny P .any l.toArray Q (f + (l.length - n)) (listed.setIfInBounds i true) (a.put o.dst v) w') inv.world hpre (fun v w' hv hE hnone => hnext v w' hv hE hnone)
    rw [hFa] at hgo
    have hwp : Oper.wp P o a w (fun a' w' => a'.defers = a.defers ∧ ((o.dst = none → slot o.dst a' = undef) → wpAny P .any l.toArray Q (f + (l.length - n)) (listed.setIfInBounds i true) (a.put o.dst (slot o.dst a')) w')) Q →
     Oper.wp P o a w (wpAny P .any l.toArray Q (f + (l.length - n)) (listed.setIfInBounds i true)) Q := fun h => by
     refine Oper.wp_mono ?_ (wp_slot (K := fun v w' => (o.dst = none → v = undef) → wpAny P .any l.toArray Q (f + (l.length - n)) (listed.setIfInBounds i true) (a.put o.dst v) w') hdst h)
     rintro a' w' ⟨v, rfl, h1, h2⟩
     exact h1 h2
    unfold wpOp
    simp only [ho]
    cases hgd : o.guard with
    | none =>
      rw [hgd] at hgo
      have hw : Region.wanted o (yielded l.toArray a.tmps) = true := by simp [Region.wanted, hgd]
      rw [if_pos hw]
      exact .inl (hwp hgo)
    | some jb =>
      obtain ⟨j, b⟩ := jb
      rw [hgd] at hgo
      rcases hgo with ⟨x, hx, hgo⟩ | ⟨hji, hx, hgo⟩
      case inr =>
       have hy : yielded l.toArray a.tmps j = none := by
        unfold usOf at hx
        have hjn : j < n := by omega
        have hjl : j < l.length := by omega
        have hdd := hdget j l[j] hjn (List.getElem?_eq_getElem hjl)
        rw [List.getD, hdd, Option.getD_some] at hx
        unfold yielded
        simp only [List.getElem?_toArray, List.getElem?_eq_getElem hjl, Option.bind_some]
        cases hdst' : (l[j]).dst with
        | none => rfl
        | some t =>
          rw [hdst'] at hx
          have hx' : a.tmps.getD t undef = undef := hx
          rcases Nat.lt_or_ge t a.tmps.size with h | h
          ·simp [h] at hx'
           simp only [Option.bind_some, Array.getElem?_eq_getElem h, hx']
           rfl
          ·simp only [Option.bind_some, Array.getElem?_eq_none h]
       have hw : Region.wanted o (yielded l.toArray a.tmps) = false := by
        simp only [Region.wanted, hgd, hy]
        cases b <;> rfl
       rw [hw]
       simp only [Bool.false_eq_true, if_false]
       exact hgo (fun _ => rfl)
      have hy : yielded l.toArray a.tmps j = some x := by
       unfold usOf at hx
       cases hdj : ds[j]? with
       | none => rw [List.getD, hdj] at hx; cases hx
       | some od =>
         rw [List.getD, hdj] at hx
         cases od with
         | none => cases hx
         | some t =>
           have hx' : a.tmps.getD t undef = .bool x := hx
           have hjn : j < n := by rw [← hdl]; exact (List.getElem?_eq_some_iff.1 hdj).1
           have hjl : j < l.length := by omega
           have hdd := hdget j l[j] hjn (List.getElem?_eq_getElem hjl)
           rw [hdj] at hdd
           have ht : a.tmps[t]? = some (.bool x) := by
            rcases Nat.lt_or_ge t a.tmps.size with h | h
            ·simp [h] at hx'; rw [Array.getElem?_eq_getElem h, hx']
            ·simp [Array.getElem?_eq_none h] at hx'; cases hx'
           unfold yielded
           simp only [List.getElem?_toArray, List.getElem?_eq_getElem hjl, Option.bind_some, ← Option.some.inj hdd, ht]
      have hw : Region.wanted o (yielded l.toArray a.tmps) = decide (x = b) := by
       simp only [Region.wanted, hgd, hy]
       cases x <;> cases b <;> rfl
      rw [hw]
      by_cases hxb : x = b
      ·rw [if_pos hxb] at hgo
       simp only [hxb, decide_true, if_true]
       exact .inl (hwp hgo)
      ·rw [if_neg hxb] at hgo
       simp only [hxb, decide_false, Bool.false_eq_true, if_false]
       exact hgo (fun _ => rfl)
/-! ### as it is used: blocks that stood keep standing -/
def Ext (w w' : World) : Prop := Below w.heap.size w w'
theorem Ext.refl (w : World) : Ext w w := Below.refl _ _
theorem Ext.trans {a b c : World} (h : Ext a b) (k : Ext b c) : Ext a c := Below.trans h (Below.mono k h.size)
theorem Ext.same {a b : World} (h : b = a) : Ext a b := h ▸ Below.refl _ _
theorem Ext.drew (w : World) : Ext w w.drew := (Below.refl _ _).drew
theorem Ext.alloc (w : World) (o : Obj) : Ext w (w.alloc o) := (Below.refl _ _).alloc (Nat.le_refl _) o
theorem Ext.cell {a b : World} (h : Ext a b) {g i : Nat} {v : Value} (hc : a.cell? ⟨g, i, none⟩ = some v) : b.cell? ⟨g, i, none⟩ = some v := by
 have hg : g < a.heap.size := by
  rcases Nat.lt_or_ge g a.heap.size with h | h
  ·exact h
  ·simp [World.cell?, Array.getElem?_eq_none h] at hc
 exact (Below.cell h (p := ⟨g, i, none⟩) hg).trans hc
structure SVal where
 p : Value → World → Prop
 st : ∀ v w w', p v w → Ext w w' → p v w'
def eqv (x : Value) : SVal := ⟨fun v _ => v = x, fun _ _ _ h _ => h⟩
def anyv : SVal := ⟨fun _ _ => True, fun _ _ _ _ _ => trivial⟩
def vals (l : List SVal) (j : Nat) : Value → World → Prop := (l.getD j anyv).p
def Goal (P : Program) (Q : Exit → Act → World → Prop) (w0 : World) (S : World → Prop) (Vs : List SVal) (F : (Nat → Value) → Act) (i : Nat) (o : Oper) (ns : List Nat) : Prop :=
 ∀ (us : Nat → Value) (w : World) (K : Value → World → Prop), Ext w0 w → S w → PreL (vals Vs) us w ns → (∀ v w', vals Vs i v w' → Ext w w' → K v w') →
  match o.guard with
  | none => Oper.wp P o (F us) w (fun a' w' => a'.defers = (F us).defers ∧ K (slot o.dst a') w') Q
  | some (j, b) => (∃ x, us j = .bool x ∧ if x = b then Oper.wp P o (F us) w (fun a' w' => a'.defers = (F us).defers ∧ K (slot o.dst a') w') Q else K undef w) ∨ (j < i ∧ us j = undef ∧ K undef w)
def Goals (P : Program) (Q : Exit → Act → World → Prop) (w0 : World) (S : World → Prop) (Vs : List SVal) (F : (Nat → Value) → Act) : Nat → List Oper → List (List Nat) → Prop
 | _, [], _ => True
 | i, o :: r, ns => Goal P Q w0 S Vs F i o (ns.headD []) ∧ Goals P Q w0 S Vs F (i + 1) r ns.tail
theorem Goals.to {S : World → Prop} {Vs : List SVal} {F : (Nat → Value) → Act} {w0 : World} (hS : ∀ w, Ext w0 w → S w) : ∀ {l : List Oper} {i : Nat} {ns : List (List Nat)}, Goals P Q w0 S Vs F i l ns → OpGoals P Q Ext w0 (vals Vs) F i l ns
 | [], _, _, _ => trivial
 | _ :: _, _, _, h => ⟨fun us w K hE hp hK => h.1 us w K hE (hS w hE) hp hK, Goals.to hS h.2⟩
theorem wp_region_stable {id : Nat} {l : List Oper} {a0 : Act} {w : World} {F : (Nat → Value) → Act} (n size : Nat) (ds : List (Option Tmp)) (ns : List (List Nat)) (keep : List Nat) (S : World → Prop) (Vs : List SVal)
 (hm : P.follows .mixedOrders = true) (hsize : a0.tmps.size = size) (hB : okB l n size ds ns = true) (hk : keep.all (fun j => decide (j < n)) = true) (hF : ∀ us, putAll us 0 ds a0 = F us)
 (hS0 : S w.drew) (hS : ∀ w1 w2, S w1 → Ext w1 w2 → S w2)
 (hg : Goals P Q w.drew S Vs F 0 (l.take n) ns) (hend : ∀ us w', Ext w.drew w' → S w' → PreL (vals Vs) us w' keep → wpList P l.toArray Q (l.drop n) (F us) w') : (Code.region id l.toArray true).wp P Q a0 w := by
 subst hsize
 have hB' := hB
 simp only [okB, Bool.and_eq_true, decide_eq_true_eq] at hB'
 have hn : n ≤ l.length := hB'.1.1.1.1.1.1.1
 refine wp_region_any hm ?_
 have h := stable_any (P := P) (Q := Q) (E := Ext) (V := vals Vs) (a0 := a0) (w0 := w.drew) (keep := keep) hF hB (fun _ _ _ => Ext.trans) (fun j v w1 w2 hv hE => ((Vs.getD j anyv).st v w1 w2 hv hE)) hk
  (Goals.to (fun w' hE => hS _ _ hS0 hE) hg) (fun us w' hE hp => hend us w' hE (hS _ _ hS0 hE) hp) n (Array.replicate l.toArray.size false) a0 w.drew ⟨List.range n, by simp, fun j hj => .inr (List.mem_range.2 hj)⟩
  ⟨⟨by simp, fun j oj _ hl => (by rw [getD_replicate_false] at hl; cases hl), fun t _ ht => getD_in (by simpa using ht) (getD_replicate_false _ _)⟩, Ext.refl _, rfl, rfl, fun _ _ => rfl,
    fun j _ hl => (by rw [getD_replicate_false] at hl; cases hl)⟩
 rw [show n + (l.length - n) = l.toArray.size by simp; omega] at h
 exact h
section
variable {w0 : World} {S : World → Prop} {Vs : List SVal} {F : (Nat → Value) → Act} {i : Nat} {o : Oper} {r : List Oper} {n : List Nat} {ns : List (List Nat)}
theorem Goals.nil {ns : List (List Nat)} : Goals P Q w0 S Vs F i [] ns := trivial
theorem Goals.plain {d : Tmp} (hgd : o.guard = none) (hd : o.dst = some d)
 (h : ∀ (us : Nat → Value) (w : World) (K : Value → World → Prop), Ext w0 w → S w → PreL (vals Vs) us w n → (∀ v w', vals Vs i v w' → Ext w w' → K v w') →
  Oper.wp P o (F us) w (fun a' w' => a'.defers = (F us).defers ∧ K (a'.eval (.tmp d)) w') Q)
 (hr : Goals P Q w0 S Vs F (i + 1) r ns) : Goals P Q w0 S Vs F i (o :: r) (n :: ns) := by
 refine ⟨fun us w K hE hS hp hK => ?_, hr⟩
 have := h us w K hE hS hp hK
 rw [hgd, hd]
 exact this
theorem Goals.guarded {d : Tmp} {j : Nat} {b : Bool} (hgd : o.guard = some (j, b)) (hd : o.dst = some d)
 (h : ∀ (us : Nat → Value) (w : World) (K : Value → World → Prop), Ext w0 w → S w → PreL (vals Vs) us w n → (∀ v w', vals Vs i v w' → Ext w w' → K v w') →
  ∃ x, us j = .bool x ∧ (x = b → Oper.wp P o (F us) w (fun a' w' => a'.defers = (F us).defers ∧ K (a'.eval (.tmp d)) w') Q) ∧ (x ≠ b → K undef w))
 (hr : Goals P Q w0 S Vs F (i + 1) r ns) : Goals P Q w0 S Vs F i (o :: r) (n :: ns) := by
 refine ⟨fun us w K hE hS hp hK => ?_, hr⟩
 obtain ⟨x, h1, h2, h3⟩ := h us w K hE hS hp hK
 rw [hgd, hd]
 refine .inl ⟨x, h1, ?_⟩
 by_cases hx : x = b
 ·rw [if_pos hx]; exact h2 hx
 ·rw [if_neg hx]; exact h3 hx
end
end
section
variable {P : Program} {Q : Exit → Act → World → Prop} {w0 : World} {S : World → Prop} {Vs : List SVal} {F : (Nat → Value) → Act} {i : Nat} {o : Oper} {r : List Oper} {n : List Nat} {ns : List (List Nat)} {d : Tmp} {j : Nat} {b : Bool}
theorem gp (h : ∀ (us : Nat → Value) (w : World) (K : Value → World → Prop), Ext w0 w → S w → PreL (vals Vs) us w n → (∀ v w', vals Vs i v w' → Ext w w' → K v w') →
 Oper.wp P o (F us) w (fun a' w' => a'.defers = (F us).defers ∧ K (a'.eval (.tmp d)) w') Q)
 (hr : Goals P Q w0 S Vs F (i + 1) r ns) (hgd : o.guard = none := by rfl) (hd : o.dst = some d := by rfl) : Goals P Q w0 S Vs F i (o :: r) (n :: ns) := Goals.plain hgd hd h hr
theorem gt (h : ∀ (us : Nat → Value) (w : World) (K : Value → World → Prop), Ext w0 w → S w → PreL (vals Vs) us w n → (∀ v w', vals Vs i v w' → Ext w w' → K v w') →
 us j = .bool b ∧ Oper.wp P o (F us) w (fun a' w' => a'.defers = (F us).defers ∧ K (a'.eval (.tmp d)) w') Q)
 (hr : Goals P Q w0 S Vs F (i + 1) r ns) (hgd : o.guard = some (j, b) := by rfl) (hd : o.dst = some d := by rfl) : Goals P Q w0 S Vs F i (o :: r) (n :: ns) :=
 Goals.guarded hgd hd (fun us w K hE hS hp hK => let ⟨h1, h2⟩ := h us w K hE hS hp hK; ⟨b, h1, fun _ => h2, fun hn => absurd rfl hn⟩) hr
theorem gs (h : ∀ (us : Nat → Value) (w : World) (K : Value → World → Prop), Ext w0 w → S w → PreL (vals Vs) us w n → (∀ v w', vals Vs i v w' → Ext w w' → K v w') → us j = .bool (!b) ∧ K undef w)
 (hr : Goals P Q w0 S Vs F (i + 1) r ns) (hgd : o.guard = some (j, b) := by rfl) (hd : o.dst = some d := by rfl) : Goals P Q w0 S Vs F i (o :: r) (n :: ns) :=
 Goals.guarded hgd hd (fun us w K hE hS hp hK => let ⟨h1, h2⟩ := h us w K hE hS hp hK; ⟨!b, h1, fun hn => (by cases b <;> cases hn), fun _ => h2⟩) hr
end
theorem rg {P : Program} {Q : Exit → Act → World → Prop} {id : Nat} {l : List Oper} {a0 : Act} {w : World} {F : (Nat → Value) → Act} (n : Nat) (ns : List (List Nat)) (keep : List Nat) (S : World → Prop) (Vs : List SVal)
 (hS0 : S w.drew) (hS : ∀ w1 w2, S w1 → Ext w1 w2 → S w2) (hg : Goals P Q w.drew S Vs F 0 (l.take n) ns)
 (hend : ∀ us w', Ext w.drew w' → S w' → PreL (vals Vs) us w' keep → wpList P l.toArray Q (l.drop n) (F us) w')
 (hm : P.follows .mixedOrders = true := by kernel_rfl) (hB : okB l n a0.tmps.size ((l.take n).map (·.dst)) ns = true := by kernel_rfl) (hk : keep.all (fun j => decide (j < n)) = true := by kernel_rfl)
 (hF : ∀ us, putAll us 0 ((l.take n).map (·.dst)) a0 = F us := by intro us; simp only [List.take_succ_cons, List.take_zero, List.map_cons, List.map_nil, Stab.putAll, Act.put, List.setIfInBounds_toArray, List.set_cons_zero, List.set_cons_succ]; rfl) : (Code.region id l.toArray true).wp P Q a0 w :=
 wp_region_stable n _ _ ns keep S Vs hm rfl hB hk hF hS0 hS hg hend
end Stab
end Go.Proofs.YtnbkhdbligjifaaGreatDoor
namespace Go.Proofs.YtnbkhdbligjifaaGreatDoor
open Go.RowKit
def Blk (w : World) (g : Nat) (t : TypeId) (cs : Array Value) : Prop := w.heap[g]? = some (.cells cs t (0, 0))
section
variable {w w' : World} {g : Nat} {t : TypeId} {cs : Array Value}
theorem Blk.lt (h : Blk w g t cs) : g < w.heap.size := by
 rcases Nat.lt_or_ge g w.heap.size with hlt | hge
 ·exact hlt
 ·unfold Blk at h; rw [Array.getElem?_eq_none hge] at h; cases h
theorem Blk.cell (h : Blk w g t cs) (i : Nat) : w.cell? ⟨g, i, none⟩ = cs[i]? := cell_of_row w g i cs t (0, 0) h
theorem Blk.frozen (h : Blk w g t cs) (i : Nat) : w.frozen? ⟨g, i, none⟩ = false := by
 unfold Blk at h
 simp [World.frozen?, h]
theorem Blk.new (w : World) (t : TypeId) (cs : Array Value) : Blk (w.alloc (.cells cs t)) w.heap.size t cs := heap_alloc_new w _
theorem Blk.drew (h : Blk w g t cs) : Blk w.drew g t cs := h
theorem Blk.drewN (h : Blk w g t cs) (n : Nat) : Blk (w.drewN n) g t cs := h
theorem Blk.alloc (h : Blk w g t cs) (o : Obj) : Blk (w.alloc o) g t cs := (Below.heap_alloc w o g h.lt).trans h
theorem Blk.set_ (h : Blk w g t cs) (i : Nat) (u : Value) : Blk (w.setCell ⟨g, i, none⟩ u) g t (cs.setIfInBounds i u) := by
 unfold Blk at h ⊢
 simp [World.setCell, Array.getElem?_modify, h]
theorem Blk.far (h : Blk w g t cs) {p : Addr} (hp : g ≠ p.block) (u : Value) : Blk (w.setCell p u) g t cs := (Below.heap_setCell w p u g hp).trans h
theorem Blk.below {B : Nat} (h : Blk w g t cs) (hb : Below B w w') (hg : g < B) : Blk w' g t cs := (hb.block g hg).trans h
theorem Blk.grown {row : Option Nat} (h : Blk w g t cs) (hb : w.grownBy w' row) (hg : some g ≠ row) : Blk w' g t cs := (hb.block g h.lt hg).trans h
end
theorem madeCells_one (z : Value) (n : Nat) : madeCells #[z] n = Array.replicate n z := by
 apply Array.toList_inj.1
 rw [toList_madeCells_one]; simp
theorem run_mk {P : Program} {t e : TypeId} {z : Value} {bytes : Nat} (ht : P.underlying t = some (.slice e)) (he : (P.info? e).map (fun i => (i.zero, i.size, i.bytes)) = some (some z, 1, bytes)) (hz : z.cells = #[z]) (n : Nat) (hn : bytes * n ≤ 281474976710656) (h63 : (n : Int) ≤ 9223372036854775807) (W : World) :
 (Instr.makeSlice t (.int .i64 (n : Int)) (.int .i64 (n : Int))).run P W = .ok (.slice (some ⟨W.heap.size, 0, none⟩) n n) (W.alloc (.cells (Array.replicate n z) e)) := by
 obtain ⟨i, hi, h1, h2, h3⟩ := info_parts he
 have h := run_make (P := P) W t e i z ht hi h1 .i64 .i64 (n : Int) (n : Int) (by omega) (Int.le_refl _) (by rw [h3, ← Int.natCast_mul]; omega) h63
 rw [h, h2, hz]
 simp only [Int.toNat_natCast, Nat.mul_one, madeCells_one]
def appSem (ts : Array TypeId) (ty : TypeId) (args : Array Value) : Sem Value := Builtin.append_ ts ty args
theorem appSem_eq (ts : Array TypeId) (ty : TypeId) (args : Array Value) : Builtin.append_ ts ty args = appSem ts ty args := rfl
def nums (l : List UInt8) : Array Value := (l.map fun b => Value.int .u8 (b.toNat : Int)).toArray
theorem nums_size (l : List UInt8) : (nums l).size = l.length := by simp [nums]
theorem nums_get (l : List UInt8) (i : Nat) (hi : i < l.length) : (nums l)[i]? = some (.int .u8 (l[i].toNat : Int)) := by simp [nums, hi]
theorem nums_set (l : List UInt8) (i : Nat) (b : UInt8) : (nums l).setIfInBounds i (.int .u8 (b.toNat : Int)) = nums (l.set i b) := by
 apply Array.toList_inj.1
 simp [nums, List.map_set]
theorem nums_zero (n : Nat) : Array.replicate n (Value.int .u8 0) = nums (List.replicate n 0) := by
 apply Array.toList_inj.1
 simp [nums]
theorem run_text {P : Program} {w : World} {src e dst : TypeId} (hs : P.underlying src = some (.slice e)) (he : P.underlying e = some (.int .u8)) (hd : P.underlying dst = some .string) {g cap : Nat} {t : TypeId} {l : List UInt8} {r : Array Value} (h : Blk w g t (nums l ++ r)) :
 (convert src dst (.slice (some ⟨g, 0, none⟩) l.length cap)).run P w = .ok (.string ⟨l.toArray⟩) w := by
 refine run_convert_bytes_back w src dst e ⟨g, 0, none⟩ cap l hs he hd (fun j hj => ?_)
 have hp : (⟨g, 0, none⟩ : Addr).add j = ⟨g, j, none⟩ := by unfold Addr.add; split <;> simp_all
 rw [hp, h.cell j, Array.getElem?_append_left (by rw [nums_size]; exact hj), nums_get l j hj]
end Go.Proofs.YtnbkhdbligjifaaGreatDoor
