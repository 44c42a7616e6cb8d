/-
 The health package in plain words: what Mend leaves of any world; objects that differ.
-/
import Derived.Test.YtnbkhdbligjifaaGreatDoorHltQ
import Derived.Test.YtnbkhdbligjifaaGreatDoorFltOpen
set_option linter.unusedVariables false
set_option linter.unusedSimpArgs false
namespace Go.Proofs.YtnbkhdbligjifaaGreatDoor
open Go Go.RowKit Vm
namespace Hlt
set_option linter.unusedVariables false
section
variable {p : PW} {k n : Nat} {d : ByteArray}
theorem mStep_st {rows : List (List Nat)} {t : Nat × Int × PW} (hc : Calm t.2.2) {x : Nat × Got} (hi : x.1 < t.2.2.n) : (mStep k n d rows t x).2.2.st x.1 = t.2.2.st x.1 ∨ ∃ y, (mStep k n d rows t x).2.2.st x.1 = wS (t.2.2.st x.1) (nmB d x.1) y := by
 unfold mStep
 have hw := (writeR_st hc hi (nmB d x.1) (datP k n d x.1 (Cod.payL (Cod.matL k n) rows x.1))).2
 cases x.2.there
 · simp only [Bool.false_eq_true, if_false]
   left
   split <;> rfl
 · simp only [if_true]
   right
   refine ⟨datP k n d x.1 (Cod.payL (Cod.matL k n) rows x.1), ?_⟩
   split
   · show (writeR _ _ _ _).2.st x.1 = _
     rw [hw, upd_same]
   · show (writeR _ _ _ _).2.st x.1 = _
     rw [hw, upd_same]
theorem mAll_any {rows : List (List Nat)} (hc : Calm p) (xs : List (Nat × Got)) (hlt : ∀ x ∈ xs, x.1 < p.n) (hnd : (xs.map (·.1)).Nodup) (i : Nat) :
   (mAll k n d rows p xs).2.2.st i = p.st i ∨ (i ∈ xs.map (·.1) ∧ ∃ y, (mAll k n d rows p xs).2.2.st i = wS (p.st i) (nmB d i) y) := by
 suffices H : ∀ (xs : List (Nat × Got)) (t : Nat × Int × PW), Calm t.2.2 → t.2.2.n = p.n → (∀ x ∈ xs, x.1 < p.n) → (xs.map (·.1)).Nodup → 
     (xs.foldl (mStep k n d rows) t).2.2.st i = t.2.2.st i ∨ (i ∈ xs.map (·.1) ∧ ∃ y, (xs.foldl (mStep k n d rows) t).2.2.st i = wS (t.2.2.st i) (nmB d i) y) from H xs (0, 0, p) hc rfl hlt hnd
 intro xs
 induction xs with
 | nil => exact fun t _ _ _ _ => .inl rfl
 | cons x xs ih =>
   intro t ht hn hlt hnd
   simp only [List.map_cons, List.nodup_cons] at hnd
   have hx' : x.1 < t.2.2.n := by rw [hn]; exact hlt x (by simp)
   obtain ⟨g1, g2, g3, g4⟩ := mStep_calm (k := k) (n := n) (d := d) (rows := rows) ht (x := x) hx'
   have h := ih (mStep k n d rows t x) g1 (g2.trans hn) (fun y hy => hlt y (by simp [hy])) hnd.2
   rw [List.foldl_cons]
   by_cases hi : i = x.1
   · subst hi
     have h1 : (xs.foldl (mStep k n d rows) (mStep k n d rows t x)).2.2.st x.1 = (mStep k n d rows t x).2.2.st x.1 := h.resolve_right fun hh => hnd.1 hh.1
     rcases mStep_st (k := k) (n := n) (d := d) (rows := rows) ht hx' with h2 | ⟨y, h2⟩
     · exact .inl (h1.trans h2)
     · exact .inr ⟨by simp, y, h1.trans h2⟩
   · rw [g3 i hi] at h
     rcases h with h | ⟨h1, y, h2⟩
     · exact .inl h
     · exact .inr ⟨by simp [h1], y, h2⟩
theorem mEnd_ne (e : Int) : mEnd e ≠ 1 ∧ mEnd e ≠ 56 := by unfold mEnd; split <;> omega
theorem mend_st (hc : Calm p) (hn : p.n = n) : Calm (mendR p k n d).2.2 ∧ (mendR p k n d).2.2.n = n ∧ (∀ i, i < n → (mendR p k n d).2.2.st i = p.st i ∨ (snd p k n d i = false ∧ ∃ y, (mendR p k n d).2.2.st i = wS (p.st i) (nmB d i) y)) ∧ ((mendR p k n d).2.1 ≠ 1 ∧ (mendR p k n d).2.1 ≠ 56) := by
 have ha := adv_calm hc n
 have hs := (adv_st p n).2.1
 have hnn := (adv_st p n).1.trans hn
 unfold mendR
 simp only
 split
 · have hlt : ∀ x ∈ sel false 0 (lookL p d k n n), x.1 < (PW.adv p n).n := fun x hx => by
     rw [hnn]
     exact (sel_range false n x hx).1
   have hnd : ((sel false 0 (lookL p d k n n)).map (·.1)).Nodup := (sel_rise false _ 0).imp fun h => by omega
   obtain ⟨b1, b2, b3, b4⟩ := mAll_calm (k := k) (n := n) (d := d) (rows := rowsF (Cod.foundF k n (haveL (lookL p d k n n) k) (paysOf (lookL p d k n n) k))) ha _ hlt
   refine ⟨b1, b2.trans hnn, fun i hi => ?_, (mEnd_ne _).1, (mEnd_ne _).2⟩
   have := mAll_any (k := k) (n := n) (d := d) (rows := rowsF (Cod.foundF k n (haveL (lookL p d k n n) k) (paysOf (lookL p d k n n) k))) ha _ hlt hnd i
   rw [hs] at this
   rcases this with h | ⟨h1, y, h2⟩
   · exact .inl h
   · refine .inr ⟨?_, y, h2⟩
     obtain ⟨z, hz, rfl⟩ := List.mem_map.1 h1
     obtain ⟨q1, q2, q3⟩ := sel_range false n z hz
     unfold snd
     rw [← q2]; exact q3
 · split
   · exact ⟨ha, hnn, fun i _ => .inl (by rw [hs]), by simp, by simp⟩
   · exact ⟨ha, hnn, fun i _ => .inl (by rw [hs]), by simp, by simp⟩
theorem wS_fits {L : Nat} {st : PSt} (h : Fits L st) (x y : ByteArray) : Fits (L + 1) (wS st x y) := by
 have hroom : (wS st x y).room = st.room := by
   have hr := (refS_same st).2.2.2.2
   unfold wS putS syncS
   repeat' split
   all_goals first | rfl | exact hr
 by_cases h0 : wE st x y = 0
 · obtain ⟨g1, g2, g3, g4⟩ := wS_yes h0
   have hsz : x.size ≤ 80 ∧ y.size ≤ 65536 := by
     unfold wE at h0
     by_cases hp : putE st x y = 0
     · unfold putE at hp
       split at hp
       · omega
       · omega
     · rw [if_pos hp] at h0; exact absurd h0 hp
   refine ⟨?_, fun q hq => ?_, g2.wr, by rw [hroom]; exact h.room⟩
   · rw [g1]; exact Nat.le_trans (put_len _ _ _) (by have := h.len; omega)
   · rw [g1] at hq
     rcases put_mem hq with rfl | hq
     · exact hsz
     · exact h.key q hq
 · obtain ⟨g1, g2, g3, g4⟩ := wS_no h0
   exact ⟨by rw [g1]; have := h.len; omega, fun q hq => by rw [g1] at hq; exact h.key q hq, by rw [g3]; exact h.wr, by rw [hroom]; exact h.room⟩
theorem fits_up {L : Nat} {st : PSt} (h : Fits L st) : Fits (L + 1) st := ⟨by have := h.len; omega, h.key, h.wr, h.room⟩
theorem mAll_far {rows : List (List Nat)} (hc : Calm p) (xs : List (Nat × Got)) (hlt : ∀ x ∈ xs, x.1 < p.n) : ∀ i, p.n ≤ i → (mAll k n d rows p xs).2.2.st i = p.st i := fun i hi =>
 (mAll_calm (k := k) (n := n) (d := d) (rows := rows) hc xs hlt).2.2.1 i fun hm => by
   obtain ⟨z, hz, rfl⟩ := List.mem_map.1 hm
   have := hlt z hz
   omega
theorem mend_fit {L : Nat} (h : WFit L n p) : WFit (L + 1) n (mendR p k n d).2.2 := by
 obtain ⟨h1, h2, h3, _⟩ := mend_st (k := k) (d := d) h.calm h.n_
 refine ⟨h2, fun i => ?_, h1⟩
 by_cases hi : i < n
 · rcases h3 i hi with h4 | ⟨_, y, h4⟩
   · rw [h4]; exact fits_up (h.fits i)
   · rw [h4]; exact wS_fits (h.fits i) _ _
 · have : (mendR p k n d).2.2.st i = p.st i := by
     unfold mendR
     simp only
     split
     · rw [mAll_far (adv_calm h.calm n) _ (fun x hx => by rw [(adv_st p n).1, h.n_]; exact (sel_range false n x hx).1) i (by rw [(adv_st p n).1, h.n_]; omega)]
       rw [(adv_st p n).2.1]
     · split <;> exact congrFun (adv_st p n).2.1 i
   rw [this]; exact fits_up (h.fits i)
/-! ### objects that differ -/
theorem mem_objs {m : TMap} {o : POb} : o ∈ ((keysOf m).map fun k => ((⟨k.toArray⟩ : ByteArray), gotB m k)) ↔ TMap.look m o.1 = some o.2 := by
 rw [List.mem_map]
 constructor
 · rintro ⟨key, hk, rfl⟩
   unfold keysOf at hk
   rw [List.mem_mergeSort, List.mem_map] at hk
   obtain ⟨q, hq, rfl⟩ := hk
   show TMap.look m ⟨q.1.data.toList.toArray⟩ = some (gotB m q.1.data.toList)
   unfold gotB
   have he : (⟨q.1.data.toList.toArray⟩ : ByteArray) = q.1 := by simp
   rw [he]
   cases hl : TMap.look m q.1 with
   | none =>
     exfalso
     clear he
     induction m with
     | nil => cases hq
     | cons r m ih =>
       obtain ⟨a, b⟩ := r
       unfold TMap.look at hl
       split at hl
       · cases hl
       · rcases List.mem_cons.1 hq with rfl | hq
         · rename_i hne; exact hne rfl
         · exact ih hq hl
   | some v => rfl
 · intro h
   have hm := TMap.look_mem h
   refine ⟨o.1.data.toList, ?_, ?_⟩
   · unfold keysOf
     rw [List.mem_mergeSort, List.mem_map]
     exact ⟨_, hm, rfl⟩
   · have he : (⟨o.1.data.toList.toArray⟩ : ByteArray) = o.1 := by simp
     unfold gotB
     rw [he, h]
     rfl
theorem objsL_mem {i : Nat} (hi : i < p.n) {o : POb} : o ∈ objsL p i ↔ TMap.look (p.st i).seen o.1 = some o.2 := by
 unfold objsL PW.keys
 rw [if_pos (has_lt hi), Int.toNat_natCast]
 exact mem_objs
theorem mend_objs (hc : Calm p) (hn : p.n = n) {i : Nat} (hi : i < n) : (∀ o, o ∈ freshL (objsL p i) (objsL (mendR p k n d).2.2 i) ∨ o ∈ freshL (objsL (mendR p k n d).2.2 i) (objsL p i) → snd p k n d i = false ∧ o.1 = nmB d i) := by
 obtain ⟨h1, h2, h3, _⟩ := mend_st (k := k) (d := d) hc hn
 have hm := fun o => objsL_mem (p := p) (i := i) (by omega) (o := o)
 have hm' := fun o => objsL_mem (p := (mendR p k n d).2.2) (i := i) (by omega) (o := o)
 have hd : ∀ o : POb, (o ∈ objsL p i ↔ o ∈ objsL (mendR p k n d).2.2 i) ∨ (snd p k n d i = false ∧ o.1 = nmB d i) := fun o => by
   rw [hm, hm']
   rcases h3 i hi with h4 | ⟨h5, y, h4⟩
   · rw [h4]; exact .inl Iff.rfl
   · rw [h4]
     by_cases h0 : wE (p.st i) (nmB d i) y = 0
     · rw [(wS_yes h0).1, TMap.look_put]
       by_cases ho : o.1 = nmB d i
       · exact .inr ⟨h5, ho⟩
       · rw [if_neg ho]; exact .inl Iff.rfl
     · rw [(wS_no h0).1]; exact .inl Iff.rfl
 intro o ho
 unfold freshL at ho
 rcases hd o with h | h
 · rcases ho with ho | ho
   · obtain ⟨q1, q2⟩ := List.mem_filter.1 ho
     have : o ∉ objsL p i := by simpa using q2
     exact absurd (h.2 q1) this
   · obtain ⟨q1, q2⟩ := List.mem_filter.1 ho
     have : o ∉ objsL (mendR p k n d).2.2 i := by simpa using q2
     exact absurd (h.1 q1) this
 · exact h
end
end Hlt
end Go.Proofs.YtnbkhdbligjifaaGreatDoor
