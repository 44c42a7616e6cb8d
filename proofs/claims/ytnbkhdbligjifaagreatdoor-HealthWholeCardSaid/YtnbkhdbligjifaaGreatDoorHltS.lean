/-
 The health package in plain words: what is sound, what Mend makes of it. The health package in plain words: behind Mend; the laws' count. The health package in plain words: what Mend leaves of any world; objects that differ.
-/
import Derived.Test.YtnbkhdbligjifaaGreatDoorCodQ
import Derived.Test.YtnbkhdbligjifaaGreatDoorHltG
import Derived.Test.YtnbkhdbligjifaaGreatDoorStoI
set_option linter.unusedVariables false
set_option linter.unusedSimpArgs false
set_option maxHeartbeats 40000000
namespace Go.Proofs.YtnbkhdbligjifaaGreatDoor
open Go Go.RowKit Vm
namespace Hlt
section
variable {p : PW} {k n : Nat} {d s : ByteArray}
structure Num (k n : Nat) (d s : ByteArray) : Prop where
 code : Shd.codeB (k : Int) (n : Int) = true
 dig : d.size = 32
 len : s.size ≤ 32768
def dB (k n : Nat) (d s : ByteArray) (i : Nat) : ByteArray := datB k n d.data.toList s i
def sgot (k n : Nat) (s : ByteArray) (i : Nat) : Got := ⟨true, true, ⟨(payB k n s i).toArray⟩⟩
noncomputable def gotAt (p : PW) (k n : Nat) (d : ByteArray) (i : Nat) : Got := gotOf (nmL d i) (wgetO p i (nmB d i)) k n
theorem Num.ks (h : Num k n d s) : 1 ≤ k ∧ k ≤ n ∧ n ≤ 12 := by have := (Shd.codeB_iff _ _).1 h.code; omega
theorem pay_le (h : Num k n d s) (i : Nat) : (payB k n s i).length ≤ 32788 := by
 have := h.ks
 rw [payB_len n s i (by omega)]
 have := Cod.sizeZ_le k s.size (by omega)
 have := h.len
 omega
theorem got_dat (h : Num k n d s) {i : Nat} (hi : i < n) : gotOf (nmL d i) (dB k n d s i, 0) k n = sgot k n s i := by
 obtain ⟨h1, h2, h3⟩ := h.ks
 have hdl : d.data.toList.length = 32 := by rw [← h.dig]; simp
 have hs : Shd.Sound Shd.sumL (nmL d i) ((shardOf k n d.data.toList s i).data Shd.sumL) (shardOf k n d.data.toList s i) :=
  ⟨⟨by show (1 : Int) ≤ k; omega, by show (k : Int) ≤ n; omega, by show (n : Int) ≤ 12; omega, hdl, by show (0 : Int) ≤ i; omega, by show (i : Int) < n; omega⟩, by show (payB k n s i).length ≤ 65461; have := pay_le h i; omega, rfl, rfl⟩
 have hl := Shd.sound_looks Shd.sumL_len hs
 have he := hs.eq Shd.sumL_len
 have hb : (dB k n d s i).data.toList = (shardOf k n d.data.toList s i).data Shd.sumL := rfl
 unfold gotOf
 rw [if_pos rfl, if_pos (show Shd.Looks Shd.sumL (nmL d i) (dB k n d s i).data.toList from hl), hb, ← he]
 simp [shardOf, sgot]
theorem dat_shard (i : Nat) (rows : List (List Nat)) (hr : rows = Cod.dataL s k (Cod.sizeZ k s.size)) : datP k n d i (Cod.payL (Cod.matL k n) rows i) = dB k n d s i := by
 subst hr; rfl
/-! ### stores -/
theorem has_lt {i : Nat} (hi : i < p.n) : p.has (i : Int) = true := by simp [PW.has]; omega
theorem gotAt_st (hc : Calm p) {i : Nat} (hi : i < p.n) : gotAt p k n d i = gotOf (nmL d i) (getO (p.st i) (nmB d i)) k n := by
 unfold gotAt wgetO
 rw [has_lt hi, hc.stepd]
 rfl
theorem look_map (q : Nat) : lookL p d k n q = (List.range q).map (gotAt p k n d) := rfl
def Clean (p : PW) (k n : Nat) (d s : ByteArray) : Prop := ∀ i, i < n → (gotAt p k n d i).sound = true → (p.st i).down = false ∧ TMap.look (p.st i).seen (nmB d i) = some (dB k n d s i)
theorem clean_got (h : Num k n d s) (hc : Calm p) (hn : p.n = n) (hk : Clean p k n d s) {i : Nat} (hi : i < n) (hs : (gotAt p k n d i).sound = true) : gotAt p k n d i = sgot k n s i := by
 obtain ⟨h1, h2⟩ := hk i hi hs
 rw [gotAt_st hc (by omega)]
 unfold getO
 rw [h1, h2]
 exact got_dat h hi
theorem sel_range (b : Bool) (q : Nat) : ∀ x ∈ sel b 0 (lookL p d k n q), x.1 < q ∧ x.2 = gotAt p k n d x.1 ∧ x.2.sound = b := fun x hx => by
 obtain ⟨_, h2, h3⟩ := (sel_mem b _ 0 x.1 x.2).1 hx
 rw [Nat.sub_zero] at h2
 have hl := (List.getElem?_eq_some_iff.1 h2).1
 rw [lookL_len] at hl
 rw [look_map, List.getElem?_map, List.getElem?_range hl] at h2
 exact ⟨hl, (by simpa using h2.symm), h3⟩
theorem mem_sel (b : Bool) {q i : Nat} (hi : i < q) (hb : (gotAt p k n d i).sound = b) : (i, gotAt p k n d i) ∈ sel b 0 (lookL p d k n q) := by
 refine (sel_mem b _ 0 i _).2 ⟨Nat.zero_le _, ?_, hb⟩
 rw [Nat.sub_zero, look_map, List.getElem?_map, List.getElem?_range hi]
 rfl
noncomputable def cntS (p : PW) (k n : Nat) (d : ByteArray) : Nat := (sel true 0 (lookL p d k n n)).length
theorem told_few (h : cntS p k n d < k) : toldL k n d (lookL p d k n n) = false := by
 unfold toldL
 have : Cod.foundF k n (haveL (lookL p d k n n) k) (paysOf (lookL p d k n n) k) = .inl 54 := by
  unfold Cod.foundF
  rw [if_pos]
  unfold haveL
  rw [List.length_map, List.length_take]
  unfold cntS at h
  omega
 rw [this]
def AllTurn (k n : Nat) : Prop := ∀ hs : List Nat, hs.Pairwise (· < ·) → (∀ x ∈ hs, x < n) → hs.length = k → Cod.Turns k n hs
theorem allTurn3 (k : Nat) (h1 : 1 ≤ k) : AllTurn k 3 := fun hs hr hlt hl => by
 have := Cod.rows3_of hr hlt (by omega)
 rw [hl] at this
 exact Cod.turns3 this
theorem found_clean (h : Num k n d s) (hT : AllTurn k n) (hc : Calm p) (hn : p.n = n) (hk : Clean p k n d s) (h0 : k ≤ cntS p k n d) :
 Cod.foundF k n (haveL (lookL p d k n n) k) (paysOf (lookL p d k n n) k) = .inr (s.data.toList, Cod.dataL s k (Cod.sizeZ k s.size)) := by
 obtain ⟨h1, h2, h3⟩ := h.ks
 have hl : (haveL (lookL p d k n n) k).length = k := by
  unfold haveL
  rw [List.length_map, List.length_take]
  unfold cntS at h0
  omega
 have hp : paysOf (lookL p d k n n) k = (haveL (lookL p d k n n) k).map fun i => payB k n s i := by
  unfold paysOf haveL
  rw [List.map_map]
  refine List.map_congr_left fun x hx => ?_
  obtain ⟨g1, g2, g3⟩ := sel_range true n x (List.mem_of_mem_take hx)
  rw [g2] at g3
  rw [g2, clean_got h hc hn hk g1 g3]
  rfl
 rw [hp]
 have hlt : ∀ x ∈ haveL (lookL p d k n n) k, x < n := fun x hx => by have := haveL_lt _ k x hx; rwa [lookL_len] at this
 have hr : (haveL (lookL p d k n n) k).Pairwise (· < ·) := by
  unfold haveL
  exact (sel_rise true _ 0).sublist ((List.take_sublist k _).map _)
 exact Cod.found_ok (by omega) hl hlt (hT _ hr hlt hl) h.len
theorem told_clean (h : Num k n d s) (hd : d = ⟨(Shd.sumL s.data.toList).toArray⟩) (hT : AllTurn k n) (hc : Calm p) (hn : p.n = n) (hk : Clean p k n d s) (h0 : k ≤ cntS p k n d) : toldL k n d (lookL p d k n n) = true := by
 unfold toldL
 rw [found_clean h hT hc hn hk h0]
 simp [hd]
/-! ### one write -/
def wE (st : PSt) (x y : ByteArray) : Int := if putE st x y ≠ 0 then putE st x y else syncV (putS st x y)
def wS (st : PSt) (x y : ByteArray) : PSt := if putE st x y ≠ 0 then putS st x y else syncS (putS st x y)
theorem writeR_st (hc : Calm p) {i : Nat} (hi : i < p.n) (x y : ByteArray) : (writeR p i x y).1 = wE (p.st i) x y ∧ (writeR p i x y).2.st = upd p.st i (wS (p.st i) x y) := by
 obtain ⟨h1, h2, h3⟩ := callP_st hc hi (putS (p.st i) x y)
 have e1 : ∀ e, callE p i e = e := fun e => (callP_calm hc hi (p.st i) e).2
 have hi2 : i < (callP p i (putS (p.st i) x y)).n := by rw [h2]; exact hi
 have e2 : ∀ e, callE (callP p i (putS (p.st i) x y)) i e = e := fun e => (callP_calm h1 hi2 (p.st i) e).2
 obtain ⟨g1, g2, g3⟩ := callP_st h1 hi2 (syncS ((callP p i (putS (p.st i) x y)).st i))
 have hst : (callP p i (putS (p.st i) x y)).st i = putS (p.st i) x y := by rw [h3, upd_same]
 unfold writeR wE wS
 rw [e1]
 split
 ·exact ⟨rfl, h3⟩
 ·refine ⟨by rw [e2, hst], ?_⟩
  show (callP (callP p i (putS (p.st i) x y)) i _).st = _
  rw [g3, hst, h3]
  funext j
  unfold upd
  split <;> rfl
structure Sync (st : PSt) : Prop where
 wr : st.writes = []
 good : st.good = st.seen
theorem refS_same (st : PSt) : (refS st).good = st.good ∧ (refS st).seen = st.seen ∧ (refS st).writes = st.writes ∧ (refS st).down = st.down ∧ (refS st).room = st.room := by
 unfold refS
 split <;> exact ⟨rfl, rfl, rfl, rfl, rfl⟩
theorem wS_no {st : PSt} {x y : ByteArray} (h : wE st x y ≠ 0) : (wS st x y).seen = st.seen ∧ (wS st x y).good = st.good ∧ (wS st x y).writes = st.writes ∧ (wS st x y).down = st.down := by
 obtain ⟨r1, r2, r3, r4, r5⟩ := refS_same st
 unfold wE at h
 unfold wS
 by_cases hp : putE st x y = 0
 ·rw [if_neg (by simpa using hp)] at h
  exfalso
  unfold putE at hp
  unfold syncV putS at h
  split at hp
  ·omega
  ·rename_i c1
   rw [if_neg c1] at h
   split at hp
   ·omega
   ·rename_i c2
    rw [if_neg c2] at h
    split at hp
    ·omega
    ·rename_i c3
     rw [if_neg c3] at h
     split at hp
     ·omega
     ·rename_i c4
      rw [if_neg c4] at h
      have : (refS st).down = false := by rw [r4]; simpa using c2
      simp [this] at h
 ·rw [if_pos hp]
  unfold putE at hp
  unfold putS
  split
  ·exact ⟨rfl, rfl, rfl, rfl⟩
  ·split
   ·exact ⟨rfl, rfl, rfl, rfl⟩
   ·split
    ·exact ⟨rfl, rfl, rfl, rfl⟩
    ·split
     ·exact ⟨r2, r1, r3, r4⟩
     ·rename_i c1 c2 c3 c4
      rw [if_neg c1, if_neg c2, if_neg c3, if_neg c4] at hp
      exact absurd rfl hp
theorem wS_yes {st : PSt} {x y : ByteArray} (h : wE st x y = 0) : (wS st x y).seen = TMap.put st.seen x y ∧ Sync (wS st x y) ∧ (wS st x y).down = false ∧ st.down = false := by
 obtain ⟨r1, r2, r3, r4, r5⟩ := refS_same st
 unfold wE at h
 unfold wS
 by_cases hp : putE st x y = 0
 ·rw [if_neg (by simpa using hp)]
  unfold putE at hp
  unfold putS
  split at hp
  ·omega
  ·rename_i c1
   rw [if_neg c1]
   split at hp
   ·omega
   ·rename_i c2
    rw [if_neg c2]
    split at hp
    ·omega
    ·rename_i c3
     rw [if_neg c3]
     split at hp
     ·omega
     ·rename_i c4
      rw [if_neg c4]
      have hdn : (refS st).down = false := by rw [r4]; simpa using c2
      unfold syncS
      simp only [hdn, Bool.false_eq_true, if_false, PSt.settled]
      exact ⟨trivial, ⟨rfl, rfl⟩, trivial, by simpa using c2⟩
 ·rw [if_pos hp] at h
  exact absurd h hp
/-! ### all that are not sound -/
def eOf (p : PW) (k n : Nat) (d s : ByteArray) (x : Nat × Got) : Int := if x.2.there then wE (p.st x.1) (nmB d x.1) (dB k n d s x.1) else 53
theorem mAll_plain (hc : Calm p) (xs : List (Nat × Got)) (hlt : ∀ x ∈ xs, x.1 < p.n) (hnd : (xs.map (·.1)).Nodup) :
 (∀ x ∈ xs, (mAll k n d (Cod.dataL s k (Cod.sizeZ k s.size)) p xs).2.2.st x.1 = if x.2.there then wS (p.st x.1) (nmB d x.1) (dB k n d s x.1) else p.st x.1) ∧
 (mAll k n d (Cod.dataL s k (Cod.sizeZ k s.size)) p xs).1 = (xs.filter fun x => eOf p k n d s x = 0).length ∧
 ((mAll k n d (Cod.dataL s k (Cod.sizeZ k s.size)) p xs).2.1 = 0 ↔ ∀ x ∈ xs, eOf p k n d s x = 0) := by
 generalize hrows : Cod.dataL s k (Cod.sizeZ k s.size) = rows
 suffices H : ∀ (xs : List (Nat × Got)) (t : Nat × Int × PW), Calm t.2.2 → t.2.2.n = p.n → (∀ x ∈ xs, x.1 < p.n) → (xs.map (·.1)).Nodup → (∀ x ∈ xs, t.2.2.st x.1 = p.st x.1) →
  (∀ x ∈ xs, (xs.foldl (mStep k n d rows) t).2.2.st x.1 = if x.2.there then wS (p.st x.1) (nmB d x.1) (dB k n d s x.1) else p.st x.1) ∧
  (xs.foldl (mStep k n d rows) t).1 = t.1 + (xs.filter fun x => eOf p k n d s x = 0).length ∧ ((xs.foldl (mStep k n d rows) t).2.1 = 0 ↔ t.2.1 = 0 ∧ ∀ x ∈ xs, eOf p k n d s x = 0) from by
  obtain ⟨h1, h2, h3⟩ := H xs (0, 0, p) hc rfl hlt hnd (fun _ _ => rfl)
  exact ⟨h1, by rw [mAll, h2, Nat.zero_add], by rw [mAll, h3]; simp⟩
 intro xs
 induction xs with
 | nil => exact fun t _ _ _ _ _ => ⟨by simp, by simp, by simp⟩
 | cons x xs ih =>
   intro t ht hn hlt hnd hst
   simp only [List.map_cons, List.nodup_cons] at hnd
   have hx := hlt x (by simp)
   have hsx := hst x (by simp)
   have hx' : x.1 < t.2.2.n := by rw [hn]; exact hx
   obtain ⟨g1, g2, g3, g4⟩ := mStep_calm (k := k) (n := n) (d := d) (rows := rows) ht (x := x) hx'
   have hw := writeR_st ht (i := x.1) hx' (nmB d x.1) (dB k n d s x.1)
   rw [hsx] at hw
   have hstep : (mStep k n d rows t x).2.2.st x.1 = (if x.2.there then wS (p.st x.1) (nmB d x.1) (dB k n d s x.1) else p.st x.1) ∧ (mStep k n d rows t x).1 = t.1 + (if eOf p k n d s x = 0 then 1 else 0) ∧ ((mStep k n d rows t x).2.1 = 0 ↔ t.2.1 = 0 ∧ eOf p k n d s x = 0) := by
    unfold mStep eOf
    rw [dat_shard (s := s) (n := n) (d := d) x.1 rows hrows.symm]
    cases x.2.there
    ·simp only [Bool.false_eq_true, if_false]
     refine ⟨?_, ?_, ?_⟩
     ·rw [if_neg (by decide)]; exact hsx
     ·simp
     ·rw [if_neg (by decide)]
      by_cases h0 : t.2.1 = 0 <;> simp [h0]
    ·simp only [if_true]
     rw [hw.1]
     have hst2 : (writeR t.2.2 x.1 (nmB d x.1) (dB k n d s x.1)).2.st x.1 = wS (p.st x.1) (nmB d x.1) (dB k n d s x.1) := by rw [hw.2, upd_same]
     by_cases h0 : wE (p.st x.1) (nmB d x.1) (dB k n d s x.1) = 0
     ·rw [if_pos h0, if_pos h0]
      exact ⟨hst2, rfl, by simp [h0]⟩
     ·rw [if_neg h0, if_neg h0]
      refine ⟨hst2, rfl, ?_⟩
      by_cases h1 : wE (p.st x.1) (nmB d x.1) (dB k n d s x.1) = 52 ∨ t.2.1 = 0
      ·simp [h1, h0]
      ·simp only [if_neg h1, h0, and_false, iff_false]
       exact fun h => h1 (.inr h)
   have hne : ∀ y ∈ xs, y.1 ≠ x.1 := fun y hy he => hnd.1 (by rw [← he]; exact List.mem_map_of_mem hy)
   obtain ⟨h1, h2, h3⟩ := ih (mStep k n d rows t x) g1 (g2.trans hn) (fun y hy => hlt y (by simp [hy])) hnd.2 (fun y hy => (g3 _ (hne y hy)).trans (hst y (by simp [hy])))
   rw [List.foldl_cons]
   refine ⟨fun y hy => ?_, ?_, ?_⟩
   ·rcases List.mem_cons.1 hy with rfl | hy
    ·-- behind it the others leave it
     have hk : ∀ (ys : List (Nat × Got)) (u : Nat × Int × PW), Calm u.2.2 → u.2.2.n = p.n → (∀ z ∈ ys, z.1 < p.n) → (∀ z ∈ ys, z.1 ≠ y.1) → (ys.foldl (mStep k n d rows) u).2.2.st y.1 = u.2.2.st y.1 := by
      intro ys
      induction ys with
      | nil => exact fun _ _ _ _ _ => rfl
      | cons z ys ihz =>
        intro u hu hun hz1 hz2
        obtain ⟨q1, q2, q3, q4⟩ := mStep_calm (k := k) (n := n) (d := d) (rows := rows) hu (x := z) (by rw [hun]; exact hz1 z (by simp))
        rw [List.foldl_cons, ihz _ q1 (q2.trans hun) (fun w hw => hz1 w (by simp [hw])) (fun w hw => hz2 w (by simp [hw]))]
        exact q3 _ (Ne.symm (hz2 z (by simp)))
     rw [hk xs _ g1 (g2.trans hn) (fun z hz => hlt z (by simp [hz])) hne]
     exact hstep.1
    ·exact h1 y hy
   ·rw [h2, hstep.2.1, List.filter_cons]
    by_cases h0 : eOf p k n d s x = 0
    ·simp [h0]; omega
    ·simp [h0]
   ·rw [h3, hstep.2.2]
    simp only [List.mem_cons, forall_eq_or_imp]
    exact ⟨fun ⟨⟨a, b⟩, c⟩ => ⟨a, b, c⟩, fun ⟨a, b, c⟩ => ⟨⟨a, b⟩, c⟩⟩
end
end Hlt
end Go.Proofs.YtnbkhdbligjifaaGreatDoor
namespace Go.Proofs.YtnbkhdbligjifaaGreatDoor
open Go Go.RowKit Vm
namespace Hlt
theorem sel_snoc (b : Bool) (a : Got) : ∀ (l : List Got) (i : Nat), sel b i (l ++ [a]) = sel b i l ++ (if a.sound = b then [(i + l.length, a)] else [])
 | [], i => by simp [sel]
 | x :: l, i => by
   have ih := sel_snoc b a l (i + 1)
   rw [List.cons_append, sel, sel, ih, List.length_cons]
   split
   ·rw [List.cons_append, show i + 1 + l.length = i + (l.length + 1) by omega]
   ·rw [show i + 1 + l.length = i + (l.length + 1) by omega]
theorem sel_map (b : Bool) (g : Nat → Got) : ∀ n, sel b 0 ((List.range n).map g) = ((List.range n).filter fun i => (g i).sound == b).map fun i => (i, g i)
 | 0 => rfl
 | n + 1 => by
   rw [List.range_succ, List.map_append, List.filter_append, List.map_append, List.map_cons, List.map_nil, sel_snoc, sel_map b g n]
   congr 1
   by_cases h : (g n).sound = b
   ·simp [h]
   ·simp [h]
section
variable {p : PW} {k n : Nat} {d s : ByteArray}
noncomputable def snd (p : PW) (k n : Nat) (d : ByteArray) (i : Nat) : Bool := (gotAt p k n d i).sound
theorem cntS_eq : cntS p k n d = ((List.range n).filter (snd p k n d)).length := by
 unfold cntS
 rw [look_map, sel_map, List.length_map]
 congr 2
 funext i
 unfold snd
 simp
theorem filter_or {α : Type} (A C : α → Bool) : ∀ l : List α, (l.filter fun x => A x || C x).length = (l.filter A).length + (l.filter fun x => !A x && C x).length
 | [] => rfl
 | x :: l => by
   have ih := filter_or A C l
   simp only [List.filter_cons]
   cases A x <;> cases C x <;> simp [ih] <;> omega
theorem filter_all {α : Type} (A : α → Bool) (l : List α) : (l.filter A).length = l.length ↔ ∀ x ∈ l, A x = true := by
 exact List.length_filter_eq_length_iff
theorem cntS_all : cntS p k n d = n ↔ ∀ i, i < n → snd p k n d i = true := by
 rw [cntS_eq]
 have h := filter_all (snd p k n d) (List.range n)
 rw [List.length_range] at h
 rw [h]
 simp
theorem cntS_le : cntS p k n d ≤ n := by
 rw [cntS_eq]
 have := List.length_filter_le (snd p k n d) (List.range n)
 rwa [List.length_range] at this
theorem mend_few (h : Num k n d s) (h0 : cntS p k n d < k) : mendR p k n d = (0, 54, PW.adv p n) := by
 unfold mendR
 have hne : sel false 0 (lookL p d k n n) ≠ [] := fun he => by
  have hall : cntS p k n d = n := cntS_all.2 fun i hi => by
   cases hb : snd p k n d i
   ·have := mem_sel (p := p) (k := k) (n := n) (d := d) false hi hb
    rw [he] at this
    cases this
   ·rfl
  have := h.ks
  omega
 simp only [told_few h0, Bool.false_eq_true, if_false, if_neg hne]
theorem eOf_adv (x : Nat × Got) : eOf (PW.adv p n) k n d s x = eOf p k n d s x := by
 unfold eOf
 rw [(adv_st p n).2.1]
structure MendFull (p : PW) (k n : Nat) (d s : ByteArray) (m : Nat) (e : Int) (p' : PW) : Prop where
 calm : Calm p'
 num : p'.n = n
 same : ∀ i, i < n → snd p k n d i = true → p'.st i = p.st i
 put : ∀ i, i < n → snd p k n d i = false → p'.st i = if (gotAt p k n d i).there then wS (p.st i) (nmB d i) (dB k n d s i) else p.st i
 m_ : m = ((List.range n).filter fun i => !snd p k n d i && decide (eOf p k n d s (i, gotAt p k n d i) = 0)).length
 e_ : e = 0 ↔ ∀ i, i < n → snd p k n d i = false → eOf p k n d s (i, gotAt p k n d i) = 0
 e3 : e = 0 ∨ e = 52 ∨ e = 53
theorem mend_full (h : Num k n d s) (hd : d = ⟨(Shd.sumL s.data.toList).toArray⟩) (hT : AllTurn k n) (hc : Calm p) (hn : p.n = n) (hk : Clean p k n d s) (h0 : k ≤ cntS p k n d) :
 MendFull p k n d s (mendR p k n d).1 (mendR p k n d).2.1 (mendR p k n d).2.2 := by
 have ht := told_clean h hd hT hc hn hk h0
 have hf := found_clean h hT hc hn hk h0
 have hr : mendR p k n d = ((mAll k n d (Cod.dataL s k (Cod.sizeZ k s.size)) (PW.adv p n) (sel false 0 (lookL p d k n n))).1, mEnd (mAll k n d (Cod.dataL s k (Cod.sizeZ k s.size)) (PW.adv p n) (sel false 0 (lookL p d k n n))).2.1, (mAll k n d (Cod.dataL s k (Cod.sizeZ k s.size)) (PW.adv p n) (sel false 0 (lookL p d k n n))).2.2) := by
  unfold mendR
  simp only [ht, if_true, hf, rowsF]
 have hlt : ∀ x ∈ sel false 0 (lookL p d k n n), x.1 < (PW.adv p n).n := fun x hx => by
  rw [(adv_st p n).1, hn]
  exact (sel_range false n x hx).1
 have hnd : ((sel false 0 (lookL p d k n n)).map (·.1)).Nodup := (sel_rise false _ 0).imp fun h => by omega
 obtain ⟨a1, a2, a3⟩ := mAll_plain (k := k) (n := n) (d := d) (s := s) (adv_calm hc n) _ hlt hnd
 obtain ⟨b1, b2, b3, b4⟩ := mAll_calm (k := k) (n := n) (d := d) (rows := Cod.dataL s k (Cod.sizeZ k s.size)) (adv_calm hc n) _ hlt
 rw [hr]
 have hst := (adv_st p n).2.1
 refine ⟨b1, b2.trans ((adv_st p n).1.trans hn), fun i hi hs => ?_, fun i hi hs => ?_, ?_, ?_, ?_⟩
 ·have hno : i ∉ (sel false 0 (lookL p d k n n)).map (·.1) := fun hm => by
   obtain ⟨y, hy, rfl⟩ := List.mem_map.1 hm
   obtain ⟨g1, g2, g3⟩ := sel_range false n y hy
   rw [g2] at g3
   unfold snd at hs
   rw [hs] at g3
   cases g3
  rw [b3 i hno, hst]
 ·have := a1 _ (mem_sel (p := p) (k := k) (n := n) (d := d) false hi hs)
  rw [hst] at this
  exact this
 ·show (mAll _ _ _ _ _ _).1 = _
  rw [a2, look_map, sel_map, List.filter_map, List.length_map, List.filter_filter]
  congr 2
  funext i
  simp only [Function.comp, eOf_adv, snd]
  cases (gotAt p k n d i).sound <;> simp [Bool.and_comm]
 ·show mEnd _ = 0 ↔ _
  have : ∀ e : Int, mEnd e = 0 ↔ e = 0 := fun e => by unfold mEnd; split <;> omega
  rw [this, a3]
  constructor
  ·intro hx i hi hs
   have := hx _ (mem_sel (p := p) (k := k) (n := n) (d := d) false hi hs)
   rwa [eOf_adv] at this
  ·intro hx x hm
   obtain ⟨g1, g2, g3⟩ := sel_range false n x hm
   rw [eOf_adv]
   have := hx x.1 g1 (by unfold snd; rw [← g2]; exact g3)
   rwa [← g2] at this
 ·show mEnd _ = 0 ∨ mEnd _ = 52 ∨ mEnd _ = 53
  unfold mEnd
  split <;> omega
theorem getO_same {a b : PSt} (h1 : a.seen = b.seen) (h2 : a.down = b.down) (x : ByteArray) : getO a x = getO b x := by unfold getO; rw [h1, h2]
variable {m : Nat} {e : Int} {p' : PW}
theorem MendFull.got (hm : MendFull p k n d s m e p') (h : Num k n d s) (hc : Calm p) (hn : p.n = n) {i : Nat} (hi : i < n) : snd p' k n d i = (snd p k n d i || decide (eOf p k n d s (i, gotAt p k n d i) = 0)) ∧ (snd p k n d i = true → gotAt p' k n d i = gotAt p k n d i) := by
 have h1 := gotAt_st (k := k) (n := n) (d := d) hc (i := i) (by omega)
 have h2 := gotAt_st (k := k) (n := n) (d := d) hm.calm (i := i) (by rw [hm.num]; exact hi)
 cases hs : snd p k n d i
 ·have hp := hm.put i hi hs
  refine ⟨?_, fun h => by cases h⟩
  rw [Bool.false_or]
  unfold snd
  unfold eOf
  cases ht : (gotAt p k n d i).there
  ·rw [ht] at hp
   simp only [Bool.false_eq_true, if_false] at hp ⊢
   rw [h2, hp, ← h1]
   exact hs.trans (by simp)
  ·rw [ht] at hp
   simp only [if_true] at hp ⊢
   by_cases h0 : wE (p.st i) (nmB d i) (dB k n d s i) = 0
   ·obtain ⟨g1, g2, g3, g4⟩ := wS_yes h0
    rw [h2, hp]
    have : getO (wS (p.st i) (nmB d i) (dB k n d s i)) (nmB d i) = (dB k n d s i, 0) := by
     unfold getO
     rw [g3, g1, TMap.look_put]
     simp
    rw [this, got_dat h hi]
    simp [sgot, h0]
   ·obtain ⟨g1, g2, g3, g4⟩ := wS_no h0
    rw [h2, hp, getO_same g1 g4, ← h1]
    simp only [h0, decide_false]
    exact hs
 ·rw [Bool.true_or]
  have hp := hm.same i hi hs
  have : gotAt p' k n d i = gotAt p k n d i := by rw [h2, hp, ← h1]
  exact ⟨by unfold snd at hs ⊢; rw [this]; exact hs, fun _ => this⟩
theorem MendFull.cnt (hm : MendFull p k n d s m e p') (h : Num k n d s) (hc : Calm p) (hn : p.n = n) : cntS p' k n d = cntS p k n d + m := by
 rw [cntS_eq, cntS_eq, hm.m_, ← filter_or]
 congr 1
 refine List.filter_congr fun i hi => ?_
 exact (hm.got h hc hn (List.mem_range.1 hi)).1
end
theorem count_any {w : World} {A : Nat} {l : List Bool} (hl : l.length ≤ 1000) (hB : Blk w A 4 (l.map Value.bool).toArray) :
 Calls Tryz.prog 24 #[.slice (some ⟨A, 0, none⟩) l.length l.length] w fun e w' => e = .returned (.int .i64 ((l.filter id).length : Nat)) ∧ w = w' := by
 have HB := Lib.hid hB
 clear hB
 go_enter Tryz.func24, Tryz.ntmps24
 go_wp2
 go_loopw [3, 4] (fun c i wr => ∃ q : Nat, q ≤ l.length ∧ i = .int .i64 (q : Int) ∧ c = .int .i64 (((l.take q).filter id).length : Nat) ∧ wr = w) (fun _ i _ => l.length - (intOf i).toNat)
 case atStart => exact ⟨0, Nat.zero_le _, rfl, rfl, rfl⟩
 case round =>
  obtain ⟨q, hq, rfl, rfl, rfl⟩ := hrel
  by_cases hlt : q < l.length
  ·have hlt2 : (q : Int) < (l.length : Int) := by omega
   have hc := HB.out.cell q
   have hqv : (l.map Value.bool).toArray[q]? = some (.bool l[q]) := by simp [hlt]
   rw [hqv] at hc
   have htk : (l.take (q + 1)).filter id = (l.take q).filter id ++ (if l[q] then [true] else []) := by
    rw [List.take_succ_eq_append_getElem hlt, List.filter_append]
    congr 1
    cases l[q] <;> rfl
   have hle : ((l.take q).filter id).length ≤ 1000 := Nat.le_trans (List.length_filter_le _ _) (by rw [List.length_take]; omega)
   have HTK := Lib.hid htk
   clear htk hqv
   cases hb : l[q]
   ·rw [hb] at hc
    go_wp2_with fail
    go_roundw
    case rel => exact ⟨q + 1, by omega, by go_num, by rw [HTK.out, hb]; simp, by trivial⟩
    case measure => simp [intOf]; omega
   ·rw [hb] at hc
    go_wp2_with fail
    go_roundw
    case rel => exact ⟨q + 1, by omega, by go_num, by rw [HTK.out, hb]; simp, by trivial⟩
    case measure => simp [intOf]; omega
  ·obtain rfl : q = l.length := by omega
   have d1 : ¬ ((l.length : Int) < (l.length : Int)) := by omega
   rw [List.take_length]
   go_wp2_with fail
   go_ret
   exact ⟨rfl, rfl⟩
end Hlt
end Go.Proofs.YtnbkhdbligjifaaGreatDoor
namespace Go.Proofs.YtnbkhdbligjifaaGreatDoor
open Go Go.RowKit Vm
namespace Hlt
section
variable {p : PW} {k n : Nat} {d : ByteArray}
theorem mStep_st {rows : List (List Nat)} {t : Nat × Int × PW} (hc : Calm t.2.2) {x : Nat × Got} (hi : x.1 < t.2.2.n) : (mStep k n d rows t x).2.2.st x.1 = t.2.2.st x.1 ∨ ∃ y, (mStep k n d rows t x).2.2.st x.1 = wS (t.2.2.st x.1) (nmB d x.1) y := by
 unfold mStep
 have hw := (writeR_st hc hi (nmB d x.1) (datP k n d x.1 (Cod.payL (Cod.matL k n) rows x.1))).2
 cases x.2.there
 ·simp only [Bool.false_eq_true, if_false]
  left
  split <;> rfl
 ·simp only [if_true]
  right
  refine ⟨datP k n d x.1 (Cod.payL (Cod.matL k n) rows x.1), ?_⟩
  split
  ·show (writeR _ _ _ _).2.st x.1 = _
   rw [hw, upd_same]
  ·show (writeR _ _ _ _).2.st x.1 = _
   rw [hw, upd_same]
theorem mAll_any {rows : List (List Nat)} (hc : Calm p) (xs : List (Nat × Got)) (hlt : ∀ x ∈ xs, x.1 < p.n) (hnd : (xs.map (·.1)).Nodup) (i : Nat) :
 (mAll k n d rows p xs).2.2.st i = p.st i ∨ (i ∈ xs.map (·.1) ∧ ∃ y, (mAll k n d rows p xs).2.2.st i = wS (p.st i) (nmB d i) y) := by
 suffices H : ∀ (xs : List (Nat × Got)) (t : Nat × Int × PW), Calm t.2.2 → t.2.2.n = p.n → (∀ x ∈ xs, x.1 < p.n) → (xs.map (·.1)).Nodup → 
  (xs.foldl (mStep k n d rows) t).2.2.st i = t.2.2.st i ∨ (i ∈ xs.map (·.1) ∧ ∃ y, (xs.foldl (mStep k n d rows) t).2.2.st i = wS (t.2.2.st i) (nmB d i) y) from H xs (0, 0, p) hc rfl hlt hnd
 intro xs
 induction xs with
 | nil => exact fun t _ _ _ _ => .inl rfl
 | cons x xs ih =>
   intro t ht hn hlt hnd
   simp only [List.map_cons, List.nodup_cons] at hnd
   have hx' : x.1 < t.2.2.n := by rw [hn]; exact hlt x (by simp)
   obtain ⟨g1, g2, g3, g4⟩ := mStep_calm (k := k) (n := n) (d := d) (rows := rows) ht (x := x) hx'
   have h := ih (mStep k n d rows t x) g1 (g2.trans hn) (fun y hy => hlt y (by simp [hy])) hnd.2
   rw [List.foldl_cons]
   by_cases hi : i = x.1
   ·subst hi
    have h1 : (xs.foldl (mStep k n d rows) (mStep k n d rows t x)).2.2.st x.1 = (mStep k n d rows t x).2.2.st x.1 := h.resolve_right fun hh => hnd.1 hh.1
    rcases mStep_st (k := k) (n := n) (d := d) (rows := rows) ht hx' with h2 | ⟨y, h2⟩
    ·exact .inl (h1.trans h2)
    ·exact .inr ⟨by simp, y, h1.trans h2⟩
   ·rw [g3 i hi] at h
    rcases h with h | ⟨h1, y, h2⟩
    ·exact .inl h
    ·exact .inr ⟨by simp [h1], y, h2⟩
theorem mEnd_ne (e : Int) : mEnd e ≠ 1 ∧ mEnd e ≠ 56 := by unfold mEnd; split <;> omega
theorem mend_st (hc : Calm p) (hn : p.n = n) : Calm (mendR p k n d).2.2 ∧ (mendR p k n d).2.2.n = n ∧ (∀ i, i < n → (mendR p k n d).2.2.st i = p.st i ∨ (snd p k n d i = false ∧ ∃ y, (mendR p k n d).2.2.st i = wS (p.st i) (nmB d i) y)) ∧ ((mendR p k n d).2.1 ≠ 1 ∧ (mendR p k n d).2.1 ≠ 56) := by
 have ha := adv_calm hc n
 have hs := (adv_st p n).2.1
 have hnn := (adv_st p n).1.trans hn
 unfold mendR
 simp only
 split
 ·have hlt : ∀ x ∈ sel false 0 (lookL p d k n n), x.1 < (PW.adv p n).n := fun x hx => by
   rw [hnn]
   exact (sel_range false n x hx).1
  have hnd : ((sel false 0 (lookL p d k n n)).map (·.1)).Nodup := (sel_rise false _ 0).imp fun h => by omega
  obtain ⟨b1, b2, b3, b4⟩ := mAll_calm (k := k) (n := n) (d := d) (rows := rowsF (Cod.foundF k n (haveL (lookL p d k n n) k) (paysOf (lookL p d k n n) k))) ha _ hlt
  refine ⟨b1, b2.trans hnn, fun i hi => ?_, (mEnd_ne _).1, (mEnd_ne _).2⟩
  have := mAll_any (k := k) (n := n) (d := d) (rows := rowsF (Cod.foundF k n (haveL (lookL p d k n n) k) (paysOf (lookL p d k n n) k))) ha _ hlt hnd i
  rw [hs] at this
  rcases this with h | ⟨h1, y, h2⟩
  ·exact .inl h
  ·refine .inr ⟨?_, y, h2⟩
   obtain ⟨z, hz, rfl⟩ := List.mem_map.1 h1
   obtain ⟨q1, q2, q3⟩ := sel_range false n z hz
   unfold snd
   rw [← q2]; exact q3
 ·split
  ·exact ⟨ha, hnn, fun i _ => .inl (by rw [hs]), by simp, by simp⟩
  ·exact ⟨ha, hnn, fun i _ => .inl (by rw [hs]), by simp, by simp⟩
theorem wS_fits {L : Nat} {st : PSt} (h : Fits L st) (x y : ByteArray) : Fits (L + 1) (wS st x y) := by
 have hroom : (wS st x y).room = st.room := by
  have hr := (refS_same st).2.2.2.2
  unfold wS putS syncS
  repeat' split
  all_goals first | rfl | exact hr
 by_cases h0 : wE st x y = 0
 ·obtain ⟨g1, g2, g3, g4⟩ := wS_yes h0
  have hsz : x.size ≤ 80 ∧ y.size ≤ 65536 := by
   unfold wE at h0
   by_cases hp : putE st x y = 0
   ·unfold putE at hp
    split at hp
    ·omega
    ·omega
   ·rw [if_pos hp] at h0; exact absurd h0 hp
  refine ⟨?_, fun q hq => ?_, g2.wr, by rw [hroom]; exact h.room⟩
  ·rw [g1]; exact Nat.le_trans (put_len _ _ _) (by have := h.len; omega)
  ·rw [g1] at hq
   rcases put_mem hq with rfl | hq
   ·exact hsz
   ·exact h.key q hq
 ·obtain ⟨g1, g2, g3, g4⟩ := wS_no h0
  exact ⟨by rw [g1]; have := h.len; omega, fun q hq => by rw [g1] at hq; exact h.key q hq, by rw [g3]; exact h.wr, by rw [hroom]; exact h.room⟩
theorem fits_up {L : Nat} {st : PSt} (h : Fits L st) : Fits (L + 1) st := ⟨by have := h.len; omega, h.key, h.wr, h.room⟩
theorem mAll_far {rows : List (List Nat)} (hc : Calm p) (xs : List (Nat × Got)) (hlt : ∀ x ∈ xs, x.1 < p.n) : ∀ i, p.n ≤ i → (mAll k n d rows p xs).2.2.st i = p.st i := fun i hi =>
 (mAll_calm (k := k) (n := n) (d := d) (rows := rows) hc xs hlt).2.2.1 i fun hm => by
  obtain ⟨z, hz, rfl⟩ := List.mem_map.1 hm
  have := hlt z hz
  omega
theorem mend_fit {L : Nat} (h : WFit L n p) : WFit (L + 1) n (mendR p k n d).2.2 := by
 obtain ⟨h1, h2, h3, _⟩ := mend_st (k := k) (d := d) h.calm h.n_
 refine ⟨h2, fun i => ?_, h1⟩
 by_cases hi : i < n
 ·rcases h3 i hi with h4 | ⟨_, y, h4⟩
  ·rw [h4]; exact fits_up (h.fits i)
  ·rw [h4]; exact wS_fits (h.fits i) _ _
 ·have : (mendR p k n d).2.2.st i = p.st i := by
   unfold mendR
   simp only
   split
   ·rw [mAll_far (adv_calm h.calm n) _ (fun x hx => by rw [(adv_st p n).1, h.n_]; exact (sel_range false n x hx).1) i (by rw [(adv_st p n).1, h.n_]; omega)]
    rw [(adv_st p n).2.1]
   ·split <;> exact congrFun (adv_st p n).2.1 i
  rw [this]; exact fits_up (h.fits i)
/-! ### objects that differ -/
theorem mem_objs {m : TMap} {o : POb} : o ∈ ((keysOf m).map fun k => ((⟨k.toArray⟩ : ByteArray), gotB m k)) ↔ TMap.look m o.1 = some o.2 := by
 rw [List.mem_map]
 constructor
 ·rintro ⟨key, hk, rfl⟩
  unfold keysOf at hk
  rw [List.mem_mergeSort, List.mem_map] at hk
  obtain ⟨q, hq, rfl⟩ := hk
  show TMap.look m ⟨q.1.data.toList.toArray⟩ = some (gotB m q.1.data.toList)
  unfold gotB
  have he : (⟨q.1.data.toList.toArray⟩ : ByteArray) = q.1 := by simp
  rw [he]
  cases hl : TMap.look m q.1 with
  | none =>
    exfalso
    clear he
    induction m with
    | nil => cases hq
    | cons r m ih =>
      obtain ⟨a, b⟩ := r
      unfold TMap.look at hl
      split at hl
      ·cases hl
      ·rcases List.mem_cons.1 hq with rfl | hq
       ·rename_i hne; exact hne rfl
       ·exact ih hq hl
  | some v => rfl
 ·intro h
  have hm := TMap.look_mem h
  refine ⟨o.1.data.toList, ?_, ?_⟩
  ·unfold keysOf
   rw [List.mem_mergeSort, List.mem_map]
   exact ⟨_, hm, rfl⟩
  ·have he : (⟨o.1.data.toList.toArray⟩ : ByteArray) = o.1 := by simp
   unfold gotB
   rw [he, h]
   rfl
theorem objsL_mem {i : Nat} (hi : i < p.n) {o : POb} : o ∈ objsL p i ↔ TMap.look (p.st i).seen o.1 = some o.2 := by
 unfold objsL PW.keys
 rw [if_pos (has_lt hi), Int.toNat_natCast]
 exact mem_objs
end
end Hlt
end Go.Proofs.YtnbkhdbligjifaaGreatDoor
