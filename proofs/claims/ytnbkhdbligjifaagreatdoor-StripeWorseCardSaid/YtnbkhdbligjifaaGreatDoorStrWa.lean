/-
  The law StripeWorse in plain words.
-/
import Derived.Test.YtnbkhdbligjifaaGreatDoorStrWx
set_option linter.unusedVariables false
set_option linter.unusedSimpArgs false
namespace Go.Proofs.YtnbkhdbligjifaaGreatDoor
open Go Go.RowKit Vm
open scoped Classical
namespace Str
open Hlt
set_option linter.unusedVariables false
/-! ### a part of a shard is none -/
theorem part_looks {nm : List UInt8} {dt y : ByteArray} {m : Nat} (hd : Shd.Looks Shd.sumL nm dt.data.toList) (hy : Shd.Looks Shd.sumL nm y.data.toList) (hp : y.data.toList = dt.data.toList.take m) : y = dt := by
  have h4 : y.data.toList.length = dt.data.toList.length := by
    obtain ⟨a1, a2, _, a4, _⟩ := hd
    obtain ⟨b1, b2, _, b4, _⟩ := hy
    have e7 : (y.data.toList.drop 4).take 7 = (dt.data.toList.drop 4).take 7 := by
      have hm : 75 ≤ m := by rw [hp, List.length_take] at b1; omega
      rw [hp, List.drop_take, List.take_take]
      congr 1
      omega
    rw [a4, b4] at e7
    have h1 : (Shd.readS y.data.toList).pay.length = y.data.toList.length - 75 := by
      show ((y.data.toList.drop 43).take (y.data.toList.length - 75)).length = _
      rw [List.length_take, List.length_drop]; omega
    have h2 : (Shd.readS dt.data.toList).pay.length = dt.data.toList.length - 75 := by
      show ((dt.data.toList.drop 43).take (dt.data.toList.length - 75)).length = _
      rw [List.length_take, List.length_drop]; omega
    have h3 := Shd.binL_len_inj _ _ _ _ _ _ _ _ (by omega) (by omega) (by omega) (by omega) e7
    omega
  have h5 : y.data.toList = dt.data.toList := by
    rw [hp, List.length_take] at h4
    rw [hp]
    exact List.take_of_length_le (by omega)
  exact ByteArray.ext (Array.toList_inj.1 h5)
/-! ### a store while a write goes on -/
inductive StI (nm dt : ByteArray) (f : Bool) (st : PSt) : Prop
  | full (w : Well st) (s : st.seen = [(nm, dt)]) (g : st.good = [(nm, dt)]) (wr : st.writes = [])
  | none (hf : f = false) (w : Well st) (s : st.seen = []) (g : st.good = []) (wr : st.writes = [])
  | wait (hf : f = false) (w : Well st) (s : st.seen = [(nm, dt)]) (g : st.good = []) (wr : st.writes = [(nm, dt, false)])
section
variable {nm dt : ByteArray} {f : Bool} {st : PSt}
theorem StI.sync (h : StI nm dt f st) : StI nm dt f (syncS st) := by
  have hw : Well st := by cases h <;> assumption
  unfold syncS
  rw [if_neg (by rw [hw.down]; exact Bool.false_ne_true)]
  cases h with
  | full w s g wr => exact .full ⟨w.down, w.refuse, w.room⟩ s s rfl
  | none hf w s g wr => exact .none hf ⟨w.down, w.refuse, w.room⟩ s s rfl
  | wait hf w s g wr => exact .full ⟨w.down, w.refuse, w.room⟩ s s rfl
theorem StI.put (hf : f = false) (w : Well st) (s : st.seen = []) (g : st.good = []) (wr : st.writes = []) (h0 : nm.size ≠ 0) (hN : nm.size ≤ 80) (hD : dt.size ≤ 65536) : StI nm dt f (putS st nm dt) := by
  obtain ⟨good, seen, writes, down, refuse, room⟩ := st
  obtain ⟨rfl, rfl, rfl⟩ := w
  simp only at s g wr
  subst s g wr
  have hc : ¬ (nm.size = 0 ∨ 80 < nm.size ∨ 65536 < dt.size) := by omega
  unfold putS
  rw [if_neg hc, if_neg Bool.false_ne_true, if_neg (by simp [fullB]), if_neg (by simp [refB])]
  exact .wait hf ⟨rfl, rfl, rfl⟩ (by simp [TMap.put]) (by simp [refS]) (by simp)
/-- behind a crash -/
theorem StI.crash (h : StI nm dt f st) (ks : List Int) : (crashS st ks).down = false ∧ ((crashS st ks).seen = [(nm, dt)] ∨ (f = false ∧ ((crashS st ks).seen = [] ∨ ∃ m, (crashS st ks).seen = [(nm, dt.extract 0 m)]))) := by
  cases h with
  | full w s g wr => rw [crash_same ⟨wr, by rw [g, s]⟩]; exact ⟨w.down, .inl s⟩
  | none hf w s g wr => rw [crash_same ⟨wr, by rw [g, s]⟩]; exact ⟨w.down, .inr ⟨hf, .inl s⟩⟩
  | wait hf w s g wr =>
    refine ⟨w.down, .inr ⟨hf, ?_⟩⟩
    show crashK st.good st.writes ks st.writes.length = [] ∨ ∃ m, crashK st.good st.writes ks st.writes.length = [(nm, dt.extract 0 m)]
    rw [g, wr]
    show crashK [] [(nm, dt, false)] ks 1 = [] ∨ _
    rw [show ([(nm, dt, false)] : List (ByteArray × ByteArray × Bool)).length = 1 from rfl]
    cases hk : ks[0]? with
    | none => left; simp [crashK, hk]
    | some c =>
      by_cases hc : c < 0
      · left; simp [crashK, hk, hc]
      · right; exact ⟨(min c (dt.size : Int)).toNat, by simp [crashK, hk, hc, TMap.put]⟩
end
/-! ### all stores -/
structure Wo (k n : Nat) (d s : ByteArray) (full : Nat → Bool) (p : PW) : Prop where
  n_ : p.n = n
  st : ∀ i, i < n → StI (nmB d i) (dtB k n d s i) (full i) (p.st i)
section
variable {k n : Nat} {d s : ByteArray} {full : Nat → Bool} {p : PW} {l : List POb}
theorem callP_st (p : PW) (i : Int) (s' : PSt) : (callP p i s').n = p.n ∧ ((callP p i s').st = p.st ∨ (callP p i s').st = upd p.st i.toNat s') := by
  unfold callP
  split
  · split
    · exact ⟨rfl, .inl rfl⟩
    · exact ⟨rfl, .inr rfl⟩
  · exact ⟨rfl, .inl rfl⟩
theorem getP_st2 (p : PW) (i : Int) : (getP p i).n = p.n ∧ (getP p i).st = p.st := by
  unfold getP
  split <;> exact ⟨rfl, rfl⟩
theorem askN_st2 (l : List POb) (p : PW) : ∀ q, (askN l p q).p.n = p.n ∧ (askN l p q).p.st = p.st
  | 0 => ⟨rfl, rfl⟩
  | q + 1 => by
    obtain ⟨h1, h2⟩ := askN_st2 l p q
    have hg : ∀ i : Int, (getP (askN l p q).p i).n = p.n ∧ (getP (askN l p q).p i).st = p.st := fun i => ⟨(getP_st2 _ i).1.trans h1, (getP_st2 _ i).2.trans h2⟩
    rw [askN]
    unfold askStep
    split
    · exact ⟨h1, h2⟩
    split
    · exact hg _
    split
    · exact hg _
    split
    · exact hg _
    · exact hg _
/-- what is to be put is not held -/
theorem askN_todo (l : List POb) (p : PW) : ∀ q, (∀ x ∈ (askN l p q).todo, ¬ ((p.st x).down = false ∧ TMap.look (p.st x).seen (obAt l x).1 = some (obAt l x).2)) ∧ (askN l p q).todo.Nodup
  | 0 => ⟨by simp [askN], by simp [askN]⟩
  | q + 1 => by
    obtain ⟨h1, h2⟩ := askN_todo l p q
    obtain ⟨hn, hs⟩ := askN_st2 l p q
    have hlt := (askN_lt l p q).1
    rw [askN]
    generalize askN l p q = a at *
    unfold askStep
    split
    · exact ⟨h1, h2⟩
    split
    · exact ⟨by simp, by simp⟩
    rename_i hcut
    split
    · exact ⟨h1, h2⟩
    rename_i hheld
    split
    · rename_i hto
      refine ⟨fun x hx => ?_, ?_⟩
      · rcases List.mem_append.1 hx with hx | hx
        · exact h1 x hx
        · simp only [List.mem_singleton] at hx
          subst hx
          rintro ⟨hd, hl⟩
          unfold wgetO at hcut hheld hto
          by_cases hh : a.p.has (x : Int) = true
          · rw [if_pos hh] at hcut hheld hto
            by_cases hst : a.p.stepd = true
            · rw [if_pos hst] at hcut; exact hcut rfl
            · rw [if_neg hst] at hheld
              rw [Int.toNat_natCast, hs] at hheld
              refine hheld ?_
              have : getO (p.st x) (l.getD x (⟨#[]⟩, ⟨#[]⟩)).1 = ((obAt l x).2, 0) := by
                unfold getO
                rw [hd, if_neg Bool.false_ne_true]
                have hl2 : TMap.look (p.st x).seen (l.getD x (⟨#[]⟩, ⟨#[]⟩)).1 = some (obAt l x).2 := hl
                rw [hl2]
              rw [this]
              exact ⟨rfl, rfl⟩
          · rw [if_neg hh] at hto
            rcases hto with h | h <;> simp at h
      · refine List.nodup_append.2 ⟨h2, by simp, fun x hx y hy he => ?_⟩
        simp only [List.mem_singleton] at hy
        have := hlt x (List.mem_append_right _ hx)
        omega
    · exact ⟨h1, h2⟩
theorem Wo.same {p' : PW} (h : Wo k n d s full p) (hn : p'.n = p.n) (hs : p'.st = p.st) : Wo k n d s full p' := ⟨hn.trans h.n_, fun i hi => by rw [hs]; exact h.st i hi⟩
theorem Wo.callP (h : Wo k n d s full p) {i : Nat} {s' : PSt} (hs : i < n → StI (nmB d i) (dtB k n d s i) (full i) s') : Wo k n d s full (callP p i s') := by
  obtain ⟨h1, h2⟩ := callP_st p i s'
  rcases h2 with h2 | h2
  · exact h.same h1 h2
  · refine ⟨h1.trans h.n_, fun j hj => ?_⟩
    rw [h2, Int.toNat_natCast]
    by_cases he : j = i
    · subst he; rw [upd_same]; exact hs hj
    · rw [upd_ne _ _ he]; exact h.st j hj
theorem syn_wo : ∀ (ts : List Nat) (m : Nat) (p : PW), Wo k n d s full p → Wo k n d s full (synN ts m p).2.2
  | [], m, p, h => h
  | i :: r, m, p, h => by
    have h1 : Wo k n d s full (synP1 p i) := h.callP fun hi => (h.st i hi).sync
    unfold synN
    split
    · exact syn_wo r _ _ h1
    split
    · exact h1
    · exact syn_wo r _ _ h1
theorem put_wo (hN : Num k n d s) : ∀ (ts hd : List Nat) (p : PW), Wo k n d s full p → ts.Nodup → (∀ i ∈ ts, i < n ∧ full i = false ∧ (p.st i).seen = [] ∧ (p.st i).good = [] ∧ (p.st i).writes = []) →
    Wo k n d s full (putN (objsOf k n d s n) ts hd p).2.2
  | [], hd, p, h, _, _ => h
  | i :: r, hd, p, h, hnd, hp => by
    obtain ⟨hi, hf, a1, a2, a3⟩ := hp i (by simp)
    have hks := hN.ks
    have hw : Well (p.st i) := by have := h.st i hi; cases this <;> assumption
    have a := nmB_size d hN.dig i (by omega)
    have hdz : (dtB k n d s i).size ≤ 65536 := datB_size (by omega) (by omega) (by rw [← hN.dig]; simp) hN.len
    have hob : obAt (objsOf k n d s n) i = (nmB d i, dtB k n d s i) := obAt_objs hi
    have h1 : Wo k n d s full (putP1 (objsOf k n d s n) p i) := by
      refine h.callP fun _ => ?_
      rw [hob]
      exact StI.put hf hw a1 a2 a3 a.1 a.2 hdz
    obtain ⟨hni, hnr⟩ := List.nodup_cons.1 hnd
    have h2 : ∀ j ∈ r, j < n ∧ full j = false ∧ ((putP1 (objsOf k n d s n) p i).st j).seen = [] ∧ ((putP1 (objsOf k n d s n) p i).st j).good = [] ∧ ((putP1 (objsOf k n d s n) p i).st j).writes = [] := fun j hj => by
      have hne : j ≠ i := fun e => hni (e ▸ hj)
      have hst : (putP1 (objsOf k n d s n) p i).st j = p.st j := by
        unfold putP1
        rcases (callP_st p (i : Int) (putS (p.st i) (obAt (objsOf k n d s n) i).1 (obAt (objsOf k n d s n) i).2)).2 with e | e
        · rw [e]
        · rw [e, Int.toNat_natCast, upd_ne _ _ hne]
      rw [hst]
      exact hp j (by simp [hj])
    unfold putN
    split
    · exact put_wo hN r _ _ h1 hnr h2
    split
    · exact h1
    · exact put_wo hN r _ _ h1 hnr h2
/-- behind a write, wherever it is cut -/
theorem write_wo (hN : Num k n d s) (hd : d = dgB s) (h : Wo k n d s full p) (hw : ∀ i, i < n → (p.st i).writes = []) : Wo k n d s full (writeR p k n s).2 := by
  obtain ⟨h1, h2⟩ := askN_st2 (objsOf k n d s n) p (objsOf k n d s n).length
  obtain ⟨h3, h4⟩ := askN_todo (objsOf k n d s n) p (objsOf k n d s n).length
  have hlt := (askN_lt (objsOf k n d s n) p (objsOf k n d s n).length).1
  have hA : Wo k n d s full (askN (objsOf k n d s n) p (objsOf k n d s n).length).p := h.same h1 h2
  have hP : Wo k n d s full (putN (objsOf k n d s n) (askN (objsOf k n d s n) p (objsOf k n d s n).length).todo (askN (objsOf k n d s n) p (objsOf k n d s n).length).held (askN (objsOf k n d s n) p (objsOf k n d s n).length).p).2.2 := by
    refine put_wo hN _ _ _ hA h4 fun i hi => ?_
    have hin : i < n := by have := hlt i (List.mem_append_right _ hi); rwa [objsOf_len] at this
    have hno := h3 i hi
    rw [obAt_objs hin] at hno
    rw [h2]
    cases h.st i hin with
    | full w s g wr => exact absurd ⟨w.down, by rw [s]; show (if nmB d i = nmB d i then _ else _) = _; rw [if_pos rfl]; rfl⟩ hno
    | none hf w s g wr => exact ⟨hin, hf, s, g, wr⟩
    | wait hf w s g wr => rw [hw i hin] at wr; cases wr
  unfold writeR spreadR
  rw [← hd]
  split
  · exact hA
  split
  · exact hA
  split
  · exact hP
  split
  · exact hP
  split
  · exact syn_wo _ _ _ hP
  split
  · exact syn_wo _ _ _ hP
  · exact syn_wo _ _ _ hP
/-! ### behind the crash -/
theorem Wo.only (hN : Num k n d s) (h : Wo k n d s full p) (ls : List (List Int)) : Only k n d s (p.crashed ls) := fun i hi y hy hl => by
  obtain ⟨h1, h2⟩ := (h.st i hi).crash (ls.getD i [])
  have hs : ((p.crashed ls).st i).seen = (crashS (p.st i) (ls.getD i [])).seen := rfl
  rw [hs] at hy
  rcases h2 with h2 | ⟨_, h2 | ⟨m, h2⟩⟩
  · rw [h2] at hy
    simp only [TMap.look, if_true, Option.some.injEq] at hy
    exact hy.symm
  · rw [h2] at hy; cases hy
  · rw [h2] at hy
    simp only [TMap.look, if_true, Option.some.injEq] at hy
    refine part_looks (own_looks hN hi).1 hl (m := m) ?_
    rw [← hy]
    simp [ByteArray.data_extract]
theorem Wo.bnd (hN : Num k n d s) (h : Wo k n d s full p) (ls : List (List Int)) {i : Nat} (hi : i < n) (nm : ByteArray) : (getO ((p.crashed ls).st i) nm).1.size ≤ 65536 := by
  have hks := hN.ks
  obtain ⟨h1, h2⟩ := (h.st i hi).crash (ls.getD i [])
  have hs : ((p.crashed ls).st i).seen = (crashS (p.st i) (ls.getD i [])).seen := rfl
  have hdz : (dtB k n d s i).size ≤ 65536 := datB_size (by omega) (by omega) (by rw [← hN.dig]; simp) hN.len
  unfold getO
  split
  · exact Nat.zero_le _
  · split
    · rename_i y hy
      rw [hs] at hy
      rcases h2 with h2 | ⟨_, h2 | ⟨m, h2⟩⟩
      · rw [h2] at hy
        unfold TMap.look at hy
        split at hy
        · cases hy; exact hdz
        · cases hy
      · rw [h2] at hy; cases hy
      · rw [h2] at hy
        unfold TMap.look at hy
        split at hy
        · cases hy
          refine Nat.le_trans ?_ hdz
          simp [ByteArray.size_extract]
          omega
        · cases hy
    · exact Nat.zero_le _
theorem Wo.crash_ok (hN : Num k n d s) (h : Wo k n d s full p) {ls : List (List Int)} (hl : ∀ ks ∈ ls, ks.length ≤ 9223372036854775807 ∧ ∀ x ∈ ks, -9223372036854775808 ≤ x ∧ x ≤ 9223372036854775807) {i : Nat} (hi : i < n) : CrashOk (p.st i) (ls.getD i []) := by
  have hks2 := hN.ks
  have hdz : (dtB k n d s i).size ≤ 65536 := datB_size (by omega) (by omega) (by rw [← hN.dig]; simp) hN.len
  have hks : (ls.getD i []).length ≤ 9223372036854775807 ∧ ∀ x ∈ ls.getD i [], -9223372036854775808 ≤ x ∧ x ≤ 9223372036854775807 := by
    by_cases hi : i < ls.length
    · rw [List.getD, List.getElem?_eq_getElem hi, Option.getD_some]
      exact hl _ (List.getElem_mem hi)
    · rw [List.getD, List.getElem?_eq_none (by omega), Option.getD_none]
      simp
  cases h.st i hi with
  | full w s g wr => exact ⟨by rw [wr]; simp, hks.1, hks.2, fun q hq => by rw [wr] at hq; cases hq⟩
  | none hf w s g wr => exact ⟨by rw [wr]; simp, hks.1, hks.2, fun q hq => by rw [wr] at hq; cases hq⟩
  | wait hf w s g wr => exact ⟨by rw [wr]; simp, hks.1, hks.2, fun q hq => by
      rw [wr] at hq
      simp only [List.mem_singleton] at hq
      subst hq
      show (dtB k n d _ i).size ≤ 1000000
      omega⟩
/-- what is read: so many are sound as were full -/
theorem Wo.read (hN : Num k n d s) (hd : d = dgB s) (h : Wo k n d s full p) (ls : List (List Int)) : ∃ c : Nat, (List.range n).countP full ≤ c ∧ readR (p.crashed ls) d k n = if k ≤ c then (s, 0) else (⟨#[]⟩, 54) := by
  have ho := h.only hN ls
  have hc : Hlt.Calm (p.crashed ls) := ⟨rfl, rfl⟩
  refine ⟨cntN (p.crashed ls) d k n, ?_, read_calm hN hd hc h.n_ ho⟩
  unfold cntN hvL
  rw [← List.countP_eq_length_filter]
  refine List.countP_mono_left fun i hi hf => ?_
  have hi := List.mem_range.1 hi
  obtain ⟨h1, h2⟩ := (h.st i hi).crash (ls.getD i [])
  refine (got_iff hN hc h.n_ ho k hi).2 ⟨rfl, h1, ?_⟩
  rcases h2 with h2 | ⟨hff, _⟩
  · show TMap.look (crashS (p.st i) (ls.getD i [])).seen _ = _
    rw [h2]
    simp [TMap.look]
  · rw [hff] at hf; cases hf
/-! ### stores that lose what they have -/
structure Lost (k n : Nat) (d s : ByteArray) (lose : List Bool) (q : Nat) (p : PW) : Prop where
  n_ : p.n = n
  calm : Hlt.Calm p
  bnd : ∀ i, Bnd 1 0 (p.st i)
  st : ∀ i, i < n → Well (p.st i) ∧ Sync (p.st i) ∧ (p.st i).seen = if lose.getD i false = true ∧ i < q then [] else [(nmB d i, dtB k n d s i)]
theorem struck_wipe (p : PW) {i : Nat} (hi : i < p.n) : p.strikeE (wipeF i) = 0 ∧ p.struck (wipeF i) = { p with st := upd p.st i { p.st i with seen := [], good := [], writes := [] }, sus := upd p.sus i true } := by
  have hh : p.has (wipeF i).store = true := has_lt hi
  have hok : (wipeF i).okB = true := by unfold Flt.okB wipeF; simp
  refine ⟨?_, ?_⟩
  · unfold PW.strikeE hitE
    rw [hh, hok]; rfl
  · unfold PW.struck hitE
    rw [hh, hok]
    simp only [if_true]
    rw [if_neg (by show ¬ (1 : Int) = 5; decide), if_neg (by show ¬ (1 : Int) = 7; decide)]
    unfold struckS hitS
    rw [hok]
    rfl
theorem Lost.start (hN : Num k n d s) (hd : d = dgB s) (lose : List Bool) : ∃ p1 : PW, writeR (newP n) k n s = (0, p1) ∧ Lost k n d s lose 0 p1 := by
  obtain ⟨h1, h2, h3, h4⟩ := written_well hN hd (newP_well n)
  refine ⟨_, Prod.ext h1 rfl, h2.n_, h2.calm, h2.bnd, fun i hi => ⟨h2.well i hi, h2.sync i hi, ?_⟩⟩
  rw [if_neg (by omega), h3 i hi, show (newP n).st i = noStore from rfl]
  generalize nmB d i = nm
  generalize dtB k n d s i = dt
  simp [wellS, noStore, TMap.look, TMap.put]
theorem Lost.wipe {lose : List Bool} {q : Nat} (h : Lost k n d s lose q p) (hq : q < n) (hl : lose.getD q false = true) : Lost k n d s lose (q + 1) (p.struck (wipeF q)) := by
  rw [(struck_wipe p (by rw [h.n_]; exact hq)).2]
  refine ⟨h.n_, ⟨h.calm.1, h.calm.2⟩, fun i => ?_, fun i hi => ?_⟩
  · show Bnd 1 0 (upd p.st q _ i)
    by_cases he : i = q
    · subst he; rw [upd_same]; exact wiped_bnd (h.bnd i)
    · rw [upd_ne _ _ he]; exact h.bnd i
  · show Well (upd p.st q _ i) ∧ Sync (upd p.st q _ i) ∧ (upd p.st q _ i).seen = _
    by_cases he : i = q
    · subst he
      rw [upd_same, if_pos ⟨hl, by omega⟩]
      obtain ⟨w, _, _⟩ := h.st i hi
      exact ⟨⟨w.down, w.refuse, w.room⟩, ⟨rfl, rfl⟩, rfl⟩
    · rw [upd_ne _ _ he]
      obtain ⟨w, y, z⟩ := h.st i hi
      refine ⟨w, y, z.trans ?_⟩
      by_cases hli : lose.getD i false = true
      · simp only [hli, true_and]
        by_cases hlt : i < q
        · rw [if_pos hlt, if_pos (by omega)]
        · rw [if_neg hlt, if_neg (by omega)]
      · rw [if_neg (fun e => hli e.1), if_neg (fun e => hli e.1)]
theorem Lost.keep {lose : List Bool} {q : Nat} (h : Lost k n d s lose q p) (hl : lose.getD q false = false) : Lost k n d s lose (q + 1) p := by
  refine ⟨h.n_, h.calm, h.bnd, fun i hi => ?_⟩
  obtain ⟨w, y, z⟩ := h.st i hi
  refine ⟨w, y, z.trans ?_⟩
  by_cases he : i = q
  · subst he
    rw [if_neg (by rw [hl]; simp), if_neg (by rw [hl]; simp)]
  · by_cases hli : lose.getD i false = true
    · simp only [hli, true_and]
      by_cases hlt : i < q
      · rw [if_pos hlt, if_pos (by omega)]
      · rw [if_neg hlt, if_neg (by omega)]
    · rw [if_neg (fun e => hli e.1), if_neg (fun e => hli e.1)]
/-- which are left -/
def leftB (lose : List Bool) (i : Nat) : Bool := !lose.getD i false
theorem Lost.wo {lose : List Bool} {q : Nat} (h : Lost k n d s lose q p) (hq : q = n ∨ lose.length ≤ q) (c : Int) : Wo k n d s (leftB lose) (p.cut c) ∧ (∀ i, i < n → ((p.cut c).st i).writes = []) ∧ (∀ i, Bnd 1 0 ((p.cut c).st i)) ∧ (p.cut c).n = n := by
  have e1 : (p.cut c).n = p.n := by unfold PW.cut; split <;> rfl
  have e2 : (p.cut c).st = p.st := by unfold PW.cut; split <;> rfl
  refine ⟨⟨e1.trans h.n_, fun i hi => ?_⟩, fun i hi => ?_, fun i => ?_, e1.trans h.n_⟩
  · rw [e2]
    obtain ⟨w, y, z⟩ := h.st i hi
    by_cases hl : lose.getD i false = true
    · have hiq : i < q := by
        rcases hq with hq | hq
        · omega
        · have : i < lose.length := by
            refine Nat.lt_of_not_le fun hle => ?_
            rw [List.getD, List.getElem?_eq_none hle] at hl
            cases hl
          omega
      rw [if_pos ⟨hl, hiq⟩] at z
      exact .none (by unfold leftB; rw [hl]; rfl) w z (y.good.trans z) y.wr
    · rw [if_neg fun e => hl e.1] at z
      exact .full w z (y.good.trans z) y.wr
  · rw [e2]; exact (h.st i hi).2.1.wr
  · rw [e2]; exact h.bnd i
/-- how many were lost -/
def goneN (lose : List Bool) (q : Nat) : Nat := (List.range q).countP fun i => lose.getD i false
theorem gone_yes {lose : List Bool} {q : Nat} (h : lose.getD q false = true) : goneN lose (q + 1) = goneN lose q + 1 := by
  unfold goneN
  rw [List.range_succ, List.countP_append, List.countP_singleton, if_pos h]
theorem gone_no {lose : List Bool} {q : Nat} (h : lose.getD q false = false) : goneN lose (q + 1) = goneN lose q := by
  unfold goneN
  rw [List.range_succ, List.countP_append, List.countP_singleton, if_neg (by rw [h]; exact Bool.false_ne_true)]
  rfl
theorem gone_le (lose : List Bool) (q : Nat) : goneN lose q ≤ q := by
  have := List.countP_le_length (p := fun i => lose.getD i false) (l := List.range q)
  rwa [List.length_range] at this
theorem gone_more {lose : List Bool} {q : Nat} (h : lose.length ≤ q) : ∀ m, goneN lose (q + m) = goneN lose q
  | 0 => rfl
  | m + 1 => by
    rw [show q + (m + 1) = q + m + 1 by omega, gone_no, gone_more h m]
    rw [List.getD, List.getElem?_eq_none (by omega), Option.getD_none]
theorem gone_left (lose : List Bool) {q n : Nat} (hq : q = n ∨ lose.length ≤ q) (hn : q ≤ n) : goneN lose q + (List.range n).countP (leftB lose) = n := by
  have h1 : goneN lose q = goneN lose n := by
    rcases hq with rfl | h
    · rfl
    · have := gone_more h (n - q)
      rw [show q + (n - q) = n by omega] at this
      exact this.symm
  rw [h1]
  have := List.length_eq_countP_add_countP (fun i => lose.getD i false) (l := List.range n)
  rw [List.length_range] at this
  have e : (List.range n).countP (leftB lose) = (List.range n).countP fun a => decide ¬ lose.getD a false = true := by
    refine List.countP_congr fun i _ => ?_
    unfold leftB
    cases lose.getD i false <;> simp
  rw [e]
  unfold goneN
  exact this.symm
end
end Str
end Go.Proofs.YtnbkhdbligjifaaGreatDoor
