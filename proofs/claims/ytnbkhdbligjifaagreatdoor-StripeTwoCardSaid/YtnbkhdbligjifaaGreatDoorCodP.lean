/-
 Write in a calm world, in plain words. The field of 256 numbers: its laws (sums, products). The code: what is decoded of the first rows is what was encoded (plain).
-/
import Derived.Test.YtnbkhdbligjifaaGreatDoorStrG
import Derived.Test.YtnbkhdbligjifaaGreatDoorCodC
import Derived.Test.YtnbkhdbligjifaaGreatDoorCodN
import Derived.Test.YtnbkhdbligjifaaGreatDoorStoH
set_option linter.unusedVariables false
set_option linter.unusedSimpArgs false
namespace Go.Proofs.YtnbkhdbligjifaaGreatDoor
open Go Go.RowKit Vm
namespace Str
open Hlt
def cadd (c : Int) : Nat → Int
 | 0 => c
 | m + 1 => wrap64 (cadd c m + 1)
theorem cadd_shift (c : Int) : ∀ m, cadd (wrap64 (c + 1)) m = cadd c (m + 1)
 | 0 => rfl
 | m + 1 => by rw [cadd, cadd_shift c m]; rfl
theorem cadd_add (c : Int) (a : Nat) : ∀ b, cadd (cadd c a) b = cadd c (a + b)
 | 0 => rfl
 | b + 1 => by rw [cadd, cadd_add c a b]; rfl
theorem adv_eq (p : PW) : ∀ m, PW.adv p m = { p with calls := cadd p.calls m }
 | 0 => rfl
 | m + 1 => by rw [PW.adv, adv_eq p m]; rfl
section
variable {p : PW} {l : List POb}
theorem has_lt {i : Nat} (hi : i < p.n) : p.has (i : Int) = true := by simp [PW.has]; omega
theorem wget_calm (hc : Hlt.Calm p) {i : Nat} (hi : i < p.n) (nm : ByteArray) : wgetO p i nm = getO (p.st i) nm := by
 unfold wgetO
 rw [has_lt hi, hc.stepd]
 rfl
def isH (l : List POb) (p : PW) (i : Nat) : Bool := decide ((p.st i).down = false ∧ TMap.look (p.st i).seen (obAt l i).1 = some (obAt l i).2)
def isT (l : List POb) (p : PW) (i : Nat) : Bool := decide ((p.st i).down = false ∧ ¬ TMap.look (p.st i).seen (obAt l i).1 = some (obAt l i).2)
theorem ask_calm (hc : Hlt.Calm p) (l : List POb) : ∀ q, q ≤ p.n → askN l p q = ⟨false, (List.range q).filter (isH l p), (List.range q).filter (isT l p), PW.adv p q⟩
 | 0, _ => rfl
 | q + 1, hq => by
   rw [askN, ask_calm hc l q (by omega)]
   unfold askStep
   have hw : wgetO (PW.adv p q) (q : Int) (l.getD q (⟨#[]⟩, ⟨#[]⟩)).1 = getO (p.st q) (obAt l q).1 := (wgetO_adv hc q _ _).trans (wget_calm hc (by omega) _)
   have hg : getP (PW.adv p q) (q : Int) = PW.adv p (q + 1) := getP_calm (adv_calm hc q) q (by rw [(adv_st p q).1]; omega)
   rw [if_neg Bool.false_ne_true]
   simp only [hw, hg]
   rw [List.range_succ, List.filter_append, List.filter_append]
   unfold getO
   have hHq : List.filter (isH l p) [q] = if isH l p q = true then [q] else [] := by simp [List.filter_cons]
   have hTq : List.filter (isT l p) [q] = if isT l p q = true then [q] else [] := by simp [List.filter_cons]
   rw [hHq, hTq]
   cases hd : (p.st q).down
   ·cases hl : TMap.look (p.st q).seen (obAt l q).1 with
    | none => simp [isH, isT, hd, hl]
    | some y =>
      by_cases hy : y = (obAt l q).2
      ·have hy2 : y = (l.getD q (⟨#[]⟩, ⟨#[]⟩)).2 := hy
       simp only [isH, isT, hd, hl, hy, Bool.false_eq_true, if_false]
       simp [obAt]
      ·have hy2 : ¬ y = (l.getD q (⟨#[]⟩, ⟨#[]⟩)).2 := hy
       simp only [isH, isT, hd, hl, Bool.false_eq_true, if_false]
       have hy3 : ¬ y = (l[q]?.getD (⟨#[]⟩, ⟨#[]⟩)).2 := by simpa [List.getD] using hy2
       simp [hy, hy3]
   ·simp [isH, isT, hd]
theorem put_calm (l : List POb) : ∀ (ts hd : List Nat) (p : PW), Hlt.Calm p → ts.Nodup → (∀ i ∈ ts, i < p.n ∧ putE (p.st i) (obAt l i).1 (obAt l i).2 = 0) →
 putN l ts hd p = (0, hd ++ ts, { p with calls := cadd p.calls ts.length, st := fun i => if i ∈ ts then putS (p.st i) (obAt l i).1 (obAt l i).2 else p.st i })
 | [], hd, p, _, _, _ => by simp [putN, cadd]
 | i :: r, hd, p, hc, hnd, hp => by
   obtain ⟨hi, he⟩ := hp i (by simp)
   obtain ⟨h1, h2⟩ := List.nodup_cons.1 hnd
   have hE : putE1 l p i = 0 := ((callP_calm hc hi (p.st i) _).2).trans he
   have hP : putP1 l p i = { p with calls := wrap64 (p.calls + 1), st := upd p.st i (putS (p.st i) (obAt l i).1 (obAt l i).2) } := (callP_calm hc hi (putS (p.st i) (obAt l i).1 (obAt l i).2) 0).1
   have hc1 : Hlt.Calm { p with calls := wrap64 (p.calls + 1), st := upd p.st i (putS (p.st i) (obAt l i).1 (obAt l i).2) } := ⟨hc.1, hc.2⟩
   rw [putN, if_pos hE, hP, put_calm l r (hd ++ [i]) _ hc1 h2 fun j hj => by
    obtain ⟨a, b⟩ := hp j (by simp [hj])
    have hji : j ≠ i := fun e => h1 (e ▸ hj)
    exact ⟨a, by show putE (upd p.st i _ j) _ _ = 0; rw [upd_ne _ _ hji]; exact b⟩]
   simp only [cadd_shift, List.append_assoc, List.singleton_append, List.length_cons]
   congr 3
   funext j
   by_cases hji : j = i
   ·subst hji
    simp [h1, upd_same]
   ·by_cases hjr : j ∈ r
    ·simp [hjr, upd_ne _ _ hji]
    ·simp [hjr, hji, upd_ne _ _ hji]
theorem syn_calm : ∀ (rs : List Nat) (m : Nat) (p : PW), Hlt.Calm p → rs.Nodup → (∀ i ∈ rs, i < p.n ∧ (p.st i).down = false) →
 synN rs m p = (0, m + rs.length, { p with calls := cadd p.calls rs.length, st := fun i => if i ∈ rs then (p.st i).settled else p.st i })
 | [], m, p, _, _, _ => by simp [synN, cadd]
 | i :: r, m, p, hc, hnd, hp => by
   obtain ⟨hi, he⟩ := hp i (by simp)
   obtain ⟨h1, h2⟩ := List.nodup_cons.1 hnd
   have hE : synE1 p i = 0 := ((callP_calm hc hi (p.st i) _).2).trans (by simp [syncV, he])
   have hP : synP1 p i = { p with calls := wrap64 (p.calls + 1), st := upd p.st i (p.st i).settled } := (callP_calm hc hi (syncS (p.st i)) 0).1.trans (by simp [syncS, he])
   have hc1 : Hlt.Calm { p with calls := wrap64 (p.calls + 1), st := upd p.st i (p.st i).settled } := ⟨hc.1, hc.2⟩
   rw [synN, if_pos hE, hP, syn_calm r (m + 1) _ hc1 h2 fun j hj => by
    obtain ⟨a, b⟩ := hp j (by simp [hj])
    have hji : j ≠ i := fun e => h1 (e ▸ hj)
    exact ⟨a, by show (upd p.st i _ j).down = false; rw [upd_ne _ _ hji]; exact b⟩]
   simp only [cadd_shift, List.length_cons]
   rw [show m + 1 + r.length = m + (r.length + 1) by omega]
   congr 3
   funext j
   by_cases hji : j = i
   ·subst hji
    simp [h1, upd_same]
   ·by_cases hjr : j ∈ r
    ·simp [hjr, upd_ne _ _ hji]
    ·simp [hjr, hji, upd_ne _ _ hji]
theorem putS_down (s : PSt) (n d : ByteArray) : (putS s n d).down = s.down := by
 have h : (refS s).down = s.down := by unfold refS; split <;> rfl
 unfold putS
 repeat' split
 all_goals first | rfl | exact h
def wroteS (l : List POb) (p : PW) (i : Nat) : PSt := if (p.st i).down = true then p.st i else if isH l p i = true then (p.st i).settled else (putS (p.st i) (obAt l i).1 (obAt l i).2).settled
def upN (p : PW) (n : Nat) : Nat := ((List.range n).filter fun i => !(p.st i).down).length
def newN (l : List POb) (p : PW) (n : Nat) : Nat := ((List.range n).filter (isT l p)).length
theorem ht_split (l : List POb) (p : PW) : ∀ q, ((List.range q).filter (isH l p)).length + ((List.range q).filter (isT l p)).length = upN p q
 | 0 => rfl
 | q + 1 => by
   have ih := ht_split l p q
   unfold upN at ih ⊢
   rw [List.range_succ, List.filter_append, List.filter_append, List.filter_append, List.length_append, List.length_append, List.length_append, ← ih]
   by_cases hd : (p.st q).down = false
   ·by_cases hl : TMap.look (p.st q).seen (obAt l q).1 = some (obAt l q).2
    ·simp [isH, isT, hd, hl]; omega
    ·simp [isH, isT, hd, hl]; omega
   ·simp [isH, isT, hd]
theorem spread_calm (hc : Hlt.Calm p) {n k : Nat} (hn : p.n = n) (hl : l.length = n) (hput : ∀ i, i < n → isT l p i = true → putE (p.st i) (obAt l i).1 (obAt l i).2 = 0) (hk : k ≤ upN p n) :
 spreadR l p k = (0, { p with calls := cadd p.calls (n + newN l p n + upN p n), st := fun i => if i < n then wroteS l p i else p.st i }) := by
 have ha := ask_calm hc l n (by omega)
 have hs := ht_split l p n
 have hc2 : Hlt.Calm (PW.adv p n) := adv_calm hc n
 have hpn : (PW.adv p n).n = n := (adv_st p n).1.trans hn
 have hst : (PW.adv p n).st = p.st := (adv_st p n).2.1
 have hmT : ∀ i, i ∈ (List.range n).filter (isT l p) ↔ i < n ∧ isT l p i = true := fun i => by simp [List.mem_filter]
 have hmH : ∀ i, i ∈ (List.range n).filter (isH l p) ↔ i < n ∧ isH l p i = true := fun i => by simp [List.mem_filter]
 have hndT : ((List.range n).filter (isT l p)).Nodup := List.nodup_range.filter _
 have hndH : ((List.range n).filter (isH l p)).Nodup := List.nodup_range.filter _
 have hp := put_calm l ((List.range n).filter (isT l p)) ((List.range n).filter (isH l p)) (PW.adv p n) hc2 hndT fun i hi => by
  obtain ⟨h1, h2⟩ := (hmT i).1 hi
  exact ⟨by omega, by rw [hst]; exact hput i h1 h2⟩
 have hdis : ∀ i, isH l p i = true → isT l p i = false := fun i h => by
  simp only [isH, decide_eq_true_eq] at h
  simp [isT, h.1, h.2]
 have hupH : ∀ i, isH l p i = true → (p.st i).down = false := fun i h => by simp only [isH, decide_eq_true_eq] at h; exact h.1
 have hupT : ∀ i, isT l p i = true → (p.st i).down = false := fun i h => by simp only [isT, decide_eq_true_eq] at h; exact h.1
 have hperm := rise_perm ((List.range n).filter (isH l p) ++ (List.range n).filter (isT l p))
 have hndA : ((List.range n).filter (isH l p) ++ (List.range n).filter (isT l p)).Nodup := by
  rw [List.nodup_append]
  refine ⟨hndH, hndT, fun a ha b hb e => ?_⟩
  subst e
  have := hdis a ((hmH a).1 ha).2
  rw [((hmT a).1 hb).2] at this
  cases this
 have hsy := syn_calm (rise ((List.range n).filter (isH l p) ++ (List.range n).filter (isT l p))) 0
  { PW.adv p n with calls := cadd (PW.adv p n).calls ((List.range n).filter (isT l p)).length, st := fun i => if i ∈ (List.range n).filter (isT l p) then putS ((PW.adv p n).st i) (obAt l i).1 (obAt l i).2 else (PW.adv p n).st i } ⟨hc2.1, hc2.2⟩ (hperm.nodup_iff.2 hndA) fun i hi => by
   have hm := hperm.mem_iff.1 hi
   rw [List.mem_append] at hm
   refine ⟨?_, ?_⟩
   ·show i < (PW.adv p n).n
    rcases hm with h | h
    ·have := ((hmH i).1 h).1; omega
    ·have := ((hmT i).1 h).1; omega
   ·show (if i ∈ (List.range n).filter (isT l p) then putS ((PW.adv p n).st i) (obAt l i).1 (obAt l i).2 else (PW.adv p n).st i).down = false
    rw [hst]
    split
    ·rw [putS_down]
     rcases hm with h | h
     ·exact hupH i ((hmH i).1 h).2
     ·exact hupT i ((hmT i).1 h).2
    ·rcases hm with h | h
     ·exact hupH i ((hmH i).1 h).2
     ·exact hupT i ((hmT i).1 h).2
 have hlen : ((List.range n).filter (isH l p) ++ (List.range n).filter (isT l p)).length = upN p n := by rw [List.length_append]; exact hs
 unfold spreadR
 rw [hl, ha]
 simp only
 rw [if_neg Bool.false_ne_true, if_neg (by omega), hp]
 simp only
 rw [if_neg (by simp), if_neg (by rw [hlen]; omega), hsy]
 simp only
 rw [if_neg (by simp), if_neg (by rw [rise_len, hlen]; omega)]
 congr 1
 rw [rise_len, hlen, adv_eq]
 simp only [cadd_add]
 congr 1
 funext i
 have hmr : i ∈ rise ((List.range n).filter (isH l p) ++ (List.range n).filter (isT l p)) ↔ i < n ∧ (p.st i).down = false := by
  rw [hperm.mem_iff, List.mem_append, hmH, hmT]
  constructor
  ·rintro (⟨h1, h2⟩ | ⟨h1, h2⟩)
   ·exact ⟨h1, hupH i h2⟩
   ·exact ⟨h1, hupT i h2⟩
  ·rintro ⟨h1, h2⟩
   by_cases h : TMap.look (p.st i).seen (obAt l i).1 = some (obAt l i).2
   ·exact .inl ⟨h1, by simp [isH, h2, h]⟩
   ·exact .inr ⟨h1, by simp [isT, h2, h]⟩
 by_cases hi : i < n
 ·rw [if_pos hi]
  unfold wroteS
  by_cases hd : (p.st i).down = true
  ·rw [if_pos hd, if_neg (by rw [hmr]; simp [hd]), if_neg (by rw [hmT]; simp [isT, hd])]
  ·have hd2 : (p.st i).down = false := by simpa using hd
   rw [if_neg hd, if_pos (hmr.2 ⟨hi, hd2⟩)]
   by_cases h : isH l p i = true
   ·rw [if_pos h, if_neg (by rw [hmT]; simp [hdis i h])]
   ·rw [if_neg h, if_pos ((hmT i).2 ⟨hi, by
     simp only [isH, decide_eq_true_eq] at h
     simp [isT, hd2]
     exact fun e => h ⟨hd2, e⟩⟩)]
 ·rw [if_neg hi, if_neg (by rw [hmr]; simp [hi]), if_neg (by rw [hmT]; simp [hi])]
end
end Str
end Go.Proofs.YtnbkhdbligjifaaGreatDoor
namespace Go.Proofs.YtnbkhdbligjifaaGreatDoor
namespace Gf
open Fld
/-! ### the field's laws -/
def linR (g : Nat → Nat) (b : Nat) : Nat → Nat
 | 0 => 0
 | k + 1 => Nat.xor (linR g b k) (if b.testBit k then g k else 0)
theorem xor_c (a b : Nat) : Nat.xor a b = Nat.xor b a := Nat.xor_comm a b
theorem xor_a (a b c : Nat) : Nat.xor (Nat.xor a b) c = Nat.xor a (Nat.xor b c) := Nat.xor_assoc a b c
theorem xor_4 (a b c d : Nat) : Nat.xor (Nat.xor a b) (Nat.xor c d) = Nat.xor (Nat.xor a c) (Nat.xor b d) := by
 rw [xor_a, xor_a, ← xor_a b c d, ← xor_a c b d, xor_c b c]
theorem xor_s (a : Nat) : Nat.xor a a = 0 := Nat.xor_self a
theorem xor_0 (a : Nat) : Nat.xor a 0 = a := Nat.xor_zero a
theorem zero_x (a : Nat) : Nat.xor 0 a = a := Nat.zero_xor a
theorem linR_xor (g : Nat → Nat) (b c : Nat) : ∀ k, linR g (Nat.xor b c) k = Nat.xor (linR g b k) (linR g c k)
 | 0 => (xor_s 0).symm
 | k + 1 => by
   rw [linR, linR, linR, linR_xor g b c k, xor_4]
   congr 1
   rw [show (Nat.xor b c).testBit k = (b.testBit k ^^ c.testBit k) from Nat.testBit_xor b c k]
   cases b.testBit k <;> cases c.testBit k <;> simp [xor_0, xor_s]
theorem xor_lt8 {a b : Nat} (ha : a < 256) (hb : b < 256) : Nat.xor a b < 256 := Nat.xor_lt_two_pow (n := 8) ha hb
theorem gm_comm (a b : Nat) : gm a b = gm b a := by
 unfold gm
 rw [Nat.add_comm (lg a)]
 by_cases h : a = 0 ∨ b = 0
 ·rw [if_pos h, if_pos h.symm]
 ·rw [if_neg h, if_neg fun h2 => h h2.symm]
theorem pw_ne {i : Nat} (h : i < 510) : pw i ≠ 0 := (by decide +kernel : ∀ i : Fin 510, pw i.1 ≠ 0) ⟨i, h⟩
theorem pw_lg {x : Nat} (h : x < 256) (h0 : x ≠ 0) : pw (lg x) = x := (by decide +kernel : ∀ x : Fin 256, x.1 ≠ 0 → pw (lg x.1) = x.1) ⟨x, h⟩ h0
theorem lg_pw {i : Nat} (h : i < 510) : lg (pw i) = i % 255 := (by decide +kernel : ∀ i : Fin 510, lg (pw i.1) = i.1 % 255) ⟨i, h⟩
theorem pw_mod {i : Nat} (h : i < 510) : pw i = pw (i % 255) := (by decide +kernel : ∀ i : Fin 510, pw i.1 = pw (i.1 % 255)) ⟨i, h⟩
theorem lg_lt {x : Nat} (h : x < 256) : lg x < 255 := by have := lg_le x h; omega
theorem gm_zr (a : Nat) : gm a 0 = 0 := by simp [gm]
theorem gm_zl (a : Nat) : gm 0 a = 0 := by simp [gm]
theorem gm_nz {a b : Nat} (ha : a ≠ 0) (hb : b ≠ 0) : gm a b = pw (lg a + lg b) := by unfold gm; rw [if_neg (by simp [ha, hb])]
theorem gm_ne {a b : Nat} (ha : a < 256) (hb : b < 256) (ha0 : a ≠ 0) (hb0 : b ≠ 0) : gm a b ≠ 0 := by
 rw [gm_nz ha0 hb0]; have := lg_lt ha; have := lg_lt hb; exact pw_ne (by omega)
theorem gm_assoc {a b c : Nat} (ha : a < 256) (hb : b < 256) (hc : c < 256) : gm (gm a b) c = gm a (gm b c) := by
 by_cases a0 : a = 0
 ·subst a0; rw [gm_zl, gm_zl, gm_zl]
 by_cases b0 : b = 0
 ·subst b0; rw [gm_zr, gm_zl, gm_zr]
 by_cases c0 : c = 0
 ·subst c0; rw [gm_zr, gm_zr, gm_zr]
 have la := lg_lt ha
 have lb := lg_lt hb
 have lc := lg_lt hc
 rw [gm_nz (gm_ne ha hb a0 b0) c0, gm_nz a0 (gm_ne hb hc b0 c0), gm_nz a0 b0, gm_nz b0 c0, lg_pw (by omega), lg_pw (by omega), pw_mod (by omega), pw_mod (i := lg a + _) (by omega)]
 congr 1
 omega
theorem gm_one {a : Nat} (ha : a < 256) : gm 1 a = a := by
 by_cases a0 : a = 0
 ·subst a0; exact gm_zr 1
 rw [gm_nz (by decide) a0, show lg 1 = 0 by decide +kernel, Nat.zero_add, pw_lg ha a0]
theorem gm_lin : ∀ b : Fin 256, gm 2 b.1 = linR (fun i => gm 2 (2 ^ i)) b.1 8 := by decide +kernel
theorem gm_xor_pw : ∀ (i : Nat), i < 255 → ∀ b c, b < 256 → c < 256 → gm (pw i) (Nat.xor b c) = Nat.xor (gm (pw i) b) (gm (pw i) c)
 | 0, _, b, c, hb, hc => by rw [show pw 0 = 1 by decide +kernel, gm_one hb, gm_one hc, gm_one (xor_lt8 hb hc)]
 | i + 1, h, b, c, hb, hc => by
   rw [(by decide +kernel : ∀ i : Fin 254, pw (i.1 + 1) = gm 2 (pw i.1)) ⟨i, by omega⟩]
   rw [gm_assoc (by decide) (pw_lt i) hb, gm_assoc (by decide) (pw_lt i) hc, gm_assoc (by decide) (pw_lt i) (xor_lt8 hb hc), gm_xor_pw i (by omega) b c hb hc]
   rw [gm_lin ⟨_, gm_lt (pw i) b⟩, gm_lin ⟨_, gm_lt (pw i) c⟩, gm_lin ⟨_, xor_lt8 (gm_lt (pw i) b) (gm_lt (pw i) c)⟩, linR_xor]
theorem gm_xor {a b c : Nat} (ha : a < 256) (hb : b < 256) (hc : c < 256) : gm a (Nat.xor b c) = Nat.xor (gm a b) (gm a c) := by
 by_cases a0 : a = 0
 ·subst a0; rw [gm_zl, gm_zl, gm_zl]; rfl
 ·have := gm_xor_pw (lg a) (lg_lt ha) b c hb hc
  rwa [pw_lg ha a0] at this
theorem xor_gm {a b c : Nat} (ha : a < 256) (hb : b < 256) (hc : c < 256) : gm (Nat.xor a b) c = Nat.xor (gm a c) (gm b c) := by
 rw [gm_comm, gm_xor hc ha hb, gm_comm c a, gm_comm c b]
/-! ### sums -/
def sm (f : Nat → Nat) : Nat → Nat
 | 0 => 0
 | m + 1 => Nat.xor (sm f m) (f m)
theorem sm_lt {f : Nat → Nat} : ∀ {m : Nat}, (∀ j, j < m → f j < 256) → sm f m < 256
 | 0, _ => by simp [sm]
 | m + 1, h => xor_lt8 (sm_lt fun j hj => h j (by omega)) (h m (by omega))
theorem sm_congr {f g : Nat → Nat} : ∀ {m : Nat}, (∀ j, j < m → f j = g j) → sm f m = sm g m
 | 0, _ => rfl
 | m + 1, h => by rw [sm, sm, sm_congr fun j hj => h j (by omega), h m (by omega)]
theorem sm_zero : ∀ (m : Nat), sm (fun _ => 0) m = 0
 | 0 => rfl
 | m + 1 => by rw [sm, sm_zero m, xor_0]
theorem sm_xor (f g : Nat → Nat) : ∀ m, sm (fun j => Nat.xor (f j) (g j)) m = Nat.xor (sm f m) (sm g m)
 | 0 => by simp [sm]
 | m + 1 => by rw [sm, sm, sm, sm_xor f g m, xor_4]
theorem sm_swap (f : Nat → Nat → Nat) (k : Nat) : ∀ m, sm (fun j => sm (f j) k) m = sm (fun l => sm (fun j => f j l) m) k
 | 0 => (sm_zero k).symm
 | m + 1 => by rw [sm, sm_swap f k m, ← sm_xor]; rfl
theorem gm_sm {a : Nat} (ha : a < 256) {f : Nat → Nat} : ∀ {m : Nat}, (∀ j, j < m → f j < 256) → gm a (sm f m) = sm (fun j => gm a (f j)) m
 | 0, _ => gm_zr a
 | m + 1, h => by rw [sm, sm, gm_xor ha (sm_lt fun j hj => h j (by omega)) (h m (by omega)), gm_sm ha fun j hj => h j (by omega)]
theorem sm_gm {a : Nat} (ha : a < 256) {f : Nat → Nat} {m : Nat} (h : ∀ j, j < m → f j < 256) : gm (sm f m) a = sm (fun j => gm (f j) a) m := by
 rw [gm_comm, gm_sm ha h]; exact sm_congr fun j _ => gm_comm _ _
theorem sm_one {g : Nat → Nat} {i : Nat} : ∀ {m : Nat}, i < m → sm (fun l => gm (if i = l then 1 else 0) (g l)) m = gm 1 (g i)
 | 0, h => absurd h (by omega)
 | m + 1, h => by
   by_cases hi : i < m
   ·rw [sm, sm_one hi, if_neg (by omega), gm_zl, xor_0]
   ·have : i = m := by omega
    subst this
    rw [sm, if_pos rfl]
    rw [sm_congr (g := fun _ => 0) fun j hj => by rw [if_neg (by omega), gm_zl], sm_zero, zero_x]
theorem sm_mul {T D : Nat → Nat} {M : Nat → Nat → Nat} {k m : Nat} (hT : ∀ j, j < m → T j < 256) (hM : ∀ j l, M j l < 256) (hD : ∀ l, D l < 256) :
 sm (fun j => gm (T j) (sm (fun l => gm (M j l) (D l)) k)) m = sm (fun l => gm (sm (fun j => gm (T j) (M j l)) m) (D l)) k := by
 rw [sm_congr (g := fun j => sm (fun l => gm (gm (T j) (M j l)) (D l)) k) fun j hj => ?_, sm_swap]
 ·exact sm_congr fun l _ => (sm_gm (hD l) fun j _ => gm_lt _ _).symm
 ·rw [gm_sm (hT j hj) fun l _ => gm_lt _ _]
  exact sm_congr fun l _ => (gm_assoc (hT j hj) (hM j l) (hD l)).symm
end Gf
end Go.Proofs.YtnbkhdbligjifaaGreatDoor
namespace Go.Proofs.YtnbkhdbligjifaaGreatDoor
open Go Go.RowKit
namespace Cod
theorem acc_sm (row : List Nat) (ls : List (List Nat)) (k : Nat) : ∀ j, Spr.acc row ls j k = Gf.sm (fun l => Fld.gm (row.getD l 0) ((ls.getD l []).getD k 0)) j
 | 0 => rfl
 | j + 1 => by
   rw [Spr.acc, Gf.sm, acc_sm row ls k j]
   split
   ·rename_i h
    have : Fld.gm (row.getD j 0) ((ls.getD j []).getD k 0) = 0 := by
     rcases h with h | h
     ·rw [h, Gf.gm_zl]
     ·rw [show (ls.getD j []).getD k 0 = 0 by rw [List.getD, List.getElem?_eq_none h]; rfl, Gf.gm_zr]
    rw [this, Gf.xor_0]
   ·rfl
theorem out_sm (ms ls : List (List Nat)) (i k : Nat) : Spr.out ms ls i k = Gf.sm (fun l => Fld.gm ((ms.getD i []).getD l 0) ((ls.getD l []).getD k 0)) (ms.getD i []).length := acc_sm _ _ _ _
theorem getD_map_range {α : Type} {n i : Nat} (f : Nat → α) (d : α) (h : i < n) : ((List.range n).map f).getD i d = f i := by
 rw [List.getD, List.getElem?_map, List.getElem?_range h]; rfl
theorem mat_out {k n i b : Nat} {s : ByteArray} {z : Nat} (hi : i < n) (hb : b < z) : Spr.out (matL k n) (dataL s k z) i b = Gf.sm (fun l => Fld.gm (entN k i l) (dataF s (l * z + b))) k := by
 rw [out_sm, matL, getD_map_range _ _ hi, List.length_map, List.length_range]
 refine Gf.sm_congr fun l hl => ?_
 rw [getD_map_range _ _ hl, dataL, getD_map_range _ _ hl, getD_map_range _ _ hb]
structure Turns (K N : Nat) (hs : List Nat) : Prop where
 full : (Sol.turnD K (Sol.pick (matL K N) hs)).1 = K
 inv : ∀ i, i < K → ∀ l, l < K → Gf.sm (fun j => Fld.gm ((Sol.turnW K (Sol.pick (matL K N) hs)).2 i (K + j)) (Sol.pick (matL K N) hs j l)) K = if i = l then 1 else 0
theorem nsOf_get {ps : List (List UInt8)} {j b : Nat} : ((nsOf ps).getD j []).getD b 0 = ((ps.getD j []).getD b 0).toNat := by
 simp only [nsOf, List.getD, List.getElem?_map]
 cases ps[j]? with
 | none => simp
 | some s => simp only [Option.map_some, Option.getD_some, List.getElem?_map]; cases s[b]? <;> rfl
theorem payL_get {ms ls : List (List Nat)} {i b : Nat} (hb : b < Spr.wide ls) : ((payL ms ls i).getD b 0).toNat = Spr.out ms ls i b := by
 rw [payL, getD_map_range _ _ hb]
 have := out_lt ms ls i b
 simp [UInt8.toNat_ofNat', Nat.mod_eq_of_lt this]
theorem pick_mat {K N : Nat} {hs : List Nat} {j l : Nat} (hj : hs.getD j 0 < N) (hl : l < K) : Sol.pick (matL K N) hs j l = entN K (hs.getD j 0) l := by
 rw [Sol.pick, matL, getD_map_range _ _ hj, getD_map_range _ _ hl]
theorem pick_byt {K N : Nat} {hs : List Nat} (hlen : hs.length = K) (hlt : ∀ x ∈ hs, x < N) : Sol.Byt (Sol.pick (matL K N) hs) K K := fun i hi j hj => by
 have hh : hs.getD i 0 < N := by
  rw [List.getD, List.getElem?_eq_getElem (by omega), Option.getD_some]
  exact hlt _ (List.getElem_mem _)
 rw [pick_mat hh hj]
 exact entN_lt _ _ _
section
variable {K N : Nat} {hs : List Nat} {s : ByteArray}
theorem outs_eq (hK : 0 < K) (hlen : hs.length = K) (hlt : ∀ x ∈ hs, x < N) (hT : Turns K N hs) :
 outL (Sol.turnL K (Sol.pick (matL K N) hs)) (nsOf (hs.map fun i => Hlt.payB K N s i)) = dataL s K (sizeZ K s.size) := by
 have hw : Spr.wide (nsOf (hs.map fun i => Hlt.payB K N s i)) = sizeZ K s.size := by
  cases hs with
  | nil => simp at hlen; omega
  | cons a r =>
    show ((Hlt.payB K N s a).map UInt8.toNat).length = _
    rw [List.length_map, Hlt.payB_len N s a hK]
 unfold outL
 rw [hw, show (Sol.turnL K (Sol.pick (matL K N) hs)).length = K by simp [Sol.turnL], dataL]
 refine List.map_congr_left fun i hi => List.map_congr_left fun b hb => ?_
 rw [List.mem_range] at hi hb
 have hB := pick_byt hlen hlt
 rw [out_sm, Sol.turnL, getD_map_range _ _ hi, List.length_map, List.length_range]
 rw [Gf.sm_congr (g := fun j => Fld.gm ((Sol.turnW K (Sol.pick (matL K N) hs)).2 i (K + j)) (Gf.sm (fun l => Fld.gm (entN K (hs.getD j 0) l) (dataF s (l * sizeZ K s.size + b))) K)) fun j hj => ?_]
 ·rw [Gf.sm_mul (T := fun j => (Sol.turnW K (Sol.pick (matL K N) hs)).2 i (K + j)) (M := fun j l => entN K (hs.getD j 0) l) (D := fun l => dataF s (l * sizeZ K s.size + b)) (fun j hj => Sol.downs_byt (L := K + K) (Sol.one_byt hB) (K + K) i hi (K + j) (by omega)) (fun j l => entN_lt _ _ _) (fun l => dataF_lt s _)]
  rw [Gf.sm_congr (g := fun l => Fld.gm (if i = l then 1 else 0) (dataF s (l * sizeZ K s.size + b))) fun l hl => ?_, Gf.sm_one hi, Gf.gm_one (dataF_lt _ _)]
  rw [← hT.inv i hi l hl]
  congr 1
  refine Gf.sm_congr fun j hj => ?_
  have hh : hs.getD j 0 < N := by
   rw [List.getD, List.getElem?_eq_getElem (by omega), Option.getD_some]
   exact hlt _ (List.getElem_mem _)
  rw [pick_mat hh hl]
 ·rw [getD_map_range _ _ hj, nsOf_get]
  have hj2 : j < hs.length := by omega
  rw [show (hs.map fun i => Hlt.payB K N s i).getD j [] = Hlt.payB K N s (hs.getD j 0) by simp [List.getD, List.getElem?_eq_getElem hj2]]
  have hh : hs.getD j 0 < N := by
   rw [List.getD, List.getElem?_eq_getElem (by omega), Option.getD_some]
   exact hlt _ (List.getElem_mem _)
  rw [Hlt.payB, payL_get (by rw [dataL_wide _ _ _ hK]; exact hb), mat_out hh hb]
/-! ### the blob out of the rows -/
theorem flat_range {α : Type} (g : Nat → α) (z : Nat) : ∀ k, ((List.range k).map fun i => (List.range z).map fun j => g (i * z + j)).flatten = (List.range (k * z)).map g
 | 0 => by simp
 | k + 1 => by
   rw [List.range_succ, List.map_append, List.flatten_append, flat_range g z k, Nat.succ_mul, List.range_add, List.map_append]
   simp
theorem whole_data (k z : Nat) : wholeL (dataL s k z) = (List.range (k * z)).map fun j => UInt8.ofNat (dataF s j) := by
 unfold wholeL dataL
 rw [flat_range (dataF s) z k, List.map_map]; rfl
theorem beN_head (m : Nat) (hm : m < 256 ^ 8) : beN ((List.range 8).map fun i => UInt8.ofNat (headB m i)) = m := by
 have h8 : List.range 8 = [0, 1, 2, 3, 4, 5, 6, 7] := rfl
 have hh : ∀ i, (UInt8.ofNat (headB m i)).toNat = headB m i := fun i => by
  have : headB m i < 256 := Nat.mod_lt _ (by decide)
  simp [UInt8.toNat_ofNat', Nat.mod_eq_of_lt this]
 rw [h8]
 simp only [List.map_cons, List.map_nil, beN, List.foldl_cons, List.foldl_nil, hh]
 simp only [headB, Nat.reduceSub, Nat.reducePow] at hm ⊢
 omega
theorem trim_zeros (n : Nat) : Lib.trimB (List.replicate n 0) 0 = [] := by
 have h : ∀ m, (List.replicate m (0 : UInt8)).dropWhile (· == 0) = [] := by
  intro m
  induction m with
  | zero => rfl
  | succ m ih => rw [List.replicate_succ, List.dropWhile_cons]; simp
 unfold Lib.trimB Lib.trimRightB
 rw [List.reverse_replicate, h]
 rfl
theorem blob_data (hK : 0 < K) (hs2 : s.size ≤ 32768) : blobF K (sizeZ K s.size) (wholeL (dataL s K (sizeZ K s.size))) = some s.data.toList := by
 have hz := sizeZ_mul K s.size hK
 rw [Nat.mul_comm] at hz
 have hsz : s.data.toList.length = s.size := by simp
 generalize hzz : sizeZ K s.size = z at *
 have hw : wholeL (dataL s K z) = ((List.range 8).map fun i => UInt8.ofNat (headB s.size i)) ++ (s.data.toList ++ List.replicate (K * z - 8 - s.size) 0) := by
  rw [whole_data]
  apply List.ext_getElem?
  intro i
  rw [List.getElem?_map]
  by_cases h1 : i < 8
  ·rw [List.getElem?_append_left (by simp; omega), List.getElem?_range (by omega), List.getElem?_map, List.getElem?_range h1]
   simp [dataF, h1]
  ·rw [List.getElem?_append_right (by simp; omega)]
   simp only [List.length_map, List.length_range]
   by_cases h2 : i < 8 + s.size
   ·rw [List.getElem?_range (by omega), List.getElem?_append_left (by omega)]
    simp only [Option.map_some, dataF, if_neg h1, List.getD]
    rw [List.getElem?_eq_getElem (by omega)]
    simp
   ·rw [List.getElem?_append_right (by omega)]
    by_cases h3 : i < K * z
    ·rw [List.getElem?_range h3, List.getElem?_replicate, if_pos (by omega)]
     have hz0 : s.data.toList[i - 8]? = none := List.getElem?_eq_none (by omega)
     simp only [Option.map_some, dataF, if_neg h1, List.getD, hz0]
     rfl
    ·rw [List.getElem?_eq_none (by simp; omega), List.getElem?_replicate, if_neg (by omega)]
     rfl
 have hb := beN_head s.size (by omega)
 rw [hw]
 generalize hhd : ((List.range 8).map fun i => UInt8.ofNat (headB s.size i)) = hd at *
 have hl : hd.length = 8 := by rw [← hhd]; simp
 have ht : (hd ++ (s.data.toList ++ List.replicate (K * z - 8 - s.size) 0)).take 8 = hd := by rw [← hl, List.take_left']; rfl
 have hdr : (hd ++ (s.data.toList ++ List.replicate (K * z - 8 - s.size) 0)).drop 8 = s.data.toList ++ List.replicate (K * z - 8 - s.size) 0 := by rw [← hl, List.drop_left']; rfl
 unfold blobF
 rw [ht, hb, if_neg (by simp; omega), if_neg (by omega), hzz, if_neg (by simp), ← List.drop_drop, hdr]
 rw [show (s.data.toList ++ List.replicate (K * z - 8 - s.size) (0 : UInt8)).drop s.size = List.replicate (K * z - 8 - s.size) 0 by rw [← hsz, List.drop_left']; rfl, trim_zeros, if_neg (by simp)]
 rw [show (s.data.toList ++ List.replicate (K * z - 8 - s.size) (0 : UInt8)).take s.size = s.data.toList by rw [← hsz, List.take_left']; rfl]
theorem found_ok (hK : 0 < K) (hlen : hs.length = K) (hlt : ∀ x ∈ hs, x < N) (hT : Turns K N hs) (hs2 : s.size ≤ 32768) :
 foundF K N hs (hs.map fun i => Hlt.payB K N s i) = .inr (s.data.toList, dataL s K (sizeZ K s.size)) := by
 have hz := sizeZ_mul K s.size hK
 have hz0 : sizeZ K s.size ≠ 0 := fun h => by rw [h] at hz; omega
 have hlp : lenP (hs.map fun i => Hlt.payB K N s i) = sizeZ K s.size := by
  cases hs with
  | nil => simp at hlen; omega
  | cons a r => exact Hlt.payB_len N s a hK
 unfold foundF firstF
 rw [if_neg (by omega), hlp, if_pos (fun p hp => by
  obtain ⟨i, _, rfl⟩ := List.mem_map.1 hp
  exact Hlt.payB_len N s i hK), if_neg (by rw [hT.full]; omega), outs_eq hK hlen hlt hT]
 simp only
 rw [blob_data hK hs2]
 simp only
 rw [if_pos]
 intro p hp
 obtain ⟨i, hi, rfl⟩ : ∃ i, i ∈ hs ∧ p = (i, Hlt.payB K N s i) := by
  clear hlen hlt hT hlp
  induction hs with
  | nil => cases hp
  | cons a r ih =>
    rw [List.map_cons, List.zip_cons_cons] at hp
    rcases List.mem_cons.1 hp with h | h
    ·exact ⟨a, by simp, h⟩
    ·obtain ⟨i, h1, h2⟩ := ih h
     exact ⟨i, by simp [h1], h2⟩
 rfl
end
end Cod
end Go.Proofs.YtnbkhdbligjifaaGreatDoor
