/-
 The stripe package: a blob is read (Read).
-/
import Derived.Test.YtnbkhdbligjifaaGreatDoorStrF
import Derived.Test.YtnbkhdbligjifaaGreatDoorCodN
set_option linter.unusedVariables false
set_option linter.unusedSimpArgs false
set_option maxRecDepth 100000
set_option maxHeartbeats 40000000
namespace Go.Proofs.YtnbkhdbligjifaaGreatDoor
open Go Go.RowKit Vm
namespace Str
open Hlt
def decS : Sum Nat (List UInt8 × List (List Nat)) → ByteArray
 | .inl _ => ⟨#[]⟩
 | .inr p => ⟨p.1.toArray⟩
def decE : Sum Nat (List UInt8 × List (List Nat)) → Int
 | .inl er => (er : Nat)
 | .inr _ => 0
theorem dec_calls {f : FuncId} {args : Array Value} {w : World} {K N : Nat} {hs : List Nat} {ps : List (List UInt8)} (h : Calls Tryz.prog f args w (Cod.DecPost w K N hs ps)) : Calls Tryz.prog f args w fun e w' => e = .returned (.tuple #[.string (decS (Cod.foundF K N hs ps)), .int .i64 (decE (Cod.foundF K N hs ps))]) ∧ Below w.heap.size w w' :=
 h.mono fun e w' ⟨hb, hp⟩ => by
  cases hf : Cod.foundF K N hs ps with
  | inl er => rw [hf] at hp; exact ⟨hp, hb⟩
  | inr p => rw [hf] at hp; exact ⟨hp, hb⟩
theorem found_len {K N : Nat} {hs : List Nat} {ps : List (List UInt8)} {p : List UInt8 × List (List Nat)} (h : Cod.foundF K N hs ps = .inr p) : p.1.length ≤ 32768 := by
 unfold Cod.foundF at h
 split at h
 ·cases h
 ·split at h
  ·cases h
  ·split at h
   ·cases h
   ·rename_i b hb
    split at h
    ·cases h
     unfold Cod.blobF at hb
     split at hb
     ·cases hb
     ·split at hb
      ·cases hb
      ·split at hb
       ·cases hb
       ·split at hb
        ·cases hb
        ·cases hb
         rw [List.length_take]
         omega
    ·cases h
noncomputable def runR (p : PW) (d : ByteArray) (k n : Nat) : Bool × Nat := eachF (cutN p d) (moreR p d k n) n 0
noncomputable def paysR (p : PW) (d : ByteArray) (k n : Nat) : List (List UInt8) := (pyL p d k n (runR p d k n).2).map fun x => x.data.toList
noncomputable def readR (p : PW) (d : ByteArray) (k n : Nat) : ByteArray × Int :=
 if (runR p d k n).1 = true then (⟨#[]⟩, 56)
 else if (hvL p d k n (runR p d k n).2).length < k then (⟨#[]⟩, 54)
 else match Cod.foundF k n (hvL p d k n (runR p d k n).2) (paysR p d k n) with
  | .inl _ => (⟨#[]⟩, 54)
  | .inr b => if Shd.sumL b.1 = d.data.toList then (⟨b.1.toArray⟩, 0) else (⟨#[]⟩, 54)
noncomputable def readP (p : PW) (d : ByteArray) (k n : Nat) : PW := getsP p (if (runR p d k n).1 = true then (runR p d k n).2 + 1 else (runR p d k n).2)
def RePost (w : World) (O : List Nat) (b : Nat) (p : PW) (k n : Nat) (d : ByteArray) (e : Ending) (w' : World) : Prop :=
 ∃ O', e = .returned (.tuple #[.string (readR p d k n).1, .int .i64 (readR p d k n).2]) ∧ WB w O b (readP p d k n) O' w'
theorem hvL_nodup (p : PW) (d : ByteArray) (k n : Int) (q : Nat) : (hvL p d k n q).Nodup := List.nodup_range.filter _
theorem hvL_lt (p : PW) (d : ByteArray) (k n : Int) (q : Nat) : ∀ x ∈ hvL p d k n q, x < q := fun x hx => List.mem_range.1 (List.mem_filter.1 hx).1
theorem eachF_le (cut more : Nat → Bool) : ∀ m q, (eachF cut more m q).2 ≤ q + m
 | 0, q => Nat.le_refl _
 | m + 1, q => by
   rw [eachF]
   split
   ·show q ≤ _; omega
   ·split
    ·have := eachF_le cut more m (q + 1); omega
    ·show q + 1 ≤ _; omega
theorem runR_le (p : PW) (d : ByteArray) (k n : Nat) : (runR p d k n).2 ≤ n := by have := eachF_le (cutN p d) (moreR p d k n) n 0; unfold runR; omega
theorem eachF_more (p : PW) (d : ByteArray) (k n : Nat) (hk : 0 < k) : ∀ m q, (hvL p d k n q).length < k → (hvL p d k n (eachF (cutN p d) (moreR p d k n) m q).2).length ≤ k
 | 0, q, h => Nat.le_of_lt h
 | m + 1, q, h => by
   rw [eachF]
   split
   ·exact Nat.le_of_lt h
   ·split
    ·rename_i hm
     exact eachF_more p d k n hk m (q + 1) (by simpa [moreR] using hm)
    ·show (hvL p d k n (q + 1)).length ≤ k
     cases hs : (gotN p d k n q).sound
     ·rw [(hvL_no hs).1]; omega
     ·rw [(hvL_yes hs).1, List.length_append]; show _ + 1 ≤ k; omega
theorem hv_le (p : PW) (d : ByteArray) (k n : Nat) (hk : 0 < k) : (hvL p d k n (runR p d k n).2).length ≤ k := eachF_more p d k n hk n 0 (by simp [hvL, hk])
theorem cf62 : ∀ (args : Array Value) (W : World), (callFunc 62 args).run Tryz.prog W = .ok (.enter 62 args) W := fun args W => by
 simp [callFunc, go_sem, Tryz.func62]
 rw [if_neg (by decide +kernel), if_neg (by intro h; have := congrArg Option.isSome h; revert this; decide +kernel)]
theorem read_any {w : World} (hv : Shd.Vars w) {b : Nat} {p : PW} {O : List Nat} (h : WAt w b p O) (hO : Far O) (k n : Nat) (hk : Shd.codeB (k : Int) (n : Int) = true) (hn : p.n = n) (d : ByteArray) (hd : d.size = 32)
 (hsz : ∀ q, q < n → (gotN p d k n q).pay.size ≤ 1000000) :
 Calls Tryz.prog 28 #[.pointer (some ⟨b, 0, none⟩), .agg #[.int .i64 (k : Int), .int .i64 (n : Int)], .string d] w (RePost w O b p k n d) := by
 obtain ⟨h1, h2, h3⟩ := (Shd.codeB_iff _ _).1 hk
 have hE0 := Stab.Ext.alloc w (.cells #[.int .i64 (k : Int), .int .i64 (n : Int)] 25)
 have hask : askedE p (k : Int) (n : Int) d = 0 := by
  unfold askedE
  rw [if_pos (fitsE_ok.2 ⟨hk, by omega⟩), if_pos hd]
 have hF := asked_any (h.keep (Fr.of_below (O := []) hE0) (by simp)) (k : Int) (n : Int) d (by omega)
 rw [hask] at hF
 have HF := Lib.hid hF
 have bx := Blk.new w 25 #[.int .i64 (k : Int), .int .i64 (n : Int)]
 have c0 := bx.cell 0
 have c1 := bx.cell 1
 simp only [List.getElem?_toArray, List.getElem?_cons_zero, List.getElem?_cons_succ] at c0 c1
 have HBX := Lib.hid bx
 have HE0 := Lib.hid hE0
 have H := Lib.hid h
 have HV := Lib.hid hv
 have HO := Lib.hid hO
 have HK := Lib.hid hk
 have HSZ := Lib.hid hsz
 have hlt := h.lt
 clear h hv hO hk hF hask hsz hE0 bx
 go_enter Tryz.func28, Tryz.ntmps28
 go_wp2_with (go_at_call 60; with_reducible refine HF.out.mono ?_)
 rintro e w1 ⟨rfl, hb1⟩
 have hE1 : Stab.Ext (w.alloc (.cells #[.int .i64 (k : Int), .int .i64 (n : Int)] 25)) w1 := hb1
 have d0 := hE1.cell c0
 have d1 := hE1.cell c1
 have hx1 := HBX.out.below hb1 HBX.out.lt
 have HE1 := Lib.hid (HE0.out.trans hE1)
 have HX1 := Lib.hid hx1
 have hs1 := hE1.size
 have hl1 := lt_cell d0
 clear hb1 hE1 hx1 c0 c1
 have hE2 : Stab.Ext w1 ((w1.alloc (.cells #[.slice none 0 0] 54)).alloc (.cells #[.slice none 0 0] 60)) := (Stab.Ext.alloc _ _).trans (Stab.Ext.alloc _ _)
 have hE := HE1.out.trans hE2
 have hsz2 : ((w1.alloc (.cells #[.slice none 0 0] 54)).alloc (.cells #[.slice none 0 0] 60)).heap.size = w1.heap.size + 2 := by simp
 have hx2 := (HX1.out.alloc (.cells #[.slice none 0 0] 54)).alloc (.cells #[.slice none 0 0] 60)
 have b2 : Boxed ((w1.alloc (.cells #[.slice none 0 0] 54)).alloc (.cells #[.slice none 0 0] 60)) (w1.heap.size + 1) 60 (.slice none 0 0) := by
  have := Boxed.new (w1.alloc (.cells #[.slice none 0 0] 54)) 60 (.slice none 0 0)
  rwa [World.size_alloc] at this
 have hI0 : RdI (w1.heap.size + 2) w1.heap.size (w1.heap.size + 1) w.heap.size p d k n 0 (rdO w1.heap.size (w1.heap.size + 1) w.heap.size (.slice none 0 0) (.slice none 0 0)) ((w1.alloc (.cells #[.slice none 0 0] 54)).alloc (.cells #[.slice none 0 0] 60)) :=
  ⟨_, _, rfl, (Boxed.new w1 54 (.slice none 0 0)).alloc _, b2, hx2, row_nil _ _ _ _, row_nil _ _ _ _, by rw [hsz2]; exact Nat.le_refl _⟩
 have HEACH := Lib.hid (each_any (S := rdO w1.heap.size (w1.heap.size + 1) w.heap.size (.slice none 0 0) (.slice none 0 0)) ((WB.refl (H.out.keep (Fr.of_below (O := []) hE) (by simp))).front hE) HO.out HV.out k n (by omega) d hd (caps := #[.pointer (some ⟨w1.heap.size, 0, none⟩), .pointer (some ⟨w1.heap.size + 1, 0, none⟩), .pointer (some ⟨w.heap.size, 0, none⟩)]) cf62
  (RdI (w1.heap.size + 2) w1.heap.size (w1.heap.size + 1) w.heap.size p d k n) (moreR p d k n) rdI_st hI0
  (fun x hx => by
   simp only [rdO, Value.ownBlock, Option.toList_none, List.append_nil, List.mem_cons, List.not_mem_nil, or_false] at hx
   refine ⟨fun hm => ?_, ?_, ?_⟩
   ·have := hlt x hm; omega
   ·omega
   ·omega)
  (fun q S W hq hI _ => read1_any ⟨by omega, by omega, by omega, by omega, by omega, by omega⟩ p d k n q (by omega) S W hI))
 generalize hw2 : (w1.alloc (.cells #[.slice none 0 0] 54)).alloc (.cells #[.slice none 0 0] 60) = w2 at HEACH
 have HW2 := Lib.hid hw2.symm
 clear hE2 hE hsz2 hx2 b2 hI0 hw2
 go_wp2_with (go_at_call 61; rw [← HW2.out]; with_reducible refine HEACH.out.mono ?_)
 rintro e w3 ⟨rfl, S3, O3, ⟨v1, v2, -, hI3⟩, hwb3, -⟩
 have hr0 : eachF (cutN p d) (moreR p d k n) n 0 = runR p d k n := rfl
 rw [hr0] at hI3 hwb3 ⊢
 have HW := Lib.hid (show WB w O b (readP p d k n) O3 w3 from hwb3)
 have hle := hv_le p d k n (by omega)
 have hrn := runR_le p d k n
 have f0 := hI3.c.cell 0
 have f1 := hI3.c.cell 1
 simp only [List.getElem?_toArray, List.getElem?_cons_zero, List.getElem?_cons_succ] at f0 f1
 have i1 := hI3.i1.cell
 have i2 := hI3.i2.cell
 obtain ⟨B1, x1, hv1⟩ := row_shape hI3.a0
 obtain ⟨B2, x2, hv2⟩ := row_shape hI3.b0
 subst hv1 hv2
 clear hwb3 hr0 HEACH
 have hrd : readR p d k n = readR p d k n := rfl
 conv at hrd => rhs; unfold readR
 have HREAD := Lib.hid hrd
 clear hrd
 have HP := Lib.hid (show ∀ (s : ByteArray) (er : Int) (w' : World), readR p d k n = (s, er) → WB w O b (readP p d k n) O3 w' → RePost w O b p k n d (.returned (.tuple #[.string s, .int .i64 er])) w' from fun s er w' hr hw => ⟨O3, by rw [hr], hw⟩)
 have hpl : paysR p d k n = (pyL p d k n (runR p d k n).2).map fun x => x.data.toList := rfl
 have hnd := hvL_nodup p d k n (runR p d k n).2
 have hltq := hvL_lt p d k n (runR p d k n).2
 have hpz : ∀ s ∈ paysR p d k n, s.length ≤ 1000000 := fun s hs => by
  rw [hpl] at hs
  obtain ⟨x, hx, rfl⟩ := List.mem_map.1 hs
  obtain ⟨j, hj, rfl⟩ := List.mem_map.1 hx
  have := HSZ.out j (Nat.lt_of_lt_of_le (hltq j hj) hrn)
  simpa using this
 have hplen : (paysR p d k n).length = (hvL p d k n (runR p d k n).2).length := by rw [hpl, List.length_map, pyL_len]
 cases hc : (runR p d k n).1 with
 | true =>
   have HR := Lib.hid (HREAD.out.trans (if_pos hc))
   clear hI3
   simp only [if_true]
   go_wp2_with fail
   go_ret2
   exact HP.out _ _ _ HR.out HW.out
 | false =>
   have HR := Lib.hid (HREAD.out.trans (if_neg (by rw [hc]; exact Bool.false_ne_true)))
   clear HREAD
   simp only [Bool.false_eq_true, if_false]
   by_cases hk1 : (hvL p d k n (runR p d k n).2).length < k
   ·have HR2 := Lib.hid (HR.out.trans (if_pos hk1))
    have hk2 : (((hvL p d k n (runR p d k n).2).length : Nat) : Int) < (k : Int) := by omega
    clear hI3 HR
    go_wp2_with fail
    go_ret2
    exact HP.out _ _ _ HR2.out HW.out
   ·have HR2 := Lib.hid (HR.out.trans (if_neg hk1))
    have hk2 : ¬ (((hvL p d k n (runR p d k n).2).length : Nat) : Int) < (k : Int) := by omega
    clear HR
    have hin : Cod.IntsN w3 (.slice B1 (hvL p d k n (runR p d k n).2).length x1) (hvL p d k n (runR p d k n).2) := ints_row hI3.a0
    have hst : Cod.StrsN w3 (.slice B2 (hvL p d k n (runR p d k n).2).length x2) (paysR p d k n) := strs_row (by
     have := hI3.b0
     rw [hplen, hpl, List.map_map]
     exact this)
    have HDEC := Lib.hid (dec_calls (Cod.decode_any HK.out hin hst hplen hnd (fun x hx => Nat.lt_of_lt_of_le (hltq x hx) hrn) hle hpz))
    clear hI3 hin hst hnd hltq hpz hpl
    generalize hvL p d k n (runR p d k n).2 = hs at *
    generalize paysR p d k n = ps at *
    go_wp2_with (go_at_call 63; with_reducible refine HDEC.out.mono ?_)
    rintro e w4 rfl hb4
    have HW4 := Lib.hid (HW.out.ext (show Stab.Ext w3 w4 from hb4))
    clear hb4 HDEC
    cases hf : Cod.foundF k n hs ps with
    | inl er =>
      rw [hf] at HR2
      have he := Cod.foundF_err hf
      have hz : (((er : Nat) : Int) == 0) = false := by rcases he with rfl | rfl <;> rfl
      have hz2 : ¬ ((er : Nat) : Int) = 0 := by rcases he with rfl | rfl <;> omega
      simp only [decS, decE]
      go_wp2_with fail
      go_ret2
      exact HP.out _ _ _ HR2.out HW4.out
    | inr bl =>
      rw [hf] at HR2
      have hlen : bl.1.length ≤ 32768 := found_len hf
      have HSUM := Lib.hid (show Calls Tryz.prog 33 #[.string ⟨bl.1.toArray⟩] w4 fun e w' => e = .returned (.string ⟨(Shd.sumL bl.1).toArray⟩) ∧ Below w4.heap.size w4 w' from Sha.sum_any ⟨bl.1.toArray⟩ (by show bl.1.length ≤ _; omega) w4)
      simp only [decS, decE]
      go_wp2_with (go_at_call 33; with_reducible refine HSUM.out.mono ?_)
      rintro e w5 rfl hb5
      have HW5 := Lib.hid (HW4.out.ext (show Stab.Ext w4 w5 from hb5))
      clear hb5 HSUM
      by_cases hd2 : Shd.sumL bl.1 = d.data.toList
      ·have HR3 := Lib.hid (HR2.out.trans (if_pos hd2))
       have he : (⟨(Shd.sumL bl.1).toArray⟩ : ByteArray) = d := by rw [hd2]
       rw [he]
       clear HR2
       go_wp2_with fail
       go_ret2
       exact HP.out _ _ _ HR3.out HW5.out
      ·have HR3 := Lib.hid (HR2.out.trans (if_neg hd2))
       have he : (Shd.sumL bl.1 == d.toList) = false := by
        rw [beq_eq_false_iff_ne]
        intro h
        rw [ByteArray.toList_eq] at h
        exact hd2 h
       clear HR2
       go_wp2_with fail
       go_ret2
       exact HP.out _ _ _ HR3.out HW5.out
end Str
end Go.Proofs.YtnbkhdbligjifaaGreatDoor
