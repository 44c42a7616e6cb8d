/-
  The walk of CutAlone.
-/
import Derived.Test.YtiblljellcgjbaaCutLaws2
import Derived.Test.YtiblljellcgjbaaCutMore2
namespace Go.Proofs.Ytiblljellcgjbaa
open Go.RowKit
namespace Cut

/-- the k-th chunk of a row of chunks -/
theorem chunk_cell {s : ByteArray} {w : World} {b c : Nat} {A : Option Addr} (h : w.ownsRow b 9 1 (.slice A (E s.data.toList).length c) (E s.data.toList).length ((pieces s.data.toList 0 (E s.data.toList)).map piece)) (k : Nat) (hk : k < (E s.data.toList).length) :
    ∃ g, A = some ⟨g, 0, none⟩ ∧ g < w.heap.size ∧ w.cell? ⟨g, k, none⟩ = some (.string (s.extract (last 0 ((E s.data.toList).take k)) ((E s.data.toList).getD k 0))) := by
  obtain ⟨A', c', e, f⟩ := row_form h
  obtain ⟨g, cur, hA, _, hB, hcur⟩ := f (by omega)
  injection e with e1 e2 e3
  refine ⟨g, by rw [e1]; exact hA, hB.lt, (hB.cell k).trans (hcur k _ ?_)⟩
  rw [List.getElem?_map, pieces_k _ _ _ _ hk, ← piece_extract]; rfl

theorem data_ext (s : ByteArray) (f e : Nat) : (s.extract f e).data.toList = (s.data.toList.drop f).take (e - f) := by
  simp only [ByteArray.data_extract, Array.toList_extract, List.extract_eq_take_drop]

theorem ext_same (s : ByteArray) (e a b : Nat) (hb : b ≤ e) : (s.extract 0 e).extract a b = s.extract a b := by
  apply ByteArray.ext
  apply Array.toList_inj.1
  rw [data_ext, data_ext, data_ext, List.drop_zero, Nat.sub_zero, List.drop_take, List.take_take]
  congr 1
  omega
theorem mono_k (d : List UInt8) (i k : Nat) (hik : i < k) (hk : k < (E d).length) : (E d).getD i 0 ≤ (E d).getD k 0 := by
  induction k with
  | zero => omega
  | succ k ih =>
    have h1 := at_k d (k + 1) hk
    have h2 := at_k d k (by omega)
    rw [h2.2.2.2.2] at h1
    rcases Nat.lt_or_ge i k with h | h
    · have := ih h (by omega); omega
    · have : i = k := by omega
      subst this; omega

set_option maxRecDepth 100000 in
set_option maxHeartbeats 4000000 in
theorem alone_true (s : ByteArray) (at_ : Int) (hs : s.size ≤ maxLen) (_h0 : (Lit.int .i64 at_).wf = true) (w : World) :
    Calls Try.prog 13 #[.string s, .int .i64 at_] w fun e w' => e = .returned (.bool true) ∧ Below w.heap.size w w' := by
  unfold maxLen at hs
  by_cases hlt : 30000 < s.size
  · go_enter Try.func13, Try.ntmps13
    go_wp2_with fail
    refine (awake_true _).mono ?_
    rintro e w1 ⟨rfl, hb1⟩
    go_wp2_with fail
    go_ret
    exact ⟨rfl, hb1⟩
  · have hd : decide ((30000 : Int) < (s.size : Int)) = false := by simp; omega
    have hs2 : s.size ≤ 100000 := by omega
    have hlenE : (E s.data.toList).length ≤ s.size := by have := E_length s.data.toList; simpa using this
    by_cases hz : (E s.data.toList).length = 0
    · have hnil := E_nil (List.eq_nil_of_length_eq_zero hz)
      have he : s.toList.isEmpty = true := by
        have h1 : s = ⟨#[]⟩ := by
          apply ByteArray.ext
          apply Array.toList_inj.1
          rw [hnil]
        rw [h1]; decide +kernel
      have hzI : (((E s.data.toList).length : Int) == 0) = true := beq_iff_eq.2 (by omega)
      have HZ := Lib.hid hz
      clear hz hnil
      go_enter Try.func13, Try.ntmps13
      go_wp2_with fail
      refine (awake_true _).mono ?_
      rintro e w1 ⟨rfl, hb1⟩
      go_wp2_with fail
      refine (Cut_any s hs2 _).mono ?_
      rintro e w2 ⟨v1, rfl, hr1, _, hb2⟩
      go_wp2_with fail
      refine (Ends_any s hs2 _).mono ?_
      rintro e w3 ⟨v2, rfl, hr2, _, hb3⟩
      have hb13 := hb1.trans ((hb2.trans (hb3.mono hb2.size)).mono hb1.size)
      obtain ⟨A1, c1, rfl, _⟩ := row_form hr1
      clear hr1 hr2 hb1 hb2 hb3
      go_wp2_with fail
      go_ret
      exact ⟨rfl, hb13⟩
    · have hzI : (((E s.data.toList).length : Int) == 0) = false := beq_eq_false_iff_ne.2 (by omega)
      obtain ⟨k, hk, hkk⟩ : ∃ k : Nat, k < (E s.data.toList).length ∧ wrap64 ((IntKind.u64.wrap at_).tmod ((E s.data.toList).length : Int)) = (k : Int) := by
        have h0 : 0 ≤ IntKind.u64.wrap at_ := by rw [IntKind.wrap_u64]; omega
        rw [Int.tmod_eq_emod_of_nonneg h0]
        generalize (E s.data.toList).length = n at *
        generalize IntKind.u64.wrap at_ = q at *
        have hn : (0 : Int) < (n : Int) := by omega
        have := Int.emod_nonneg q (show (n : Int) ≠ 0 by omega)
        have := Int.emod_lt_of_pos q hn
        refine ⟨(q % (n : Int)).toNat, by omega, ?_⟩
        rw [IntWalk.wrap64_in _ (by omega)]
        omega
      go_enter Try.func13, Try.ntmps13
      go_wp2_with fail
      refine (awake_true _).mono ?_
      rintro e w1 ⟨rfl, hb1⟩
      go_wp2_with fail
      refine (Cut_any s hs2 _).mono ?_
      rintro e w2 ⟨v1, rfl, hr1, _, hb2⟩
      go_wp2_with fail
      refine (Ends_any s hs2 _).mono ?_
      rintro e w3 ⟨v2, rfl, hr2, _, hb3⟩
      have hb13 := hb1.trans ((hb2.trans (hb3.mono hb2.size)).mono hb1.size)
      obtain ⟨A1, c1, rfl, _⟩ := row_form hr1
      obtain ⟨A2, c2, rfl, _⟩ := row_form hr2
      have hBo := both_of hr1 hb3 hr2
      have hr1' := row_below hr1 hb3
      obtain ⟨g1, rfl, x1⟩ := hBo.one k hk
      obtain ⟨g2, rfl, x2⟩ := hBo.two k hk
      clear hr1 hr2 hb1 hb2 hb3
      have hL := split_k (E s.data.toList) k hk
      have hat := at_k s.data.toList k hk
      rw [show s.data.toList.length = s.size by simp] at hat
      obtain ⟨a1, a2, a3, a4, a5⟩ := hat
      have hone := E_chunk _ _ _ _ hL
      have hsome := E_prefix _ _ _ _ hL
      have HA5 := Lib.hid a5
      have HL := Lib.hid hL
      have HONE := Lib.hid hone
      have HSOME := Lib.hid hsome
      clear a5 hL hone hsome a3 hBo
      generalize hf : last 0 ((E s.data.toList).take k) = f at *
      generalize he : (E s.data.toList).getD k 0 = e at *
      have HF := Lib.hid hf
      have HE := Lib.hid he
      clear hf he
      have q4 : (f : Int) ≤ (e : Int) := by omega
      have q5 : (e : Int) ≤ (s.size : Int) := by omega
      go_wp2_with fail
      refine (Cut_any (s.extract f e) (by rw [size_ext s f e a4]; omega) _).mono ?_
      rintro e1 w4 ⟨v3, rfl, hr3, _, hb4⟩
      have h3 : E (s.extract f e).data.toList = [e - f] := by rw [data_ext]; exact HONE.out
      rw [h3] at hr3
      obtain ⟨A3, c3, rfl, f3⟩ := row_form hr3
      obtain ⟨g3, cur3, rfl, _, hB3, hcur3⟩ := f3 (by simp)
      have y3 := (hB3.cell 0).trans (hcur3 0 _ rfl)
      have hp3 : piece (((s.extract f e).data.toList.drop 0).take (e - f - 0)) = .string (s.extract f e) := by
        rw [data_ext, List.drop_zero, Nat.sub_zero, List.take_take, Nat.min_self]; exact piece_extract s f e
      rw [hp3] at y3
      have hg1 : g1 < w3.heap.size := by obtain ⟨g, hA, hl, _⟩ := chunk_cell hr1' k hk; cases hA; exact hl
      have y1 := (hb4.cell (p := ⟨g1, k, none⟩) hg1).trans x1
      have x2' := x2
      have z2 : w4.cell? ⟨g2, k, none⟩ = some (.int .i64 (e : Nat)) := (hb4.cell (p := ⟨g2, k, none⟩) (World.block_lt_of_cell? w3 _ x2)).trans x2
      have hr1'' := row_below hr1' hb4
      clear h3 f3 hcur3 hp3 hr3
      go_wp2_with fail
      refine (Cut_any (s.extract 0 e) (by rw [size_ext s 0 e a4]; omega) _).mono ?_
      rintro e1 w5 ⟨v4, rfl, hr4, _, hb5⟩
      have hM : E (s.extract 0 e).data.toList = (E s.data.toList).take (k + 1) := by
        rw [data_ext, List.drop_zero, Nat.sub_zero, HSOME.out, take_k _ _ hk, HE.out]
      have hMl : (E (s.extract 0 e).data.toList).length = k + 1 := by rw [hM, List.length_take]; omega
      obtain ⟨A4, c4, rfl, _⟩ := row_form hr4
      obtain ⟨g4, rfl, _, _⟩ := chunk_cell hr4 0 (by omega)
      have hc4' : ∀ i, i < k + 1 → w5.cell? ⟨g4, i, none⟩ = some (.string (s.extract (last 0 ((E s.data.toList).take i)) ((E s.data.toList).getD i 0))) := by
        intro i hi
        obtain ⟨g, hA, _, hc⟩ := chunk_cell hr4 i (by omega)
        cases hA
        rw [hc, hM, List.take_take, Nat.min_eq_left (by omega)]
        have hi' : i < (E s.data.toList).length := by omega
        have hg : ((E s.data.toList).take (k + 1)).getD i 0 = (E s.data.toList).getD i 0 := by
          rw [List.getD_eq_getElem?_getD, List.getD_eq_getElem?_getD, List.getElem?_take_of_lt (by omega)]
        rw [hg, ext_same s e _ _ ?_]
        rcases Nat.lt_or_ge i k with hik | hik
        · have h := mono_k s.data.toList i k hik hk
          rw [HE.out] at h
          omega
        · have : i = k := by omega
          rw [this, HE.out]; omega
      have hc1 : ∀ i, i < k + 1 → w5.cell? ⟨g1, i, none⟩ = some (.string (s.extract (last 0 ((E s.data.toList).take i)) ((E s.data.toList).getD i 0))) := by
        intro i hi
        obtain ⟨g, hA, _, hc⟩ := chunk_cell (row_below hr1'' hb5) i (by omega)
        cases hA
        exact hc
      have u1 := hc1 k (by omega)
      rw [HF.out, HE.out] at u1
      have u3 := (hb5.cell (p := ⟨g3, 0, none⟩) hB3.lt).trans y3
      have hb15 := hb13.trans ((hb4.trans (hb5.mono hb4.size)).mono hb13.size)
      rw [hMl]
      clear hr4 hr1'' hr1' hM hMl y1 y3 x1 x2 x2' z2 hb4 hb5 hB3
      have HC1 := Lib.hid hc1
      have HC4 := Lib.hid hc4'
      clear hc1 hc4'
      have w3' : IntKind.i64.wrap ((k : Int) + 1) = (k : Int) + 1 := IntWalk.i64_in _ (by omega)
      have HW3 := Lib.hid w3'
      clear w3'
      go_wp2_with fail
      have w3' := HW3.out
      go_quiet (fail)
      clear w3'
      go_wp2_with fail
      have hkI : (k : Int) < ((E s.data.toList).length : Int) := by omega
      go_loopw [10] (fun i wr => ∃ j : Nat, j ≤ k + 1 ∧ i = .int .i64 j ∧ ∃ q, wr = w5.drewN q) (fun i _ => k + 1 - (intOf i).toNat)
      case atStart => exact ⟨0, by omega, rfl, nq, rfl⟩
      case round =>
        obtain ⟨j, hj, rfl, q, rfl⟩ := hrel
        by_cases hjk : j < k + 1
        · have x1 := HC1.out j hjk
          have x4 := HC4.out j hjk
          have hjl : (j : Int) < ((E s.data.toList).length : Int) := by omega
          have hjl2 : (j : Int) < (k : Int) + 1 := by omega
          generalize s.extract (last 0 ((E s.data.toList).take j)) ((E s.data.toList).getD j 0) = t at *
          go_wp2_with fail
          go_quiet (fail)
          go_wp2_with fail
          go_roundw
          case rel => exact ⟨j + 1, by omega, by go_num, _, rfl⟩
          case measure => simp [intOf]; omega
        · go_wp2_with fail
          go_ret
          exact ⟨rfl, below_drewN hb15 _⟩

end Cut
end Go.Proofs.Ytiblljellcgjbaa
