/-
  The walks of CutMany and CutWhole.
-/
import Derived.Test.YtiblljellcgjbaaCutLaws
import Derived.Test.YtiblljellcgjbaaCutMore
namespace Go.Proofs.Ytiblljellcgjbaa
open Go.RowKit
namespace Cut

/-- what the two calls left: the k-th chunk and the k-th end, read in the world behind -/
structure Both (s : ByteArray) (w : World) (A1 A2 : Option Addr) : Prop where
  one : ∀ k, k < (E s.data.toList).length → ∃ g, A1 = some ⟨g, 0, none⟩ ∧ w.cell? ⟨g, k, none⟩ = some (.string (s.extract (last 0 ((E s.data.toList).take k)) ((E s.data.toList).getD k 0)))
  two : ∀ k, k < (E s.data.toList).length → ∃ g, A2 = some ⟨g, 0, none⟩ ∧ w.cell? ⟨g, k, none⟩ = some (.int .i64 ((E s.data.toList).getD k 0 : Nat))
theorem Both.drew {s : ByteArray} {w : World} {A1 A2 : Option Addr} (h : Both s w A1 A2) : Both s w.drew A1 A2 := ⟨h.one, h.two⟩
theorem both_of {s : ByteArray} {w1 w2 : World} {A1 A2 : Option Addr} {b1 b2 c1 c2 : Nat} (h1 : w1.ownsRow b1 9 1 (.slice A1 (E s.data.toList).length c1) (E s.data.toList).length ((pieces s.data.toList 0 (E s.data.toList)).map piece))
    (hb : Below w1.heap.size w1 w2) (h2 : w2.ownsRow b2 3 1 (.slice A2 (E s.data.toList).length c2) (E s.data.toList).length ((E s.data.toList).map enc)) : Both s w2 A1 A2 := by
  constructor
  · intro k hk
    obtain ⟨A, c, e, f⟩ := row_form (row_below h1 hb)
    obtain ⟨g, cur, hA, _, hB, hcur⟩ := f (by omega)
    injection e with e1 e2 e3
    refine ⟨g, by rw [e1]; exact hA, (hB.cell k).trans (hcur k _ ?_)⟩
    rw [List.getElem?_map, pieces_k _ _ _ _ hk, ← piece_extract]; rfl
  · intro k hk
    obtain ⟨A, c, e, f⟩ := row_form h2
    obtain ⟨g, cur, hA, _, hB, hcur⟩ := f (by omega)
    injection e with e1 e2 e3
    refine ⟨g, by rw [e1]; exact hA, (hB.cell k).trans (hcur k _ ?_)⟩
    simp [List.getD, hk, enc]
theorem size_ext (s : ByteArray) (f e : Nat) (he : e ≤ s.size) : (s.extract f e).size = e - f := by
  simp; omega

set_option maxRecDepth 100000 in
set_option maxHeartbeats 2000000 in
theorem many_true (s : ByteArray) (hs : s.size ≤ maxLen) (w : World) :
    Calls Try.prog 12 #[.string s] w fun e w' => e = .returned (.bool true) ∧ Below w.heap.size w w' := by
  unfold maxLen at hs
  by_cases hlt : 70000 < s.size
  · go_enter Try.func12, Try.ntmps12
    go_wp2_with fail
    refine (awake_true _).mono ?_
    rintro e w1 ⟨rfl, hb1⟩
    go_wp2_with fail
    go_ret
    exact ⟨rfl, hb1⟩
  · have hd : decide ((70000 : Int) < (s.size : Int)) = false := by simp; omega
    have hs2 : s.size ≤ 100000 := by omega
    have hlenE : (E s.data.toList).length ≤ s.size := by have := E_length s.data.toList; simpa using this
    have hmany := E_many s.data.toList
    rw [show s.data.toList.length = s.size by simp] at hmany
    go_enter Try.func12, Try.ntmps12
    go_wp2_with fail
    refine (awake_true _).mono ?_
    rintro e w1 ⟨rfl, hb1⟩
    go_wp2_with fail
    refine (Cut_any s hs2 _).mono ?_
    rintro e w2 ⟨v1, rfl, hr1, _, hb2⟩
    go_wp2_with fail
    refine (Ends_any s hs2 _).mono ?_
    rintro e w3 ⟨v2, rfl, hr2, _, hb3⟩
    have hb13 := hb1.trans ((hb2.trans (hb3.mono hb2.size)).mono hb1.size)
    obtain ⟨A1, c1, rfl, _⟩ := row_form hr1
    obtain ⟨A2, c2, rfl, _⟩ := row_form hr2
    have hBo := both_of hr1 hb3 hr2
    clear hr1 hr2 hb1 hb2 hb3
    have t1 : decide (((E s.data.toList).length : Int) * 1024 < (s.size : Int)) = false := by simp; omega
    have t2 : decide ((s.size : Int) / 64 + 1 < ((E s.data.toList).length : Int)) = false := by simp; omega
    go_wp2_with fail
    have hat := at_k s.data.toList
    have hla := last_E s.data.toList
    obtain ⟨ho, ht⟩ := hBo
    rw [show s.data.toList.length = s.size by simp] at hat hla
    generalize E s.data.toList = L at *
    have HAT := Lib.hid hat
    have HLA := Lib.hid hla
    have HO := Lib.hid ho
    have HT := Lib.hid ht
    clear hat hla ho ht hmany t1 t2
    go_loop [5, 6] (fun n i => ∃ k : Nat, k ≤ L.length ∧ i = .int .i64 k ∧ n = .int .i64 (last 0 (L.take k) : Nat)) (fun _ i => L.length - (intOf i).toNat)
    case atStart => exact ⟨0, Nat.zero_le _, rfl, rfl⟩
    case round =>
      obtain ⟨k, hk, rfl, rfl⟩ := hrel
      by_cases hkl : k < L.length
      · obtain ⟨g1, rfl, x1⟩ := HO.out k hkl
        obtain ⟨g2, rfl, x2⟩ := HT.out k hkl
        obtain ⟨h1, h2, h3, h4, h5⟩ := HAT.out k hkl
        have hz := size_ext s (last 0 (L.take k)) (L.getD k 0) h4
        have H5 := Lib.hid h5
        clear h5
        generalize L.getD k 0 = e at *
        generalize last 0 (L.take k) = f at *
        have hsum : (f : Int) + ((e - f : Nat) : Int) = (e : Int) := by omega
        go_wp2_with fail
        go_round
        case rel => exact ⟨k + 1, by omega, by go_num, by rw [H5.out]⟩
        case measure => simp [intOf]; omega
      · obtain rfl : k = L.length := by omega
        rw [List.take_length, HLA.out]
        go_wp2_with fail
        go_ret
        exact ⟨rfl, hb13⟩

set_option maxRecDepth 100000 in
set_option maxHeartbeats 4000000 in
theorem whole_true (s : ByteArray) (hs : s.size ≤ maxLen) (w : World) :
    Calls Try.prog 10 #[.string s] w fun e w' => e = .returned (.bool true) ∧ Below w.heap.size w w' := by
  unfold maxLen at hs
  by_cases hlt : 60000 < s.size
  · go_enter Try.func10, Try.ntmps10
    go_wp2_with fail
    refine (awake_true _).mono ?_
    rintro e w1 ⟨rfl, hb1⟩
    go_wp2_with fail
    go_ret
    exact ⟨rfl, hb1⟩
  · have hd : decide ((60000 : Int) < (s.size : Int)) = false := by simp; omega
    have hs2 : s.size ≤ 100000 := by omega
    have hlenE : (E s.data.toList).length ≤ s.size := by have := E_length s.data.toList; simpa using this
    go_enter Try.func10, Try.ntmps10
    go_wp2_with fail
    refine (awake_true _).mono ?_
    rintro e w1 ⟨rfl, hb1⟩
    go_wp2_with fail
    refine (Cut_any s hs2 _).mono ?_
    rintro e w2 ⟨v1, rfl, hr1, _, hb2⟩
    go_wp2_with fail
    refine (Ends_any s hs2 _).mono ?_
    rintro e w3 ⟨v2, rfl, hr2, _, hb3⟩
    have hb13 := hb1.trans ((hb2.trans (hb3.mono hb2.size)).mono hb1.size)
    obtain ⟨A1, c1, rfl, _⟩ := row_form hr1
    obtain ⟨A2, c2, rfl, _⟩ := row_form hr2
    have hBo := both_of hr1 hb3 hr2
    clear hr1 hr2 hb1 hb2 hb3
    go_wp2_with fail
    have hat := at_k s.data.toList
    have hla := last_E s.data.toList
    rw [show s.data.toList.length = s.size by simp] at hat hla
    have HAT := Lib.hid hat
    have HLA := Lib.hid hla
    clear hat hla
    go_loopw [5, 6] (fun n i wr => ∃ k : Nat, k ≤ (E s.data.toList).length ∧ i = .int .i64 k ∧ n = .int .i64 (last 0 ((E s.data.toList).take k) : Nat) ∧ Both s wr A1 A2 ∧ Below w.heap.size w wr) (fun _ i _ => (E s.data.toList).length - (intOf i).toNat)
    case atStart => exact ⟨0, Nat.zero_le _, rfl, rfl, hBo, hb13⟩
    case round =>
      obtain ⟨k, hk, rfl, rfl, hBr, hbl⟩ := hrel
      by_cases hkl : k < (E s.data.toList).length
      · obtain ⟨g1, rfl, x1⟩ := hBr.one k hkl
        obtain ⟨g2, rfl, x2⟩ := hBr.two k hkl
        obtain ⟨h1, h2, h3, h4, h5⟩ := HAT.out k hkl
        have hz := size_ext s (last 0 ((E s.data.toList).take k)) ((E s.data.toList).getD k 0) h4
        have H5 := Lib.hid h5
        clear h5
        generalize hL : E s.data.toList = L at *
        generalize L.getD k 0 = e at *
        generalize last 0 (L.take k) = f at *
        have hsum : (f : Int) + ((e - f : Nat) : Int) = (e : Int) := by omega
        have q1 : decide (((e - f : Nat) : Int) < 1) = false := by simp; omega
        have q2 : decide ((1024 : Int) < ((e - f : Nat) : Int)) = false := by simp; omega
        have q3 : decide ((s.size : Int) < (e : Int)) = false := by simp; omega
        have q4 : (f : Int) ≤ (e : Int) := by omega
        have q5 : (e : Int) ≤ (s.size : Int) := by omega
        have hwr : IntKind.i64.wrap (e : Int) = (e : Int) := IntWalk.i64_in _ (by omega)
        have HWR := Lib.hid hwr
        have HLL := Lib.hid hL
        clear hL hBo hwr
        by_cases hk1 : k + 1 < L.length
        · have q6 : decide (((e - f : Nat) : Int) < 64) = false := by simp; omega
          clear h3
          go_wp2_with fail
          have hwr := HWR.out
          go_quiet (fail)
          clear hwr
          go_wp2_with fail
          go_roundw
          case rel => exact ⟨k + 1, by omega, by go_num, by rw [H5.out], ⟨hBr.one, hBr.two⟩, below_drewN hbl _⟩
          case measure => simp [intOf]; omega
        · clear h3
          go_wp2_with fail
          have hwr := HWR.out
          go_quiet (fail)
          clear hwr
          go_wp2_with fail
          go_roundw
          case rel => exact ⟨k + 1, by omega, by go_num, by rw [H5.out], ⟨hBr.one, hBr.two⟩, below_drewN hbl _⟩
          case measure => simp [intOf]; omega
      · obtain rfl : k = (E s.data.toList).length := by omega
        rw [List.take_length, HLA.out]
        go_wp2_with fail
        go_ret
        exact ⟨rfl, hbl⟩

end Cut
end Go.Proofs.Ytiblljellcgjbaa
