/-
  The walk of CutLocal.
-/
import Derived.Test.YtiblljellcgjbaaCutLaws2
import Derived.Test.YtiblljellcgjbaaCutMore2
namespace Go.Proofs.Ytiblljellcgjbaa
open Go.RowKit
namespace Cut

/-- the k-th end of a row of ends -/
theorem end_cell {L : List Nat} {w : World} {b c : Nat} {A : Option Addr} (h : w.ownsRow b 3 1 (.slice A L.length c) L.length (L.map enc)) (k : Nat) (hk : k < L.length) :
    ∃ g, A = some ⟨g, 0, none⟩ ∧ w.cell? ⟨g, k, none⟩ = some (.int .i64 (L.getD k 0 : Nat)) := by
  obtain ⟨A', c', e, f⟩ := row_form h
  obtain ⟨g, cur, hA, _, hB, hcur⟩ := f (by omega)
  injection e with e1 e2 e3
  refine ⟨g, by rw [e1]; exact hA, (hB.cell k).trans (hcur k _ ?_)⟩
  simp [List.getD, hk, enc]

set_option maxRecDepth 100000 in
set_option maxHeartbeats 4000000 in
theorem local_true (hd a b t : ByteArray) (h0 : hd.size ≤ maxLen) (h1 : a.size ≤ maxLen) (h2 : b.size ≤ maxLen) (h3 : t.size ≤ maxLen) (w : World) :
    Calls Try.prog 11 #[.string hd, .string a, .string b, .string t] w fun e w' => e = .returned (.bool true) ∧ Below w.heap.size w w' := by
  unfold maxLen at h0 h1 h2 h3
  by_cases q1 : 20000 < hd.size
  · go_enter Try.func11, Try.ntmps11
    go_wp2_with fail
    refine (awake_true _).mono ?_
    rintro e w1 ⟨rfl, hb1⟩
    go_wp2_with fail
    go_ret
    exact ⟨rfl, hb1⟩
  by_cases q2 : 20000 < a.size
  · go_enter Try.func11, Try.ntmps11
    go_wp2_with fail
    refine (awake_true _).mono ?_
    rintro e w1 ⟨rfl, hb1⟩
    go_wp2_with fail
    go_ret
    exact ⟨rfl, hb1⟩
  by_cases q3 : 20000 < b.size
  · go_enter Try.func11, Try.ntmps11
    go_wp2_with fail
    refine (awake_true _).mono ?_
    rintro e w1 ⟨rfl, hb1⟩
    go_wp2_with fail
    go_ret
    exact ⟨rfl, hb1⟩
  by_cases q4 : 20000 < t.size
  · go_enter Try.func11, Try.ntmps11
    go_wp2_with fail
    refine (awake_true _).mono ?_
    rintro e w1 ⟨rfl, hb1⟩
    go_wp2_with fail
    go_ret
    exact ⟨rfl, hb1⟩
  · have d1 : decide ((20000 : Int) < (hd.size : Int)) = false := by simp; omega
    have d2 : decide ((20000 : Int) < (a.size : Int)) = false := by simp; omega
    have d3 : decide ((20000 : Int) < (b.size : Int)) = false := by simp; omega
    have d4 : decide ((20000 : Int) < (t.size : Int)) = false := by simp; omega
    have sx : (hd ++ a ++ t).size ≤ 60000 := by simp only [ByteArray.size_append]; omega
    have sy : (hd ++ b ++ t).size ≤ 60000 := by simp only [ByteArray.size_append]; omega
    have z1 : hd.size ≤ 20000 := by omega
    have z2 : a.size ≤ 20000 := by omega
    have z3 : b.size ≤ 20000 := by omega
    have hlx : (E (hd ++ a ++ t).data.toList).length ≤ 60000 := by have := E_length (hd ++ a ++ t).data.toList; simp only [Array.length_toList] at this; exact Nat.le_trans this sx
    have hly : (E (hd ++ b ++ t).data.toList).length ≤ 60000 := by have := E_length (hd ++ b ++ t).data.toList; simp only [Array.length_toList] at this; exact Nat.le_trans this sy
    have F1 : ∀ k, k < (E (hd ++ a ++ t).data.toList).length → (E (hd ++ a ++ t).data.toList).getD k 0 < hd.size → k < (E (hd ++ b ++ t).data.toList).length ∧ (E (hd ++ b ++ t).data.toList).getD k 0 = (E (hd ++ a ++ t).data.toList).getD k 0 := by
      intro k hk hl
      have := E_common hd.data.toList (a.data.toList ++ t.data.toList) (b.data.toList ++ t.data.toList) k
      simp only [ByteArray.data_append, Array.toList_append, List.append_assoc] at *
      exact this hk (by simpa using hl)
    have F2 : ∀ i k x, i < (E (hd ++ a ++ t).data.toList).length → k < (E (hd ++ b ++ t).data.toList).length → (E (hd ++ a ++ t).data.toList).getD i 0 = hd.size + a.size + x → (E (hd ++ b ++ t).data.toList).getD k 0 = hd.size + b.size + x →
        (E (hd ++ a ++ t).data.toList).length - i = (E (hd ++ b ++ t).data.toList).length - k ∧ ∀ j, i + j < (E (hd ++ a ++ t).data.toList).length → (E (hd ++ a ++ t).data.toList).getD (i + j) 0 + (hd.size + b.size) = (E (hd ++ b ++ t).data.toList).getD (k + j) 0 + (hd.size + a.size) := by
      intro i k x hi hk e1 e2
      have := E_tail (hd.data.toList ++ a.data.toList) (hd.data.toList ++ b.data.toList) t.data.toList i k x
      simp only [ByteArray.data_append, Array.toList_append, List.length_append, Array.length_toList] at *
      exact this hi hk e1 e2
    have B1 : ∀ k, k < (E (hd ++ a ++ t).data.toList).length → (E (hd ++ a ++ t).data.toList).getD k 0 ≤ 60000 := fun k hk => by
      have := (at_k _ k hk).2.2.2.1; simp only [Array.length_toList] at this; exact Nat.le_trans this sx
    have B2 : ∀ k, k < (E (hd ++ b ++ t).data.toList).length → (E (hd ++ b ++ t).data.toList).getD k 0 ≤ 60000 := fun k hk => by
      have := (at_k _ k hk).2.2.2.1; simp only [Array.length_toList] at this; exact Nat.le_trans this sy
    have HF1 := Lib.hid F1
    have HF2 := Lib.hid F2
    have HB1 := Lib.hid B1
    have HB2 := Lib.hid B2
    have EX := Lib.hid (fun W => Ends_any (hd ++ a ++ t) (by omega) W)
    have EY := Lib.hid (fun W => Ends_any (hd ++ b ++ t) (by omega) W)
    clear F1 F2 B1 B2 sx sy
    go_enter Try.func11, Try.ntmps11
    go_wp2_with fail
    refine (awake_true _).mono ?_
    rintro e w1 ⟨rfl, hb1⟩
    go_wp2_with fail
    refine (EX.out _).mono ?_
    rintro e w2 ⟨v1, rfl, hr1, _, hb2⟩
    go_wp2_with fail
    refine (EY.out _).mono ?_
    rintro e w3 ⟨v2, rfl, hr2, _, hb3⟩
    have hb13 := hb1.trans ((hb2.trans (hb3.mono hb2.size)).mono hb1.size)
    have hr1' := row_below hr1 hb3
    clear hr1 hb1 hb2 hb3 EX EY
    generalize E (hd ++ a ++ t).data.toList = L at *
    generalize E (hd ++ b ++ t).data.toList = M at *
    obtain ⟨A1, c1, rfl, _⟩ := row_form hr1'
    obtain ⟨A2, c2, rfl, _⟩ := row_form hr2
    have HO := Lib.hid (end_cell hr1')
    have HT := Lib.hid (end_cell hr2)
    clear hr1' hr2
    go_wp2_with fail
    go_loopw [11] (fun i wr => ∃ j : Nat, j ≤ L.length ∧ i = .int .i64 j ∧ ∃ q, wr = w3.drewN q) (fun i _ => L.length - (intOf i).toNat)
    case atStart => exact ⟨0, by omega, rfl, 0, rfl⟩
    case round =>
      obtain ⟨i, hi, rfl, q, rfl⟩ := hrel
      by_cases hgo : i < L.length ∧ L.getD i 0 < hd.size
      · obtain ⟨hil, hih⟩ := hgo
        obtain ⟨g1, rfl, x1⟩ := HO.out i hil
        have hb := HB1.out i hil
        obtain ⟨him, hie⟩ := HF1.out i hil hih
        obtain ⟨g2, rfl, x2⟩ := HT.out i him
        rw [hie] at x2
        generalize L.getD i 0 = e at *
        have t1 : (e : Int) < (hd.size : Int) := by omega
        have t2 : decide ((M.length : Int) ≤ (i : Int)) = false := by simp; omega
        have t3 : (i : Int) < (M.length : Int) := by omega
        have t4 : (i : Int) < (L.length : Int) := by omega
        clear hie
        go_wp2_with fail
        go_quiet (fail)
        go_wp2_with fail
        go_roundw
        case rel => exact ⟨i + 1, by omega, by go_num, _, rfl⟩
        case measure => simp [intOf]; omega
      · by_cases hil : i < L.length
        all_goals first
          | (have hil' : i < L.length := hil
             obtain ⟨g1, rfl, x1⟩ := HO.out i hil
             have hih : ¬ L.getD i 0 < hd.size := fun h => hgo ⟨hil, h⟩
             generalize L.getD i 0 = e at *
             have t1 : ¬ (e : Int) < (hd.size : Int) := by omega
             clear hgo hil' hih
             go_wp2_with fail
             clear t1 x1 hil hi)
          | (clear hgo
             go_wp2_with fail
             clear hil hi)
        all_goals
          go_loopw [12] (fun i wr => ∃ j : Nat, j ≤ L.length ∧ i = .int .i64 j ∧ ∃ q, wr = w3.drewN q) (fun i _ => L.length - (intOf i).toNat)
          case atStart => exact ⟨0, by omega, rfl, _, rfl⟩
          case round =>
            obtain ⟨i, hi, rfl, q, rfl⟩ := hrel
            by_cases hil : i < L.length
            · obtain ⟨g1, hg1, x1⟩ := HO.out i hil
              have hb := HB1.out i hil
              have HF3 := Lib.hid (HF2.out i)
              have t4 : (i : Int) < (L.length : Int) := by omega
              cases hg1
              generalize hee : L.getD i 0 = e at *
              have HEE := Lib.hid hee
              clear hee
              go_wp2_with fail
              go_loopw [14] (fun k wr => ∃ j : Nat, j ≤ M.length ∧ k = .int .i64 j ∧ ∃ q, wr = w3.drewN q) (fun k _ => M.length - (intOf k).toNat)
              case atStart => exact ⟨0, by omega, rfl, _, rfl⟩
              case round =>
                obtain ⟨k, hk, rfl, q2, rfl⟩ := hrel
                by_cases hkm : k < M.length
                · obtain ⟨g2, hg2, x2⟩ := HT.out k hkm
                  have hb2 := HB2.out k hkm
                  have t5 : (k : Int) < (M.length : Int) := by omega
                  cases hg2
                  generalize hff : M.getD k 0 = f at *
                  have HFF := Lib.hid hff
                  clear hff
                  by_cases hx : (e : Int) - (hd.size : Int) - (a.size : Int) < 0
                  · go_wp2_with fail
                    go_roundw
                    case rel => exact ⟨k + 1, by omega, by go_num, _, rfl⟩
                    case measure => simp [intOf]; omega
                  · by_cases hy : (f : Int) - (hd.size : Int) - (b.size : Int) = (e : Int) - (hd.size : Int) - (a.size : Int)
                    · have t6 : ((f : Int) - (hd.size : Int) - (b.size : Int) != (e : Int) - (hd.size : Int) - (a.size : Int)) = false := by rw [bne_eq_false_iff_eq]; exact hy
                      obtain ⟨hln, hjs⟩ := HF3.out k (e - hd.size - a.size) hil hkm (by omega) (by have := HFF.out; omega)
                      have t7 : ((L.length : Int) - (i : Int) != (M.length : Int) - (k : Int)) = false := by rw [bne_eq_false_iff_eq]; omega
                      have HJ := Lib.hid hjs
                      have HLN := Lib.hid hln
                      clear hjs hln hy
                      go_wp2_with fail
                      go_loopw [15] (fun x wr => ∃ j : Nat, i + j ≤ L.length ∧ x = .int .i64 j ∧ ∃ q, wr = w3.drewN q) (fun x _ => L.length - (intOf x).toNat)
                      case atStart => exact ⟨0, by omega, rfl, _, rfl⟩
                      case round =>
                        obtain ⟨j, hj, rfl, q3, rfl⟩ := hrel
                        by_cases hjl : i + j < L.length
                        · obtain ⟨g3, hg3, y1⟩ := HO.out (i + j) hjl
                          obtain ⟨g4, hg4, y2⟩ := HT.out (k + j) (by have := HLN.out; omega)
                          cases hg3
                          cases hg4
                          have hj1 := HJ.out j hjl
                          have c1' := HB1.out _ hjl
                          have c2' := HB2.out (k + j) (by have := HLN.out; omega)
                          have t8 : (i : Int) + (j : Int) < (L.length : Int) := by omega
                          have t9 : (k : Int) + (j : Int) < (M.length : Int) := by have := HLN.out; omega
                          generalize L.getD (i + j) 0 = e1 at *
                          generalize M.getD (k + j) 0 = e2 at *
                          have t10 : ((e1 : Int) - (a.size : Int) != (e2 : Int) - (b.size : Int)) = false := by rw [bne_eq_false_iff_eq]; omega
                          have r1 : IntKind.i64.wrap ((i : Int) + (j : Int)) = (i : Int) + (j : Int) := IntWalk.i64_in _ (by omega)
                          have r2 : IntKind.i64.wrap ((k : Int) + (j : Int)) = (k : Int) + (j : Int) := IntWalk.i64_in _ (by omega)
                          have r3 : IntKind.i64.wrap ((e1 : Int) - (a.size : Int)) = (e1 : Int) - (a.size : Int) := IntWalk.i64_in _ (by omega)
                          have r4 : IntKind.i64.wrap ((e2 : Int) - (b.size : Int)) = (e2 : Int) - (b.size : Int) := IntWalk.i64_in _ (by omega)
                          have r5 : ((i : Int) + (j : Int)).toNat = i + j := by omega
                          have r6 : ((k : Int) + (j : Int)).toNat = k + j := by omega
                          have r7 : (0 : Int) ≤ (i : Int) + (j : Int) := by omega
                          have r8 : (0 : Int) ≤ (k : Int) + (j : Int) := by omega
                          have R1 := Lib.hid r1
                          have R2 := Lib.hid r2
                          have R3 := Lib.hid r3
                          have R4 := Lib.hid r4
                          have R5 := Lib.hid r5
                          have R6 := Lib.hid r6
                          clear r1 r2 r3 r4 r5 r6 hj1
                          go_wp2_with fail
                          have r1 := R1.out
                          have r2 := R2.out
                          have r3 := R3.out
                          have r4 := R4.out
                          have r5 := R5.out
                          have r6 := R6.out
                          go_quiet (fail)
                          clear r1 r2 r3 r4 r5 r6
                          go_wp2_with fail
                          go_roundw
                          case rel => exact ⟨j + 1, by omega, by go_num, _, rfl⟩
                          case measure => simp [intOf]; omega
                        · have t8 : ¬ (i : Int) + (j : Int) < (L.length : Int) := by omega
                          go_wp2_with fail
                          go_ret
                          exact ⟨rfl, below_drewN hb13 _⟩
                    · have t6 : ((f : Int) - (hd.size : Int) - (b.size : Int) != (e : Int) - (hd.size : Int) - (a.size : Int)) = true := by rw [bne_iff_ne]; exact hy
                      clear hy
                      go_wp2_with fail
                      go_roundw
                      case rel => exact ⟨k + 1, by omega, by go_num, _, rfl⟩
                      case measure => simp [intOf]; omega
                · go_wp2_with fail
                  go_roundw
                  case rel => exact ⟨i + 1, by omega, by go_num, _, rfl⟩
                  case measure => simp [intOf]; omega
            · go_wp2_with fail
              go_ret
              exact ⟨rfl, below_drewN hb13 _⟩

end Cut
end Go.Proofs.Ytiblljellcgjbaa
