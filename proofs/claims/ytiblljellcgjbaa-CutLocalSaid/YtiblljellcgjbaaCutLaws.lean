/-
  The walks of CutTells and CutNames.
-/
import Derived.Test.YtiblljellcgjbaaCutRef2
namespace Go.Proofs.Ytiblljellcgjbaa
open Go.RowKit
namespace Cut

theorem row_below {w w' : World} {base : Nat} {e : TypeId} {size : Nat} {v : Value} {n : Nat} {xs : List Value} (h : w.ownsRow base e size v n xs) (hb : Below w.heap.size w w') : w'.ownsRow base e size v n xs :=
  h.kept (row := none) ⟨hb.os, hb.tape, hb.output, hb.size, fun k hk _ => hb.block k hk⟩ (by cases v.ownBlock <;> simp)
theorem row_apart {w1 w2 : World} {b1 b2 : Nat} {e1 e2 : TypeId} {v1 v2 : Value} {n1 n2 : Nat} {xs ys : List Value} (h1 : w1.ownsRow b1 e1 1 v1 n1 xs) (h2 : w2.ownsRow b2 e2 1 v2 n2 ys) (hn : 0 < n1) (hb : w1.heap.size ≤ b2) : v1.ownBlock ≠ v2.ownBlock := by
  intro e
  obtain ⟨A, c, rfl, f⟩ := row_form h1
  obtain ⟨g, cur, rfl, hg, hk, _⟩ := f hn
  have := (h2.lt g e.symm).1
  have := hk.lt
  omega

set_option maxRecDepth 100000 in
set_option maxHeartbeats 2000000 in
theorem tells_true (s : ByteArray) (hs : s.size ≤ maxLen) (w : World) :
    Calls Try.prog 8 #[.string s] w fun e w' => e = .returned (.bool true) ∧ Below w.heap.size w w' := by
  unfold maxLen at hs
  by_cases hlt : 30000 < s.size
  · go_enter Try.func8, Try.ntmps8
    go_wp2_with fail
    refine (awake_true _).mono ?_
    rintro e w1 ⟨rfl, hb1⟩
    go_wp2_with fail
    go_ret
    exact ⟨rfl, hb1⟩
  · have hd : decide ((30000 : Int) < (s.size : Int)) = false := by simp; omega
    have hs2 : s.size ≤ 100000 := by omega
    have hlenE : (E s.data.toList).length ≤ s.size := by have := E_length s.data.toList; simpa using this
    go_enter Try.func8, Try.ntmps8
    go_wp2_with fail
    go_loopw [3] (fun i wr => ∃ k : Nat, k ≤ 2 ∧ i = .int .i64 k ∧ Below w.heap.size w wr) (fun i _ => 2 - (intOf i).toNat)
    case atStart => exact ⟨0, by omega, rfl, Below.refl _ _⟩
    case round =>
      obtain ⟨k, hk, rfl, hbl⟩ := hrel
      by_cases hk2 : k < 2
      · go_wp2_with fail
        refine (Cut_any s hs2 _).mono ?_
        rintro e w1 ⟨v1, rfl, hr1, _, hb1⟩
        go_wp2_with fail
        refine (rCut_any s hs2 _).mono ?_
        rintro e w2 ⟨v2, rfl, hr2, _, hb2⟩
        have hb12 := hbl.trans ((hb1.trans (hb2.mono hb1.size)).mono hbl.size)
        have T := texts_true (pieces s.data.toList 0 (E s.data.toList)) wr.heap.size w1.heap.size v1 v2 w2 (by rw [pieces_length]; omega) w.heap.size hbl.size (by rw [pieces_length]; exact row_below hr1 hb2) (by rw [pieces_length]; exact hr2) (fun hne => row_apart hr1 hr2 (by rw [← pieces_length s.data.toList 0]; exact List.length_pos_iff.2 hne) (Nat.le_refl _))
        have HT := Lib.hid T
        clear T hr1 hr2 hb1 hb2
        go_wp2_with fail
        refine HT.out.mono ?_
        rintro e w3 ⟨rfl, hb3⟩
        have hb13 := hb12.trans hb3
        clear hb3 hb12 HT
        go_wp2_with fail
        refine (Ends_any s hs2 _).mono ?_
        rintro e w4 ⟨v3, rfl, hr3, _, hb4⟩
        go_wp2_with fail
        refine (rEnds_any s hs2 _).mono ?_
        rintro e w5 ⟨v4, rfl, hr4, _, hb5⟩
        have hb15 := hb13.trans ((hb4.trans (hb5.mono hb4.size)).mono hb13.size)
        have T := ints_true (E s.data.toList) w3.heap.size w4.heap.size v3 v4 w5 (by omega) w.heap.size hb13.size (row_below hr3 hb5) hr4 (fun hne => row_apart hr3 hr4 (List.length_pos_iff.2 hne) (Nat.le_refl _))
        have HT := Lib.hid T
        clear T hr3 hr4 hb4 hb5
        go_wp2_with fail
        refine HT.out.mono ?_
        rintro e w6 ⟨rfl, hb6⟩
        have hb16 := hb15.trans hb6
        clear HT
        go_wp2_with fail
        go_roundw
        case rel => exact ⟨k + 1, by omega, by go_num, hb16⟩
        case measure => simp [intOf]; omega
      · go_wp2_with fail
        refine (awake_true _).mono ?_
        rintro e w1 ⟨rfl, hb1⟩
        go_wp2_with fail
        go_ret
        exact ⟨rfl, hbl.trans (hb1.mono hbl.size)⟩

/-- the eight lengths -/
def eight : List Nat := [0, 1, 63, 64, 1023, 1024, 1025, 2048]
theorem eight_le (k : Nat) : eight.getD k 0 ≤ 2048 := by
  unfold eight
  match k with
  | 0 | 1 | 2 | 3 | 4 | 5 | 6 | 7 => simp
  | n + 8 => simp

set_option maxRecDepth 100000 in
set_option maxHeartbeats 2000000 in
theorem names_true (w : World) :
    Calls Try.prog 9 #[] w fun e w' => e = .returned (.bool true) ∧ Below w.heap.size w w' := by
  go_enter Try.func9, Try.ntmps9
  go_wp2_with fail
  go_loopw [1] (fun i wr => ∃ k : Nat, k ≤ 256 ∧ i = .int .i64 k ∧ Below w.heap.size w wr) (fun i _ => 256 - (intOf i).toNat)
  case atStart => exact ⟨0, by omega, rfl, Below.refl _ _⟩
  case round =>
    obtain ⟨b, hb, rfl, hbl⟩ := hrel
    by_cases hb2 : b < 256
    · obtain ⟨wo, rfl⟩ : ∃ wo : World, wo = wr := ⟨_, rfl⟩
      have hbd : decide ((b : Int) < 256) = true := by simp; omega
      go_wp2_with fail
      have hK : Blk (wo.alloc (.cells #[.int .i64 0, .int .i64 1, .int .i64 63, .int .i64 64, .int .i64 1023, .int .i64 1024, .int .i64 1025, .int .i64 2048] 3)) wo.heap.size 3 (eight.map enc).toArray := Blk.new wo _ _
      have hb0 : Below w.heap.size w (wo.alloc (.cells #[.int .i64 0, .int .i64 1, .int .i64 63, .int .i64 64, .int .i64 1023, .int .i64 1024, .int .i64 1025, .int .i64 2048] 3)) := hbl.alloc hbl.size _
      go_loopw [3, 4, 11] (fun _ _ i wr => ∃ k : Nat, k ≤ 8 ∧ i = .int .i64 k ∧ Blk wr wo.heap.size 3 (eight.map enc).toArray ∧ Below w.heap.size w wr) (fun _ _ i _ => 8 - (intOf i).toNat)
      case atStart => exact ⟨0, by omega, rfl, hK, hb0⟩
      case round =>
        obtain ⟨k, hk, rfl, hK1, hbl1⟩ := hrel
        clear hK hb0
        by_cases hk8 : k < 8
        · have hlt := hK1.lt
          have hc := hK1.cell k
          have he8 := eight_le k
          have hget : (eight.map enc).toArray[k]? = some (enc (eight.getD k 0)) := by
            have h8 : k < eight.length := hk8
            simp [List.getD, h8]
          rw [hget] at hc
          unfold enc at hc
          generalize eight.getD k 0 = m at *
          clear hget
          have hx : (UInt8.ofNat b).toNat = b := by simp; omega
          have TT : ∀ W : World, Calls Try.prog 28 #[.int .i64 (m : Int), .int .u8 (b : Int)] W fun e w' => e = .returned (.string ⟨(List.replicate m (UInt8.ofNat b)).toArray⟩) ∧ Below W.heap.size W w' := fun W => times_any m (UInt8.ofNat b) (by omega) _ _ rfl (by rw [hx]) W
          have hsz : (ByteArray.mk (List.replicate m (UInt8.ofNat b)).toArray).size ≤ 100000 := by simp [ByteArray.size]; omega
          generalize ByteArray.mk (List.replicate m (UInt8.ofNat b)).toArray = S at *
          have hlenE : (E S.data.toList).length ≤ S.size := by have := E_length S.data.toList; simpa using this
          have HT := Lib.hid TT
          have HK := Lib.hid hK1
          clear TT hx hK1
          go_wp2_with fail
          refine (HT.out _).mono ?_
          rintro e w1 ⟨rfl, hb1⟩
          go_wp2_with fail
          refine (Ends_any S hsz _).mono ?_
          rintro e w4 ⟨v3, rfl, hr3, _, hb4⟩
          go_wp2_with fail
          refine (rEnds_any S hsz _).mono ?_
          rintro e w5 ⟨v4, rfl, hr4, _, hb5⟩
          have hb15 : Below wr.heap.size wr w5 := hb1.trans ((hb4.trans (hb5.mono hb4.size)).mono hb1.size)
          have T := ints_true (E S.data.toList) w1.heap.size w4.heap.size v3 v4 w5 (by omega) wr.heap.size hb1.size (row_below hr3 hb5) hr4 (fun hne => row_apart hr3 hr4 (List.length_pos_iff.2 hne) (Nat.le_refl _))
          have HI := Lib.hid T
          clear T hr3 hr4 hb4 hb5
          go_wp2_with fail
          refine HI.out.mono ?_
          rintro e w6 ⟨rfl, hb6⟩
          have hb16 := hb15.trans hb6
          clear HI
          go_wp2_with fail
          go_roundw
          case rel => exact ⟨k + 1, by omega, by go_num, HK.out.below hb16 hlt, hbl1.trans (hb16.mono hbl1.size)⟩
          case measure => simp [intOf]; omega
        · go_wp2_with fail
          go_roundw
          case rel => exact ⟨b + 1, by omega, by go_num, hbl1⟩
          case measure => simp [intOf]; omega
    · go_wp2_with fail
      refine (awake_true _).mono ?_
      rintro e w1 ⟨rfl, hb1⟩
      go_wp2_with fail
      go_ret
      exact ⟨rfl, hbl.trans (hb1.mono hbl.size)⟩

end Cut
end Go.Proofs.Ytiblljellcgjbaa
