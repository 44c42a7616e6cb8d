/-
  The walks of the reference's layer 14: where chunks end, and the chunks.
-/
import Derived.Test.YtiblljellcgjbaaCutCollect
import Derived.Deep.AppendLies
namespace Go.Proofs.Ytiblljellcgjbaa
open Go.RowKit
namespace Cut
open Gear (roll roll_lt M rroll_any)

theorem below_row {B : Nat} {w wr w1 : World} {o : Obj} {base : Nat} {e : TypeId} {size : Nat} {v : Value} {n : Nat} {xs : List Value} (hb : Below B w wr) (hBs : B ≤ w.heap.size) (hrow : wr.ownsRow base e size v n xs) (hB : B ≤ base) (hg : (wr.alloc o).grownBy w1 v.ownBlock) : Below B w w1 :=
  (hb.alloc (Nat.le_trans hBs hb.size) o).grown hg (by have := hb.size; simp; omega) (fun k e => Nat.le_trans hB (hrow.lt k e).1)

set_option maxRecDepth 100000 in
set_option maxHeartbeats 2000000 in
theorem rEnds_any (s : ByteArray) (hs : s.size ≤ 100000) (w : World) :
    Calls Try.prog 27 #[.string s] w fun e W' =>
      ∃ v, e = .returned v ∧ W'.ownsRow w.heap.size 3 1 v (E s.data.toList).length ((E s.data.toList).map enc) ∧ (v = .slice none 0 0 ↔ E s.data.toList = []) ∧ Below w.heap.size w W' := by
  obtain ⟨i0, hi, hz0, hz1, hz2⟩ := info_parts info3
  have hlenE : (E s.data.toList).length ≤ s.size := by have := E_length s.data.toList; simpa using this
  go_enter Try.func27, Try.ntmps27
  go_wp2_with fail
  go_loopw [3, 4, 5, 6] (fun v h z i wr => ∃ (k fr hh : Nat) (pre : List Nat), k ≤ s.size ∧ fr ≤ k ∧ k - fr ≤ 1023 ∧ (k = s.size → fr = k) ∧ h = .int .u64 hh ∧ z = .int .i64 ((k - fr : Nat) : Int) ∧ i = .int .i64 k ∧ pre ++ ends k fr hh (s.data.toList.drop k) = E s.data.toList ∧
      wr.ownsRow w.heap.size 3 1 v pre.length (pre.map enc) ∧ (v = .slice none 0 0 ↔ pre = []) ∧ Below w.heap.size w wr) (fun _ _ _ i _ => s.size - (intOf i).toNat)
  case atStart => exact ⟨0, 0, 0, [], Nat.zero_le _, Nat.le_refl _, by omega, fun _ => rfl, rfl, rfl, rfl, rfl, World.ownsRow_nil _ _ _ _, by simp, Below.refl _ _⟩
  case round =>
    obtain ⟨k, fr, hh, pre, hk, hfk, hkf, hend, rfl, rfl, rfl, hpre, hrow, hnil, hbl⟩ := hrel
    have hb0' := hbl.size
    by_cases hlt : k < s.size
    · have hbk : ((s[k].toNat : Nat) : Int) < 256 := by have := s[k].toNat_lt; omega
      have hb0 : (0 : Int) ≤ ((s[k].toNat : Nat) : Int) := by omega
      have hh0 : (0 : Int) ≤ ((hh : Nat) : Int) := by omega
      have HR := rroll_any (hh : Int) (s[k].toNat : Int) hh0 hb0 hbk wr
      rw [Int.toNat_natCast, Int.toNat_natCast] at HR
      have hrl := roll_lt hh s[k].toNat
      rw [drop_cons s k hlt] at hpre
      generalize hrr : roll hh s[k].toNat = r at *
      have HRR := Lib.hid HR
      clear HR
      by_cases happ : more (k + 1 - fr) r = false ∨ k + 1 = s.size
      · -- an end
        have HQ : Hid (pre ++ [k + 1] ++ ends (k + 1) (k + 1) 0 (s.data.toList.drop (k + 1)) = E s.data.toList) := by
          show pre ++ [k + 1] ++ ends (k + 1) (k + 1) 0 (s.data.toList.drop (k + 1)) = E s.data.toList
          by_cases hm : more (k + 1 - fr) r = true
          · have hl : k + 1 = s.size := by rcases happ with h | h; · rw [hm] at h; cases h
                                           · exact h
            rw [ends_more (by rw [hrr]; exact hm), hrr] at hpre
            rw [show s.data.toList.drop (k + 1) = [] from List.drop_of_length_le (by simp; omega)] at hpre ⊢
            rw [ends_nil_lt (by omega)] at hpre
            rw [ends_nil_ge (by omega), List.append_nil]; exact hpre
          · rw [ends_stop (by rw [hrr]; simpa using hm)] at hpre
            rw [List.append_assoc]; exact hpre
        have hlen : pre.length < (E s.data.toList).length := by rw [← HQ.out]; simp
        have HH := Lib.hid hend
        clear hpre hrr hend
        by_cases h1024 : k + 1 - fr = 1024
        · have t1 : (((k - fr : Nat) : Int) + 1 == 1024) = true := by simp; omega
          clear happ h1024
          go_wp2_with (first
            | (go_at_call 19; refine HRR.out.mono ?_; rintro e w' ⟨rfl, rfl⟩)
            | (at_builtin; refine wpList_append_own _ rfl _ _ 37 rfl w.heap.size 3 i0 (.int .i64 0) 1 8 Try.underlying37 hi hz0 hz1 hz2 rfl (by decide) _ _ _ rfl (hrow.alloc _) ⟨wr.heap.size, 0, none⟩ 1 1 [.int .i64 ((k : Int) + 1)] rfl rfl (cell_one_new _ _ _) (by simp [Value.oneCell']) (by unfold maxLen; omega) (by omega) (by simp; omega) ?_; intro v' w1 hown' hgrow hnil'))
          have hgrow2 : (wr.alloc (.cells #[.int .i64 ((k : Int) + 1)] 3)).grownBy w1 u3.ownBlock := hgrow
          have hnil2 : v' = .slice none 0 0 ↔ u3 = .slice none 0 0 ∧ (1 : Nat) = 0 := hnil'
          clear hgrow hnil'
          go_roundw
          case rel =>
            refine ⟨k + 1, k + 1, 0, pre ++ [k + 1], by omega, Nat.le_refl _, by omega, fun _ => rfl, rfl, by simp, by go_num, HQ.out, ?_, ?_, below_row hbl (Nat.le_refl _) hrow (Nat.le_refl _) hgrow2⟩
            · simpa [enc] using hown'
            · constructor
              · intro h; have := (hnil2.1 h).2; omega
              · intro h; simp at h
          case measure => simp [intOf]; omega
        · have t1 : (((k - fr : Nat) : Int) + 1 == 1024) = false := by simp; omega
          by_cases hstop : k + 1 - fr ≥ 64 ∧ r / 72057594037927936 = 0
          · have t2 : ((r : Int) / 72057594037927936 == 0) = true := by simp; omega
            have t4 : (64 : Int) ≤ ((k - fr : Nat) : Int) + 1 := by omega
            clear happ hstop h1024
            go_wp2_with (first
              | (go_at_call 19; refine HRR.out.mono ?_; rintro e w' ⟨rfl, rfl⟩)
              | (at_builtin; refine wpList_append_own _ rfl _ _ 37 rfl w.heap.size 3 i0 (.int .i64 0) 1 8 Try.underlying37 hi hz0 hz1 hz2 rfl (by decide) _ _ _ rfl (hrow.alloc _) ⟨wr.heap.size, 0, none⟩ 1 1 [.int .i64 ((k : Int) + 1)] rfl rfl (cell_one_new _ _ _) (by simp [Value.oneCell']) (by unfold maxLen; omega) (by omega) (by simp; omega) ?_; intro v' w1 hown' hgrow hnil'))
            have hgrow2 : (wr.alloc (.cells #[.int .i64 ((k : Int) + 1)] 3)).grownBy w1 u3.ownBlock := hgrow
            have hnil2 : v' = .slice none 0 0 ↔ u3 = .slice none 0 0 ∧ (1 : Nat) = 0 := hnil'
            clear hgrow hnil'
            go_roundw
            case rel =>
              refine ⟨k + 1, k + 1, 0, pre ++ [k + 1], by omega, Nat.le_refl _, by omega, fun _ => rfl, rfl, by simp, by go_num, HQ.out, ?_, ?_, below_row hbl (Nat.le_refl _) hrow (Nat.le_refl _) hgrow2⟩
              · simpa [enc] using hown'
              · constructor
                · intro h; have := (hnil2.1 h).2; omega
                · intro h; simp at h
            case measure => simp [intOf]; omega
          · have hl : k + 1 = s.size := by
              rcases happ with h | h
              · have := more_false h; omega
              · exact h
            have t3 : ((k : Int) == (s.size : Int) - 1) = true := by simp; omega
            have HL := Lib.hid hl
            clear happ hl h1024
            by_cases h64 : (64 : Int) ≤ ((k - fr : Nat) : Int) + 1
            · have t2 : ((r : Int) / 72057594037927936 == 0) = false := by simp; omega
              clear hstop
              go_wp2_with (first
                | (go_at_call 19; refine HRR.out.mono ?_; rintro e w' ⟨rfl, rfl⟩)
                | (at_builtin; refine wpList_append_own _ rfl _ _ 37 rfl w.heap.size 3 i0 (.int .i64 0) 1 8 Try.underlying37 hi hz0 hz1 hz2 rfl (by decide) _ _ _ rfl (hrow.alloc _) ⟨wr.heap.size, 0, none⟩ 1 1 [.int .i64 ((k : Int) + 1)] rfl rfl (cell_one_new _ _ _) (by simp [Value.oneCell']) (by unfold maxLen; omega) (by omega) (by simp; omega) ?_; intro v' w1 hown' hgrow hnil'))
              have hgrow2 : (wr.alloc (.cells #[.int .i64 ((k : Int) + 1)] 3)).grownBy w1 u3.ownBlock := hgrow
              have hnil2 : v' = .slice none 0 0 ↔ u3 = .slice none 0 0 ∧ (1 : Nat) = 0 := hnil'
              clear hgrow hnil'
              go_roundw
              case rel =>
                refine ⟨k + 1, k + 1, 0, pre ++ [k + 1], by omega, Nat.le_refl _, by omega, fun _ => rfl, rfl, by simp, by go_num, HQ.out, ?_, ?_, below_row hbl (Nat.le_refl _) hrow (Nat.le_refl _) hgrow2⟩
                · simpa [enc] using hown'
                · constructor
                  · intro h; have := (hnil2.1 h).2; omega
                  · intro h; simp at h
              case measure => simp [intOf]; omega
            · clear hstop
              go_wp2_with (first
                | (go_at_call 19; refine HRR.out.mono ?_; rintro e w' ⟨rfl, rfl⟩)
                | (at_builtin; refine wpList_append_own _ rfl _ _ 37 rfl w.heap.size 3 i0 (.int .i64 0) 1 8 Try.underlying37 hi hz0 hz1 hz2 rfl (by decide) _ _ _ rfl (hrow.alloc _) ⟨wr.heap.size, 0, none⟩ 1 1 [.int .i64 ((k : Int) + 1)] rfl rfl (cell_one_new _ _ _) (by simp [Value.oneCell']) (by unfold maxLen; omega) (by omega) (by simp; omega) ?_; intro v' w1 hown' hgrow hnil'))
              have hgrow2 : (wr.alloc (.cells #[.int .i64 ((k : Int) + 1)] 3)).grownBy w1 u3.ownBlock := hgrow
              have hnil2 : v' = .slice none 0 0 ↔ u3 = .slice none 0 0 ∧ (1 : Nat) = 0 := hnil'
              clear hgrow hnil'
              go_roundw
              case rel =>
                refine ⟨k + 1, k + 1, 0, pre ++ [k + 1], by omega, Nat.le_refl _, by omega, fun _ => rfl, rfl, by simp, by go_num, HQ.out, ?_, ?_, below_row hbl (Nat.le_refl _) hrow (Nat.le_refl _) hgrow2⟩
                · simpa [enc] using hown'
                · constructor
                  · intro h; have := (hnil2.1 h).2; omega
                  · intro h; simp at h
              case measure => simp [intOf]; omega
      · -- it goes on
        have hm : more (k + 1 - fr) r = true := by
          cases h : more (k + 1 - fr) r
          · exact absurd (.inl h) happ
          · rfl
        have hl : k + 1 ≠ s.size := fun h => happ (.inr h)
        rw [ends_more (by rw [hrr]; exact hm), hrr] at hpre
        have HP := Lib.hid hpre
        have hmt := more_true hm
        have t1 : (((k - fr : Nat) : Int) + 1 == 1024) = false := by simp; omega
        have t3 : ((k : Int) == (s.size : Int) - 1) = false := by simp; omega
        have HH := Lib.hid hend
        have hk1 : k + 1 - fr < 1024 := hmt.1
        clear hpre hrr hend happ hm
        by_cases h64 : (64 : Int) ≤ ((k - fr : Nat) : Int) + 1
        · have t2 : ((r : Int) / 72057594037927936 == 0) = false := by simp; omega
          clear hmt
          go_wp2_with (go_at_call 19; refine HRR.out.mono ?_; rintro e w' ⟨rfl, rfl⟩)
          go_roundw
          case rel => exact ⟨k + 1, fr, r, pre, by omega, by omega, by omega, fun h => absurd h hl, rfl, by congr 1; omega, by go_num, HP.out, hrow, hnil, hbl⟩
          case measure => simp [intOf]; omega
        · clear hmt
          go_wp2_with (go_at_call 19; refine HRR.out.mono ?_; rintro e w' ⟨rfl, rfl⟩)
          go_roundw
          case rel => exact ⟨k + 1, fr, r, pre, by omega, by omega, by omega, fun h => absurd h hl, rfl, by congr 1; omega, by go_num, HP.out, hrow, hnil, hbl⟩
          case measure => simp [intOf]; omega
    · obtain rfl : k = s.size := by omega
      obtain rfl : fr = s.size := hend rfl
      rw [show s.data.toList.drop s.size = [] from List.drop_of_length_le (by simp), ends_nil_ge (by omega), List.append_nil] at hpre
      have HP := Lib.hid hpre
      have HN := Lib.hid hnil
      clear hpre hend hnil
      go_wp2_with fail
      go_ret
      exact ⟨u3, rfl, HP.out ▸ hrow, HP.out ▸ HN.out, hbl⟩

end Cut
end Go.Proofs.Ytiblljellcgjbaa
