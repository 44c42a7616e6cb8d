/-
  The walks of package gear and of the reference's layer 13: what each function computes.
-/
import Derived.Test.YtiblljellcgjbaaProg
import Derived.Test.YtiblljellcgjbaaGearPlain
import Derived.WalkKit
import Derived.WalkLawsBesides
import Derived.WalkSpells
import Derived.Lib.Hide
import Derived.Handy
import Derived.Deep.QuietTactic
import Derived.BigQuiet
namespace Go.Proofs.Ytiblljellcgjbaa
open Go.RowKit
namespace Gear

/-! ### the numbers' arithmetic, as the walk spells it -/
theorem w0 (b : Nat) : IntKind.u64.wrap (((b : Int) + 1) * 11400714819323198485) = ((x0 b : Nat) : Int) := by
  rw [IntKind.wrap_u64]; unfold x0; omega
theorem w1 (b : Nat) : IntKind.u64.wrap (bits BinOp.xor IntKind.u64 ((x0 b : Nat) : Int) (((x0 b : Nat) : Int) / 1073741824) * 13787848793156543929) = ((x1 b : Nat) : Int) := by
  have h : x0 b < 18446744073709551616 := by unfold x0; omega
  exact mixStep_u64 (x0 b) 1073741824 13787848793156543929 h
theorem w2 (b : Nat) : IntKind.u64.wrap (bits BinOp.xor IntKind.u64 ((x1 b : Nat) : Int) (((x1 b : Nat) : Int) / 134217728) * 10723151780598845931) = ((x2 b : Nat) : Int) := by
  have h : x1 b < 18446744073709551616 := by unfold x1; omega
  exact mixStep_u64 (x1 b) 134217728 10723151780598845931 h
theorem w3 (b : Nat) : bits BinOp.xor IntKind.u64 ((x2 b : Nat) : Int) (((x2 b : Nat) : Int) / 2147483648) = ((num b : Nat) : Int) := by
  have h : x2 b < 18446744073709551616 := by unfold x2; omega
  exact xorShift_u64 (x2 b) 2147483648 h

theorem ret_int {k : IntKind} {a b : Int} (h : a = b) : Ending.returned (.int k a) = .returned (.int k b) := by rw [h]

set_option maxHeartbeats 400000 in
theorem number_any (b : Int) (h0 : 0 ≤ b) (h1 : b < 256) (w : World) :
    Calls Try.prog 14 #[.int .u8 b] w fun e w' => e = .returned (.int .u64 (num b.toNat : Nat)) ∧ w = w' := by
  obtain ⟨b, rfl⟩ := Int.eq_ofNat_of_zero_le h0
  rw [Int.toNat_natCast]
  go_enter Try.func14, Try.ntmps14
  go_wp2
  go_ret
  exact ⟨ret_int (by rw [w0, w1, w2, w3]), rfl⟩

theorem wroll (h b : Nat) : IntKind.u64.wrap (IntKind.u64.wrap ((h : Int) * 2) + ((num b : Nat) : Int)) = ((roll h b : Nat) : Int) := by
  rw [IntKind.wrap_u64, IntKind.wrap_u64]; unfold roll M; omega

set_option maxHeartbeats 400000 in
theorem roll_any (h b : Int) (h0 : 0 ≤ h) (b0 : 0 ≤ b) (b1 : b < 256) (w : World) :
    Calls Try.prog 16 #[.int .u64 h, .int .u8 b] w fun e w' => e = .returned (.int .u64 (roll h.toNat b.toNat : Nat)) ∧ w = w' := by
  obtain ⟨h, rfl⟩ := Int.eq_ofNat_of_zero_le h0
  rw [Int.toNat_natCast]
  go_enter Try.func16, Try.ntmps16
  go_wp2_with (go_at_call 14; refine (number_any b b0 b1 _).mono ?_; rintro e w' ⟨rfl, rfl⟩)
  go_ret
  exact ⟨ret_int (by rw [wroll]), rfl⟩

set_option maxHeartbeats 400000 in
theorem over1_any (b : Int) (b0 : 0 ≤ b) (b1 : b < 256) (B : Nat) (h : Int) (h0 : 0 ≤ h) (w : World) (hc : w.cell? ⟨B, 0, none⟩ = some (.int .u64 h)) (hf : w.frozen? ⟨B, 0, none⟩ = false) :
    Calls Try.prog 30 #[.int .u8 b, .pointer (some ⟨B, 0, none⟩)] w fun e w' => e = .returned (.tuple #[]) ∧ w.setCell ⟨B, 0, none⟩ (.int .u64 (roll h.toNat b.toNat : Nat)) = w' := by
  go_enter Try.func30, Try.ntmps30
  go_wp2_with (go_at_call 16; refine (roll_any h b h0 b0 b1 _).mono ?_; rintro e w' ⟨rfl, rfl⟩)
  go_end0
  exact ⟨rfl, rfl⟩

theorem take_snoc (l : List UInt8) (k : Nat) (h : k < l.length) : l.take (k + 1) = l.take k ++ [l[k]] := by
  rw [List.take_succ_eq_append_getElem h]

set_option maxHeartbeats 400000 in
theorem overs_any (s : ByteArray) (hs : s.size ≤ maxLen) (B : Nat) (h : Nat) (w : World) (hc : w.cell? ⟨B, 0, none⟩ = some (.int .u64 h)) (hf : w.frozen? ⟨B, 0, none⟩ = false) :
    Calls Try.prog 29 #[.string s, .func (.func 30) #[] #[.pointer (some ⟨B, 0, none⟩)]] w fun e w' => e = .returned (.tuple #[]) ∧
      w'.cell? ⟨B, 0, none⟩ = some (.int .u64 (over h s.data.toList : Nat)) ∧ Below B w w' := by
  unfold maxLen at hs
  go_enter Try.func29, Try.ntmps29
  go_wp2
  go_loopw [7] (fun i wr => ∃ k : Nat, k ≤ s.size ∧ i = .int .i64 k ∧ wr.cell? ⟨B, 0, none⟩ = some (.int .u64 (over h (s.data.toList.take k) : Nat)) ∧ wr.frozen? ⟨B, 0, none⟩ = false ∧ Below B w wr) (fun i _ => s.size - (intOf i).toNat)
  case atStart => exact ⟨0, Nat.zero_le _, rfl, hc, hf, Below.refl _ _⟩
  case round =>
    obtain ⟨k, hk, rfl, hc1, hf1, hb1⟩ := hrel
    by_cases hlt : k < s.size
    · have hts := take_snoc s.data.toList k (by simpa using hlt)
      have HS : Hid (over h (s.data.toList.take (k + 1)) = roll (over h (s.data.toList.take k)) (s[k]).toNat) := by rw [hts, over_snoc]; rfl
      clear hts
      have hbk : ((s[k].toNat : Nat) : Int) < 256 := by have := s[k].toNat_lt; omega
      have hb0 : (0 : Int) ≤ ((s[k].toNat : Nat) : Int) := by omega
      have hh0 : (0 : Int) ≤ ((over h (s.data.toList.take k) : Nat) : Int) := by omega
      go_wp2_with (go_at_call 30; refine (over1_any _ hb0 hbk B _ hh0 _ hc1 hf1).mono ?_; rintro e w' ⟨rfl, rfl⟩)
      rw [← HS.out]
      go_roundw
      case rel => exact ⟨k + 1, by omega, by go_num, World.cell?_setCell_same' _ _ _ (by rw [hc1]; rfl), by rw [World.frozen?_setCell]; exact hf1, hb1.setCell (p := ⟨B, 0, none⟩) (Nat.le_refl _) _⟩
      case measure => simp [intOf]; omega
    · go_wp2
      go_end0
      refine ⟨rfl, ?_, hb1⟩
      rw [hc1, List.take_of_length_le (by simp; omega)]

theorem cell_new_l (W : World) (v : Value) (t : TypeId) : (W.alloc (.cells #[v] t)).cell? ⟨W.heap.size, 0, none⟩ = some v ∧ (W.alloc (.cells #[v] t)).frozen? ⟨W.heap.size, 0, none⟩ = false := by
  have h := heap_alloc_new W (.cells #[v] t)
  constructor <;> simp only [World.cell?, World.frozen?, h] <;> simp

set_option maxHeartbeats 400000 in
theorem over_any (s : ByteArray) (hs : s.size ≤ maxLen) (w : World) :
    Calls Try.prog 17 #[.string s] w fun e w' => e = .returned (.int .u64 (over 0 s.data.toList : Nat)) ∧ Below w.heap.size w w' := by
  have hn := cell_new_l w (.int .u64 0) 22
  go_enter Try.func17, Try.ntmps17
  go_wp2_with (go_at_call 29; refine (overs_any s hs w.heap.size 0 _ hn.1 hn.2).mono ?_; rintro e w' ⟨rfl, hc1, hb1⟩)
  go_ret
  exact ⟨rfl, ((Below.refl _ _).alloc (Nat.le_refl _) _).trans hb1⟩


theorem wmixed (x p t : Nat) (hx : x < 18446744073709551616) :
    IntKind.u64.wrap (bits BinOp.xor IntKind.u64 (x : Int) (IntKind.u64.wrap ((x : Int) / (p : Int))) * (t : Int)) = (((x ^^^ x / p) * t % 18446744073709551616 : Nat) : Int) := by
  have hq : IntKind.u64.wrap ((x : Int) / (p : Int)) = (x : Int) / (p : Int) := by
    have h := Nat.div_le_self x p
    rw [IntKind.wrap_u64, show ((x : Int) / (p : Int)) = ((x / p : Nat) : Int) from (Int.natCast_ediv x p).symm]
    generalize x / p = q at h ⊢
    omega
  rw [hq]; exact mixStep_u64 x p t hx

set_option maxHeartbeats 400000 in
theorem mixed_any (x p t : Int) (h0 : 0 ≤ x) (h1 : x.toNat < 18446744073709551616) (p0 : 1 ≤ p) (t0 : 0 ≤ t) (w : World) :
    Calls Try.prog 31 #[.int .u64 x, .int .u64 p, .int .u64 t] w fun e w' => e = .returned (.int .u64 (((x.toNat ^^^ x.toNat / p.toNat) * t.toNat % 18446744073709551616 : Nat) : Int)) ∧ w = w' := by
  obtain ⟨x, rfl⟩ := Int.eq_ofNat_of_zero_le h0
  obtain ⟨p, rfl⟩ := Int.eq_ofNat_of_zero_le (show 0 ≤ p by omega)
  obtain ⟨t, rfl⟩ := Int.eq_ofNat_of_zero_le t0
  rw [Int.toNat_natCast] at *
  have HW := Lib.hid (wmixed x p t h1)
  clear h1
  have hpne : ((p : Int) == 0) = false := by simp; omega
  go_enter Try.func31, Try.ntmps31
  go_wp2
  go_ret
  exact ⟨ret_int (by rw [HW.out]; rfl), rfl⟩

theorem w0' (b : Nat) : IntKind.u64.wrap (11400714819323198485 * (1 + (b : Int))) = ((x0 b : Nat) : Int) := by
  rw [IntKind.wrap_u64]; unfold x0; omega
theorem wroll' (h b : Nat) : IntKind.u64.wrap (IntKind.u64.wrap ((h : Int) + (h : Int)) + ((num b : Nat) : Int)) = ((roll h b : Nat) : Int) := by
  rw [IntKind.wrap_u64, IntKind.wrap_u64]; unfold roll M; omega

set_option maxHeartbeats 400000 in
theorem rnumber_any (b : Int) (h0 : 0 ≤ b) (h1 : b < 256) (w : World) :
    Calls Try.prog 18 #[.int .u8 b] w fun e w' => e = .returned (.int .u64 (num b.toNat : Nat)) ∧ w = w' := by
  obtain ⟨b, rfl⟩ := Int.eq_ofNat_of_zero_le h0
  rw [Int.toNat_natCast]
  go_enter Try.func18, Try.ntmps18
  go_wp2_with fail
  rw [w0']
  refine (mixed_any _ _ _ (by omega) (by rw [Int.toNat_natCast]; exact x0_lt b) (by decide) (by decide) _).mono ?_
  rintro e w' ⟨rfl, rfl⟩
  rw [Int.toNat_natCast, show ((1073741824 : Int).toNat) = 1073741824 from rfl, show ((13787848793156543929 : Int).toNat) = 13787848793156543929 from rfl, ← x1_eq]
  go_wp2_with fail
  refine (mixed_any _ _ _ (by omega) (by rw [Int.toNat_natCast]; exact x1_lt b) (by decide) (by decide) _).mono ?_
  rintro e w' ⟨rfl, rfl⟩
  rw [Int.toNat_natCast, show ((134217728 : Int).toNat) = 134217728 from rfl, show ((10723151780598845931 : Int).toNat) = 10723151780598845931 from rfl, ← x2_eq]
  go_wp2_with fail
  refine (mixed_any _ _ _ (by omega) (by rw [Int.toNat_natCast]; exact x2_lt' b) (by decide) (by decide) _).mono ?_
  rintro e w' ⟨rfl, rfl⟩
  rw [Int.toNat_natCast, show ((2147483648 : Int).toNat) = 2147483648 from rfl, show ((1 : Int).toNat) = 1 from rfl, num_eq]
  go_wp2_with fail
  go_ret
  exact ⟨rfl, rfl⟩

set_option maxHeartbeats 400000 in
theorem rroll_any (h b : Int) (h0 : 0 ≤ h) (b0 : 0 ≤ b) (b1 : b < 256) (w : World) :
    Calls Try.prog 19 #[.int .u64 h, .int .u8 b] w fun e w' => e = .returned (.int .u64 (roll h.toNat b.toNat : Nat)) ∧ w = w' := by
  obtain ⟨h, rfl⟩ := Int.eq_ofNat_of_zero_le h0
  rw [Int.toNat_natCast]
  go_enter Try.func19, Try.ntmps19
  go_wp2_with (go_at_call 18; refine (rnumber_any b b0 b1 _).mono ?_; rintro e w' ⟨rfl, rfl⟩)
  go_ret
  exact ⟨ret_int (by rw [wroll']), rfl⟩

set_option maxHeartbeats 400000 in
theorem rover_any (s : ByteArray) (hs : s.size ≤ maxLen) (w : World) :
    Calls Try.prog 20 #[.string s] w fun e w' => e = .returned (.int .u64 (over 0 s.data.toList : Nat)) ∧ w = w' := by
  unfold maxLen at hs
  go_enter Try.func20, Try.ntmps20
  go_wp2
  go_loop [3, 4] (fun h i => ∃ k : Nat, k ≤ s.size ∧ i = .int .i64 k ∧ h = .int .u64 (over 0 (s.data.toList.take k) : Nat)) (fun _ i => s.size - (intOf i).toNat)
  case atStart => exact ⟨0, Nat.zero_le _, rfl, rfl⟩
  case round =>
    obtain ⟨k, hk, rfl, rfl⟩ := hrel
    by_cases hlt : k < s.size
    · have hts := take_snoc s.data.toList k (by simpa using hlt)
      have HS : Hid (over 0 (s.data.toList.take (k + 1)) = roll (over 0 (s.data.toList.take k)) (s[k]).toNat) := by rw [hts, over_snoc]; rfl
      clear hts
      have hbk : ((s[k].toNat : Nat) : Int) < 256 := by have := s[k].toNat_lt; omega
      have hb0 : (0 : Int) ≤ ((s[k].toNat : Nat) : Int) := by omega
      have hh0 : (0 : Int) ≤ ((over 0 (s.data.toList.take k) : Nat) : Int) := by omega
      go_wp2_with (go_at_call 19; refine (rroll_any _ _ hh0 hb0 hbk _).mono ?_; rintro e w' ⟨rfl, rfl⟩)
      go_round
      case rel => exact ⟨k + 1, by omega, by go_num, by rw [HS.out]⟩
      case measure => simp [intOf]; omega
    · go_wp2
      go_ret
      exact ⟨ret_int (by rw [List.take_of_length_le (by simp; omega)]), rfl⟩

end Gear
end Go.Proofs.Ytiblljellcgjbaa
