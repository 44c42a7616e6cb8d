/-
  The walks of the document's package strongboxref06: Code, Digits, Name.
-/
import Derived.Test.YtbcokpnehengfaaDoorRef01Sums
import Derived.Test.YtbcokpnehengfaaDoorShdRead
namespace Go.Proofs.YtbcokpnehengfaaDoor
open Go.RowKit
namespace R6
open Shd

set_option maxRecDepth 100000 in
set_option maxHeartbeats 2000000 in
theorem code_any (k n : Int) (w : World) :
    Calls Tryd.prog 18 #[.agg #[.int .i64 k, .int .i64 n]] w fun e w' => e = .returned (.bool (codeB k n)) ∧ Below w.heap.size w w' := by
  by_cases h1 : 1 ≤ k
  · by_cases h2 : k ≤ n
    · by_cases h3 : n ≤ 12
      · go_enter Tryd.func18, Tryd.ntmps18
        go_wp2_with fail
        go_ret
        exact ⟨codeB_mk (by simp [codeB, h1, h2, h3]), (Below.refl _ _).alloc (Nat.le_refl _) _⟩
      · go_enter Tryd.func18, Tryd.ntmps18
        go_wp2_with fail
        go_ret
        exact ⟨codeB_mk (by simp [codeB, h1, h2, h3]), (Below.refl _ _).alloc (Nat.le_refl _) _⟩
    · go_enter Tryd.func18, Tryd.ntmps18
      go_wp2_with fail
      go_ret
      exact ⟨codeB_mk (by simp [codeB]; omega), (Below.refl _ _).alloc (Nat.le_refl _) _⟩
  · go_enter Tryd.func18, Tryd.ntmps18
    go_wp2_with fail
    go_ret
    exact ⟨codeB_mk (by simp [codeB]; omega), (Below.refl _ _).alloc (Nat.le_refl _) _⟩

theorem ret_str {a b : ByteArray} (h : a = b) : Ending.returned (.string a) = .returned (.string b) := by rw [h]

theorem dec_small (n : Nat) (h : n < 10) : Lib.decDigits n = [UInt8.ofNat (48 + n)] := by rw [Lib.decDigits, dif_pos h]
theorem dec_more (n : Nat) (h : ¬ n < 10) : Lib.decDigits n = Lib.decDigits (n / 10) ++ [UInt8.ofNat (48 + n % 10)] := by rw [Lib.decDigits, dif_neg h]

/-- 'string([]byte{c})' -/
theorem run_one (w : World) (X : Int) (c : UInt8) (h : X = (c.toNat : Int)) : (convert 43 9 (.slice (some ⟨w.heap.size, 0, none⟩) 1 1)).run Tryd.prog (w.alloc (.cells #[.int .u8 X] 5)) = .ok (.string ⟨#[c]⟩) (w.alloc (.cells #[.int .u8 X] 5)) := by
  subst h
  exact run_text (P := Tryd.prog) (src := 43) (e := 5) (dst := 9) (cap := 1) (r := #[]) (l := [c]) Tryd.underlying43 Tryd.underlying5 Tryd.underlying9 (Blk.new w 5 _)

theorem byte_of (n : Nat) (h : n < 256) : (n : Int) = ((UInt8.ofNat n).toNat : Int) := by rw [UInt8.toNat_ofNat']; omega

set_option maxRecDepth 100000 in
set_option maxHeartbeats 2000000 in
theorem digits_nat (n : Nat) (hn : n ≤ 9223372036854775807) (w : World) :
    Calls Tryd.prog 33 #[.int .i64 (n : Int)] w fun e w' => e = .returned (.string ⟨(Lib.decDigits n).toArray⟩) ∧ Below w.heap.size w w' := by
  induction n using Nat.strongRecOn generalizing w with
  | _ n ih =>
    have t0 : ¬ ((n : Int) < 0) := by omega
    by_cases h10 : n < 10
    · have t1 : ¬ ((10 : Int) ≤ (n : Int)) := by omega
      have hm : (n : Int) % 10 = (n : Int) := by omega
      obtain ⟨c, hc⟩ : ∃ c, c = UInt8.ofNat (48 + n) := ⟨_, rfl⟩
      have hcv := run_one w (48 + (n : Int)) c (by rw [hc, ← byte_of _ (by omega)]; omega)
      have hw8 : (48 + (n : Int)) % 256 = 48 + (n : Int) := by omega
      have HD := Lib.hid ((dec_small n h10).trans (by rw [← hc]))
      clear ih hc
      go_enter Tryd.func33, Tryd.ntmps33
      go_wp2_with fail
      go_ret
      exact ⟨by rw [HD.out]; exact ret_str (by apply ByteArray.ext; simp), (Below.refl _ _).alloc (Nat.le_refl _) _⟩
    · have t1 : ((10 : Int) ≤ (n : Int)) := by omega
      have hm : (n : Int) / 10 = ((n / 10 : Nat) : Int) := by omega
      have hm2 : (n : Int) % 10 = ((n % 10 : Nat) : Int) := by omega
      have HI := Lib.hid (ih (n / 10) (by omega) (by omega) w)
      obtain ⟨c, hc⟩ : ∃ c, c = UInt8.ofNat (48 + n % 10) := ⟨_, rfl⟩
      have HD := Lib.hid ((dec_more n h10).trans (by rw [← hc]))
      have hcv := fun w => run_one w (48 + ((n % 10 : Nat) : Int)) c (by rw [hc, ← byte_of _ (by omega)]; omega)
      have HCV := Lib.hid hcv
      have hr : n % 10 < 10 := by omega
      have hdl := dec_le (n / 10) 18 (by omega)
      clear ih hcv hc
      generalize n / 10 = p at *
      generalize n % 10 = q at *
      have hw8 : (48 + (q : Int)) % 256 = 48 + (q : Int) := by omega
      go_enter Tryd.func33, Tryd.ntmps33
      go_wp2_with (go_at_call 33; ((with_reducible refine HI.out.mono ?_); rintro e w1 ⟨rfl, hb1⟩; have hcv := HCV.out w1))
      have HB := Lib.hid (hb1.alloc hb1.size (.cells #[.int .u8 (48 + (q : Int))] 5))
      clear hb1
      go_ret
      exact ⟨by rw [HD.out]; exact ret_str (ba_append _ _), HB.out⟩

set_option maxRecDepth 100000 in
set_option maxHeartbeats 2000000 in
theorem digits_any (n : Int) (hn : I64 n) (w : World) :
    Calls Tryd.prog 33 #[.int .i64 n] w fun e w' => e = .returned (.string ⟨(Lib.itoa n).toArray⟩) ∧ Below w.heap.size w w' := by
  obtain ⟨hn0, hn1⟩ := hn
  by_cases h0 : 0 ≤ n
  · obtain ⟨m, rfl⟩ := Int.eq_ofNat_of_zero_le h0
    have h := digits_nat m (by omega) w
    have e : Lib.itoa (m : Int) = Lib.decDigits m := by unfold Lib.itoa; rw [if_neg (by omega)]; rfl
    rw [e]
    exact h
  · obtain ⟨m, hm⟩ : ∃ m : Nat, n = -(m : Int) := ⟨n.natAbs, by omega⟩
    subst hm
    have hm0 : 0 < m := by omega
    have e : Lib.itoa (-(m : Int)) = 45 :: Lib.decDigits m := by
      unfold Lib.itoa
      rw [if_pos (by omega)]
      have : (-(m : Int)).natAbs = m := by omega
      rw [this]
    have HE := Lib.hid e
    clear e
    have t0 : -(m : Int) < 0 := by omega
    obtain ⟨c, hc⟩ : ∃ c, c = UInt8.ofNat (48 + m % 10) := ⟨_, rfl⟩
    have hcv := fun w => run_one w (48 + ((m % 10 : Nat) : Int)) c (by rw [hc, ← byte_of _ (by omega)]; omega)
    have HCV := Lib.hid hcv
    have hr : m % 10 < 10 := by omega
    have e1 : (-(m : Int)).tdiv 10 = -((m / 10 : Nat) : Int) := by rw [Int.neg_tdiv, Int.tdiv_eq_ediv_of_nonneg (by omega)]; omega
    have e2 : (-(m : Int)).tmod 10 = -((m % 10 : Nat) : Int) := by rw [Int.neg_tmod, Int.tmod_eq_emod_of_nonneg (by omega)]; omega
    by_cases h10 : m < 10
    · have HD := Lib.hid (HE.out.trans (by rw [dec_small m h10, show 48 + m = 48 + m % 10 by omega, ← hc] : _ = [45, c]))
      have e3 : m / 10 = 0 := by omega
      rw [e3] at e1
      have hcw := HCV.out w
      clear hcv hc HE e3
      generalize m % 10 = q at *
      have e4 : (48 - -(q : Int)) = 48 + (q : Int) := by omega
      have hw8 : (48 + (q : Int)) % 256 = 48 + (q : Int) := by omega
      go_enter Tryd.func33, Tryd.ntmps33
      go_wp2_with fail
      go_ret
      exact ⟨by rw [HD.out]; exact ret_str (by apply ByteArray.ext; simp), (Below.refl _ _).alloc (Nat.le_refl _) _⟩
    · have HD := Lib.hid (HE.out.trans (by rw [dec_more m h10, ← hc] : _ = 45 :: (Lib.decDigits (m / 10) ++ [c])))
      have h10' : 0 < m / 10 := by omega
      have hp9 : m / 10 ≤ 1000000000000000000 := by omega
      have hdl := dec_le (m / 10) 18 (by omega)
      have HI := Lib.hid (digits_nat (m / 10) (by omega) w)
      clear hcv hc HE h10
      generalize m / 10 = p at *
      generalize m % 10 = q at *
      have e4 : (48 - -(q : Int)) = 48 + (q : Int) := by omega
      have e5 : - -(p : Int) = (p : Int) := by omega
      have e6 : (-(p : Int) != 0) = true := by simp; omega
      have hw8 : (48 + (q : Int)) % 256 = 48 + (q : Int) := by omega
      go_enter Tryd.func33, Tryd.ntmps33
      go_wp2_with (go_at_call 33; ((with_reducible refine HI.out.mono ?_); rintro e w1 ⟨rfl, hb1⟩; have hcv := HCV.out w1))
      have HB := Lib.hid (hb1.alloc hb1.size (.cells #[.int .u8 (48 + (q : Int))] 5))
      clear hb1
      go_ret
      exact ⟨by rw [HD.out]; exact ret_str (by apply ByteArray.ext; simp), HB.out⟩

set_option maxRecDepth 100000 in
set_option maxHeartbeats 2000000 in
theorem name_any (d : ByteArray) (hd : d.size ≤ 1000000) (n : Int) (hn : I64 n) (w : World) :
    Calls Tryd.prog 16 #[.string d, .int .i64 n] w fun e w' => e = .returned (.string ⟨(nameL d.data.toList n).toArray⟩) ∧ Below w.heap.size w w' := by
  have hdl : d.data.toList.length = d.size := by simp
  have hl1 := hex_len d.data.toList
  have hl2 := itoa_le n hn.1 hn.2
  have HN := Lib.hid hn
  clear hn
  go_enter Tryd.func16, Tryd.ntmps16
  go_wp2_with (go_at_call 32; refine (R1.hex_any d (by omega) w).mono ?_)
  rintro e w1 ⟨rfl, hb1⟩
  go_wp2_with (go_at_call 33; refine (digits_any n HN.out _).mono ?_)
  rintro e w2 ⟨rfl, hb2⟩
  go_wp2_with fail
  go_ret
  exact ⟨by rw [ba_append, ba_append]; unfold nameL; simp, hb1.trans (hb2.mono hb1.size)⟩

end R6
end Go.Proofs.YtbcokpnehengfaaDoor
