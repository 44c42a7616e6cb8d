/-
  The walk of ShardApart.
-/
import Derived.Test.YtbcokpnehengfaaDoorShdLays
namespace Go.Proofs.YtbcokpnehengfaaDoor
open Go.RowKit
namespace Shd

/-- what ShardApart's names are made of -/
def Hold4 (n0 n1 : Nat) (dl el : List UInt8) (i j : Int) (W : World) : Prop :=
  W.cell? ⟨n0, 2, none⟩ = some (.string ⟨dl.toArray⟩) ∧ W.cell? ⟨n0, 3, none⟩ = some (.int .i64 i) ∧ W.cell? ⟨n1, 2, none⟩ = some (.string ⟨el.toArray⟩) ∧ W.cell? ⟨n1, 3, none⟩ = some (.int .i64 j)

theorem Hold4.keep {n0 n1 : Nat} {dl el : List UInt8} {i j : Int} {W W' : World} (h : Hold4 n0 n1 dl el i j W) (hb : Below W.heap.size W W') : Hold4 n0 n1 dl el i j W' := by
  obtain ⟨h0, h1, h2, h3⟩ := h
  exact ⟨(hb.cell (Lib.lt_of_cell h0)).trans h0, (hb.cell (Lib.lt_of_cell h1)).trans h1, (hb.cell (Lib.lt_of_cell h2)).trans h2, (hb.cell (Lib.lt_of_cell h3)).trans h3⟩

theorem two_start (w : World) (K1 N1 : Int) (dl : List UInt8) (i : Int) (pl : List UInt8) (K2 N2 : Int) (el : List UInt8) (j : Int) (ql : List UInt8) :
    Blk ((w.alloc (.cells #[.int .i64 K1, .int .i64 N1, .string ⟨dl.toArray⟩, .int .i64 i, .string ⟨pl.toArray⟩] 25)).alloc (.cells #[.int .i64 K2, .int .i64 N2, .string ⟨el.toArray⟩, .int .i64 j, .string ⟨ql.toArray⟩] 25)) w.heap.size 25 #[.int .i64 K1, .int .i64 N1, .string ⟨dl.toArray⟩, .int .i64 i, .string ⟨pl.toArray⟩] ∧ Blk ((w.alloc (.cells #[.int .i64 K1, .int .i64 N1, .string ⟨dl.toArray⟩, .int .i64 i, .string ⟨pl.toArray⟩] 25)).alloc (.cells #[.int .i64 K2, .int .i64 N2, .string ⟨el.toArray⟩, .int .i64 j, .string ⟨ql.toArray⟩] 25)) (w.heap.size + 1) 25 #[.int .i64 K2, .int .i64 N2, .string ⟨el.toArray⟩, .int .i64 j, .string ⟨ql.toArray⟩] ∧ Below w.heap.size w ((w.alloc (.cells #[.int .i64 K1, .int .i64 N1, .string ⟨dl.toArray⟩, .int .i64 i, .string ⟨pl.toArray⟩] 25)).alloc (.cells #[.int .i64 K2, .int .i64 N2, .string ⟨el.toArray⟩, .int .i64 j, .string ⟨ql.toArray⟩] 25)) := by
  refine ⟨(Blk.new w _ _).alloc _, ?_, ((Below.refl _ _).alloc (Nat.le_refl _) _).alloc (by simp) _⟩
  have h := Blk.new (w.alloc (.cells #[.int .i64 K1, .int .i64 N1, .string ⟨dl.toArray⟩, .int .i64 i, .string ⟨pl.toArray⟩] 25)) 25 #[.int .i64 K2, .int .i64 N2, .string ⟨el.toArray⟩, .int .i64 j, .string ⟨ql.toArray⟩]
  simpa using h

/-- Parse, whatever it says -/
def ParseAny (e : Ending) : Prop := ∃ (d : List UInt8) (n : Int) (b : Bool), e = .returned (.tuple #[.string ⟨d.toArray⟩, .int .i64 n, .bool b])
theorem parse_shape {l : List UInt8} {e : Ending} (h : ParseEnd l e) : ParseAny e := by
  rcases h with ⟨d, n, _, rfl⟩ | ⟨_, rfl⟩
  · exact ⟨_, _, _, rfl⟩
  · exact ⟨[], _, _, rfl⟩

theorem name_len (d : List UInt8) (n : Nat) (h : d.length = 32) (hn : n < 12) : (nameL d (n : Int)).length = 66 + n / 10 := by
  unfold nameL
  rw [List.length_append, List.length_cons, hex_len, itoa_len n hn, h]; omega

theorem name_le (d : List UInt8) (n : Int) (hd : d.length ≤ 100) (hn : I64 n) : (nameL d n).length ≤ 1000000 := by
  unfold nameL
  have := itoa_le n hn.1 hn.2
  rw [List.length_append, List.length_cons, hex_len]; omega

set_option maxRecDepth 100000 in
set_option maxHeartbeats 16000000 in
theorem apartL_any (K1 N1 : Int) (dl : List UInt8) (i : Int) (pl : List UInt8) (hI : I64 i) (K2 N2 : Int) (el : List UInt8) (j : Int) (ql : List UInt8) (hJ : I64 j) (w : World) (hv : Vars w) :
    Calls Tryd.prog 7 #[.agg #[.int .i64 K1, .int .i64 N1, .string ⟨dl.toArray⟩, .int .i64 i, .string ⟨pl.toArray⟩], .agg #[.int .i64 K2, .int .i64 N2, .string ⟨el.toArray⟩, .int .i64 j, .string ⟨ql.toArray⟩]] w fun e w' => e = .returned (.bool true) ∧ Below w.heap.size w w' := by
  obtain ⟨hbx, hby, hb1⟩ := two_start w K1 N1 dl i pl K2 N2 el j ql
  have HV0 := Lib.hid hv
  have HV := Lib.hid (hv.below hb1)
  have HI := Lib.hid hI
  have HJ := Lib.hid hJ
  clear hv hI hJ
  by_cases hd1 : 100 < dl.length
  · have hd : (100 : Int) < (dl.length : Int) := by omega
    go_enter Tryd.func7, Tryd.ntmps7
    go_wp2_with (go_at_call 8; refine (awake_any _ HV.out).mono ?_; rintro e w2 ⟨rfl, hb2⟩)
    go_ret
    exact ⟨rfl, hb1.trans (hb2.mono hb1.size)⟩
  by_cases hd2 : 100 < el.length
  · have hd : (100 : Int) < (el.length : Int) := by omega
    have hf0 : ¬ ((100 : Int) < (dl.length : Int)) := by omega
    go_enter Tryd.func7, Tryd.ntmps7
    go_wp2_with (go_at_call 8; refine (awake_any _ HV.out).mono ?_; rintro e w2 ⟨rfl, hb2⟩)
    go_ret
    exact ⟨rfl, hb1.trans (hb2.mono hb1.size)⟩
  by_cases hd3 : 20000 < pl.length
  · have hd : (20000 : Int) < (pl.length : Int) := by omega
    have hf0 : ¬ ((100 : Int) < (dl.length : Int)) := by omega
    have hf1 : ¬ ((100 : Int) < (el.length : Int)) := by omega
    go_enter Tryd.func7, Tryd.ntmps7
    go_wp2_with (go_at_call 8; refine (awake_any _ HV.out).mono ?_; rintro e w2 ⟨rfl, hb2⟩)
    go_ret
    exact ⟨rfl, hb1.trans (hb2.mono hb1.size)⟩
  by_cases hd4 : 20000 < ql.length
  · have hd : (20000 : Int) < (ql.length : Int) := by omega
    have hf0 : ¬ ((100 : Int) < (dl.length : Int)) := by omega
    have hf1 : ¬ ((100 : Int) < (el.length : Int)) := by omega
    have hf2 : ¬ ((20000 : Int) < (pl.length : Int)) := by omega
    go_enter Tryd.func7, Tryd.ntmps7
    go_wp2_with (go_at_call 8; refine (awake_any _ HV.out).mono ?_; rintro e w2 ⟨rfl, hb2⟩)
    go_ret
    exact ⟨rfl, hb1.trans (hb2.mono hb1.size)⟩
  have hf0 : ¬ ((100 : Int) < (dl.length : Int)) := by omega
  have hf1 : ¬ ((100 : Int) < (el.length : Int)) := by omega
  have hf2 : ¬ ((20000 : Int) < (pl.length : Int)) := by omega
  have hf3 : ¬ ((20000 : Int) < (ql.length : Int)) := by omega
  go_enter Tryd.func7, Tryd.ntmps7
  go_wp2_with fail
  generalize ((w.alloc (.cells #[.int .i64 K1, .int .i64 N1, .string ⟨dl.toArray⟩, .int .i64 i, .string ⟨pl.toArray⟩] 25)).alloc (.cells #[.int .i64 K2, .int .i64 N2, .string ⟨el.toArray⟩, .int .i64 j, .string ⟨ql.toArray⟩] 25)) = w1 at *
  refine (awake_any _ HV.out).mono ?_
  rintro e w2 ⟨rfl, hb2⟩
  have hbx2 := hbx.below hb2 hbx.lt
  have hby2 := hby.below hb2 hby.lt
  have hb02 : Below w.heap.size w w2 := hb1.trans (hb2.mono hb1.size)
  have HV2 := Lib.hid (HV.out.below hb2)
  clear hbx hby hb1 hb2 HV
  obtain ⟨n0, hn0⟩ : ∃ n, n = w.heap.size := ⟨_, rfl⟩
  rw [← hn0] at hbx2 hby2 hb02 ⊢
  have HN0 := Lib.hid hn0
  obtain ⟨n1, hn1⟩ : ∃ n, n = n0 + 1 := ⟨_, rfl⟩
  rw [← hn1] at hby2 ⊢
  have hlt01 : n0 < n1 := by omega
  clear hn0 hn1
  go_wp2_with fail
  have hN1 : ∀ W, Vars W → Calls Tryd.prog 15 #[.string ⟨dl.toArray⟩, .int .i64 i] W fun e w' => e = .returned (.string ⟨(nameL dl i).toArray⟩) ∧ Below W.heap.size W w' := fun W hv => name_any ⟨dl.toArray⟩ (show dl.length ≤ 1000000 by omega) i HI.out W hv
  have hN2 : ∀ W, Vars W → Calls Tryd.prog 15 #[.string ⟨el.toArray⟩, .int .i64 j] W fun e w' => e = .returned (.string ⟨(nameL el j).toArray⟩) ∧ Below W.heap.size W w' := fun W hv => name_any ⟨el.toArray⟩ (show el.length ≤ 1000000 by omega) j HJ.out W hv
  have h4 : Hold4 n0 n1 dl el i j w2 := ⟨hbx2.cell 2, hbx2.cell 3, hby2.cell 2, hby2.cell 3⟩
  have HN1 := Lib.hid hN1
  have HN2 := Lib.hid hN2
  have H4 := Lib.hid h4
  have HVD := Lib.hid (HV2.out.below ((Below.refl _ w2).drew))
  have HBX := Lib.hid hbx2
  have HBY := Lib.hid hby2
  clear hN1 hN2 h4 hbx2 hby2
  refine startN (S := Hold4 n0 n1 dl el i j) 12 #[false, false, false, false, false, false, false, false, false, false, false, false] (by kernel_rfl) (by kernel_rfl) (by kernel_rfl) H4.out (fun hS => ?_)
  refine takeH 0 (some 39) #[true, false, false, false, false, false, false, false, false, false, false, false] rfl rfl (by kernel_rfl) (by kernel_rfl) (by kernel_rfl) (by kernel_rfl) (fun _ _ _ h => h) (by rfl) (v := ?_) ?_ (by assumption) ?_
  rotate_left
  · (intro w hSw; obtain ⟨s0, s1, s2, s3⟩ := hSw; go_simp; try with_reducible rfl)
  simp only [Act.put, List.setIfInBounds_toArray, List.set_cons_zero, List.set_cons_succ]
  refine takeH 1 (some 40) #[true, true, false, false, false, false, false, false, false, false, false, false] rfl rfl (by kernel_rfl) (by kernel_rfl) (by kernel_rfl) (by kernel_rfl) (fun _ _ _ h => h) (by rfl) (v := ?_) ?_ (by assumption) ?_
  rotate_left
  · (intro w hSw; obtain ⟨s0, s1, s2, s3⟩ := hSw; go_simp; try with_reducible rfl)
  simp only [Act.put, List.setIfInBounds_toArray, List.set_cons_zero, List.set_cons_succ]
  refine takeH 2 (some 41) #[true, true, true, false, false, false, false, false, false, false, false, false] rfl rfl (by kernel_rfl) (by kernel_rfl) (by kernel_rfl) (by kernel_rfl) (fun _ _ _ h => h) (by rfl) (v := ?_) ?_ (by assumption) ?_
  rotate_left
  · (intro w hSw; obtain ⟨s0, s1, s2, s3⟩ := hSw; go_simp; try with_reducible rfl)
  simp only [Act.put, List.setIfInBounds_toArray, List.set_cons_zero, List.set_cons_succ]
  refine takeH 3 (some 42) #[true, true, true, true, false, false, false, false, false, false, false, false] rfl rfl (by kernel_rfl) (by kernel_rfl) (by kernel_rfl) (by kernel_rfl) (fun _ _ _ h => h) (by rfl) (v := ?_) ?_ (by assumption) ?_
  rotate_left
  · (intro w hSw; obtain ⟨s0, s1, s2, s3⟩ := hSw; go_simp; try with_reducible rfl)
  simp only [Act.put, List.setIfInBounds_toArray, List.set_cons_zero, List.set_cons_succ]
  refine takeH 5 (some 44) #[true, true, true, true, false, true, false, false, false, false, false, false] rfl rfl (by kernel_rfl) (by kernel_rfl) (by kernel_rfl) (by kernel_rfl) (fun _ _ _ h => h) (by rfl) (v := ?_) ?_ (by assumption) ?_
  rotate_left
  · (intro w hSw; obtain ⟨s0, s1, s2, s3⟩ := hSw; go_simp; try with_reducible rfl)
  simp only [Act.put, List.setIfInBounds_toArray, List.set_cons_zero, List.set_cons_succ]
  refine takeH 6 (some 45) #[true, true, true, true, false, true, true, false, false, false, false, false] rfl rfl (by kernel_rfl) (by kernel_rfl) (by kernel_rfl) (by kernel_rfl) (fun _ _ _ h => h) (by rfl) (v := ?_) ?_ (by assumption) ?_
  rotate_left
  · (intro w hSw; obtain ⟨s0, s1, s2, s3⟩ := hSw; go_simp; try with_reducible rfl)
  simp only [Act.put, List.setIfInBounds_toArray, List.set_cons_zero, List.set_cons_succ]
  refine takeH 7 (some 46) #[true, true, true, true, false, true, true, true, false, false, false, false] rfl rfl (by kernel_rfl) (by kernel_rfl) (by kernel_rfl) (by kernel_rfl) (fun _ _ _ h => h) (by rfl) (v := ?_) ?_ (by assumption) ?_
  rotate_left
  · (intro w hSw; obtain ⟨s0, s1, s2, s3⟩ := hSw; go_simp; try with_reducible rfl)
  simp only [Act.put, List.setIfInBounds_toArray, List.set_cons_zero, List.set_cons_succ]
  refine takeH 8 (some 47) #[true, true, true, true, false, true, true, true, true, false, false, false] rfl rfl (by kernel_rfl) (by kernel_rfl) (by kernel_rfl) (by kernel_rfl) (fun _ _ _ h => h) (by rfl) (v := ?_) ?_ (by assumption) ?_
  rotate_left
  · (intro w hSw; obtain ⟨s0, s1, s2, s3⟩ := hSw; go_simp; try with_reducible rfl)
  simp only [Act.put, List.setIfInBounds_toArray, List.set_cons_zero, List.set_cons_succ]
  refine oneH 4 #[true, true, true, true, true, true, true, true, true, false, false, false] rfl (by kernel_rfl) (by kernel_rfl) (by rfl) (fun K hK => ?_)
  go_simp
  go_wp2_with (go_at_call 15; refine (HN1.out _ HVD.out).mono ?_; rintro e w3 ⟨rfl, hb3⟩)
  refine hK.out _ _ (Hold4.keep (by assumption) hb3) (fun hS => ?_)
  clear hK K
  refine oneH 9 #[true, true, true, true, true, true, true, true, true, true, false, false] rfl (by kernel_rfl) (by kernel_rfl) (by rfl) (fun K hK => ?_)
  go_simp
  go_wp2_with (go_at_call 15; refine (HN2.out _ (HVD.out.below hb3)).mono ?_; rintro e w4 ⟨rfl, hb4⟩)
  refine hK.out _ _ (Hold4.keep (by assumption) hb4) (fun hS => ?_)
  clear hK K
  refine takeH 10 (some 5) #[true, true, true, true, true, true, true, true, true, true, true, false] rfl rfl (by kernel_rfl) (by kernel_rfl) (by kernel_rfl) (by kernel_rfl) (fun _ _ _ h => h) (by rfl) (v := ?_) ?_ (by assumption) ?_
  rotate_left
  · (intro w hSw; obtain ⟨s0, s1, s2, s3⟩ := hSw; go_simp; try with_reducible rfl)
  simp only [Act.put, List.setIfInBounds_toArray, List.set_cons_zero, List.set_cons_succ]
  refine takeH 11 (some 6) #[true, true, true, true, true, true, true, true, true, true, true, true] rfl rfl (by kernel_rfl) (by kernel_rfl) (by kernel_rfl) (by kernel_rfl) (fun _ _ _ h => h) (by rfl) (v := ?_) ?_ (by assumption) ?_
  rotate_left
  · (intro w hSw; obtain ⟨s0, s1, s2, s3⟩ := hSw; go_simp; try with_reducible rfl)
  simp only [Act.put, List.setIfInBounds_toArray, List.set_cons_zero, List.set_cons_succ]
  refine wpAnyH_done (by kernel_rfl) ?_ _
  have hs4 : w2.heap.size ≤ w4.heap.size := Nat.le_trans hb3.size hb4.size
  have hb24 : Below w2.heap.size w2 w4 := ((Below.refl _ w2).drew).trans (hb3.trans (hb4.mono hb3.size))
  have hbx4 := HBX.out.below hb24 HBX.out.lt
  have hby4 := HBY.out.below hb24 HBY.out.lt
  have hb04 : Below n0 w w4 := hb02.trans (hb24.mono (Nat.le_of_lt HBX.out.lt))
  have HV4 := Lib.hid (HV2.out.below hb24)
  clear hb3 hb4 hb24 hb02 hs4 HBX HBY H4 HN1 HN2 HVD HV2
  clear hS
  obtain ⟨A, hA⟩ : ∃ A, A = nameL dl i := ⟨_, rfl⟩
  obtain ⟨B, hB⟩ : ∃ B, B = nameL el j := ⟨_, rfl⟩
  rw [← hA, ← hB]
  have HA := Lib.hid hA
  have HB := Lib.hid hB
  have ha0 : w4.cell? ⟨n0, 2, none⟩ = some (.string ⟨dl.toArray⟩) := hbx4.cell 2
  have ha1 : w4.cell? ⟨n0, 3, none⟩ = some (.int .i64 i) := hbx4.cell 3
  have ha2 : w4.cell? ⟨n0, 0, none⟩ = some (.int .i64 K1) := hbx4.cell 0
  have ha3 : w4.cell? ⟨n0, 1, none⟩ = some (.int .i64 N1) := hbx4.cell 1
  have ha4 : w4.cell? ⟨n0, 4, none⟩ = some (.string ⟨pl.toArray⟩) := hbx4.cell 4
  have hc0 : w4.cell? ⟨n1, 2, none⟩ = some (.string ⟨el.toArray⟩) := hby4.cell 2
  have hc1 : w4.cell? ⟨n1, 3, none⟩ = some (.int .i64 j) := hby4.cell 3
  have HBX := Lib.hid hbx4
  clear hA hB hbx4 hby4
  have hcs : ((A == B) = true ∧ (dl == el) = true ∧ (i == j) = true) ∨ ((A == B) = false ∧ (dl == el) = true ∧ (i == j) = false) ∨ ((A == B) = false ∧ (dl == el) = false) := by
    by_cases h1 : dl = el
    · by_cases h2 : i = j
      · exact .inl ⟨by rw [HA.out, HB.out, h1, h2]; exact beq_self_eq_true _, by simpa using h1, by simpa using h2⟩
      · exact .inr (.inl ⟨by rw [beq_eq_false_iff_ne, HA.out, HB.out]; intro e; exact h2 (name_inj _ _ _ _ e).2, by simpa using h1, by simpa using h2⟩)
    · exact .inr (.inr ⟨by rw [beq_eq_false_iff_ne, HA.out, HB.out]; intro e; exact h1 (name_inj _ _ _ _ e).1, by simpa using h1⟩)
  have hAp : ∀ W, Vars W → Calls Tryd.prog 13 #[.string ⟨A.toArray⟩] W fun e w' => ParseEnd A e ∧ Below W.heap.size W w' := fun W hv => parse_any ⟨A.toArray⟩ (show A.length ≤ 1000000 by rw [HA.out]; exact name_le dl i (by omega) HI.out) W hv
  have HP := Lib.hid hAp
  have HM := Lib.hid (makeL_any K1 N1 i dl pl HI.out w4 HV4.out)
  have hs4 : n0 ≤ w4.heap.size := Nat.le_of_lt HBX.out.lt
  clear hAp
  rcases hcs with ⟨hq1, hq2, hq3⟩ | ⟨hq1, hq2, hq3⟩ | ⟨hq1, hq2⟩
  all_goals
    go_wp2_with fail
    clear ha0 ha1 ha2 ha3 ha4 hc0 hc1
    refine HM.out.mono ?_
    rintro e w5 ⟨he, hb5⟩
    have hbx5 := HBX.out.below hb5 HBX.out.lt
    have hs5 := hb5.size
    have hb05 : Below n0 w w5 := hb04.trans (hb5.mono hs4)
    have HV5 := Lib.hid (HV4.out.below hb5)
    clear hb5
    rcases he with ⟨hmay, hfit, rfl⟩ | ⟨hmay, hbig, rfl⟩ | ⟨hmay, rfl⟩
    · unfold objV
      obtain ⟨X, hX⟩ : ∃ X, X = nameL (Shard.mk K1 N1 i dl pl).dig (Shard.mk K1 N1 i dl pl).idx := ⟨_, rfl⟩
      obtain ⟨Y, hY⟩ : ∃ Y, Y = Shard.data sumL (Shard.mk K1 N1 i dl pl) := ⟨_, rfl⟩
      rw [← hX, ← hY]
      clear hX hY
      obtain ⟨m1, m2, m3, m4, m5, m6⟩ := hmay
      simp only at m1 m2 m3 m4 m5 m6
      have hi0 : 0 ≤ i := m5
      have hi12 : i < 12 := by omega
      have hpr : Parsed A dl i.toNat := ⟨m4, by omega, by rw [HA.out]; congr 1; omega⟩
      have hAl : (A.length : Int) = 66 + i / 10 := by
        rw [hpr.2.2, name_len dl i.toNat m4 (by omega)]; omega
      have HPR := Lib.hid hpr
      have HIT := Lib.hid (show ((i.toNat : Nat) : Int) = i by omega)
      clear hpr m1 m2 m3 m4 m5 m6
      go_wp2_with fail
      have hv6 : Vars (w5.alloc (.cells #[.string ⟨X.toArray⟩, .string ⟨Y.toArray⟩] 27)) := HV5.out.alloc _
      have hbx6 := hbx5.alloc (.cells #[.string ⟨X.toArray⟩, .string ⟨Y.toArray⟩] 27)
      have hb06 : Below n0 w (w5.alloc (.cells #[.string ⟨X.toArray⟩, .string ⟨Y.toArray⟩] 27)) := hb05.alloc (by omega) _
      generalize w5.alloc (.cells #[.string ⟨X.toArray⟩, .string ⟨Y.toArray⟩] 27) = w6 at *
      refine (HP.out _ hv6).mono ?_
      rintro e w7 ⟨he, hb7⟩
      have he := parse_of he HPR.out
      rw [HIT.out] at he
      subst he
      have hbx7 := hbx6.below hb7 hbx6.lt
      have hb07 : Below n0 w w7 := hb06.trans (hb7.mono (Nat.le_of_lt hbx6.lt))
      have ha0 : w7.cell? ⟨n0, 2, none⟩ = some (.string ⟨dl.toArray⟩) := hbx7.cell 2
      have ha1 : w7.cell? ⟨n0, 3, none⟩ = some (.int .i64 i) := hbx7.cell 3
      clear hbx5 hbx6 hbx7 hb05 hb06 hb7 hv6 hb04
      go_wp2_with fail
      go_ret
      have hh := HN0.out
      exact ⟨rfl, by rw [← hh]; exact hb07⟩
    · exact absurd hbig (by show ¬ (65461 < pl.length); omega)
    · unfold objV
      clear hmay
      go_wp2_with fail
      have hv6 : Vars (w5.alloc (.cells #[.string ⟨[].toArray⟩, .string ⟨[].toArray⟩] 27)) := HV5.out.alloc _
      have hb06 : Below n0 w (w5.alloc (.cells #[.string ⟨[].toArray⟩, .string ⟨[].toArray⟩] 27)) := hb05.alloc (by omega) _
      have hs6 : n0 ≤ (w5.alloc (.cells #[.string ⟨[].toArray⟩, .string ⟨[].toArray⟩] 27)).heap.size := by simp; omega
      refine (HP.out _ hv6).mono ?_
      rintro e w7 ⟨he, hb7⟩
      obtain ⟨d, n, b, rfl⟩ := parse_shape he
      have hb07 : Below n0 w w7 := hb06.trans (hb7.mono hs6)
      go_wp2_with fail
      go_ret
      have hh := HN0.out
      exact ⟨rfl, by rw [← hh]; exact hb07⟩

theorem apart_any (K1 N1 : Int) (dig1 : ByteArray) (i : Int) (pay1 : ByteArray) (_ : I64 K1) (_ : I64 N1) (hI : I64 i) (K2 N2 : Int) (dig2 : ByteArray) (j : Int) (pay2 : ByteArray) (_ : I64 K2) (_ : I64 N2) (hJ : I64 j) (W : World) (hv : Vars W) :
    Calls Tryd.prog 7 #[.agg #[.int .i64 K1, .int .i64 N1, .string dig1, .int .i64 i, .string pay1], .agg #[.int .i64 K2, .int .i64 N2, .string dig2, .int .i64 j, .string pay2]] W fun e w' => e = .returned (.bool true) ∧ Below W.heap.size W w' := by
  have h := apartL_any K1 N1 dig1.data.toList i pay1.data.toList hI K2 N2 dig2.data.toList j pay2.data.toList hJ W hv
  rw [mk_toList, mk_toList, mk_toList, mk_toList] at h
  exact h

end Shd
end Go.Proofs.YtbcokpnehengfaaDoor
