/-
  The walks of the document's package strongboxref01: digit, number, Hex, Unhex.
-/
import Derived.Test.YtbcokpnehengfaaDoorOwn
import Derived.Test.YtbcokpnehengfaaDoorShdHex
namespace Go.Proofs.YtbcokpnehengfaaDoor
open Go.RowKit
namespace R1
open Shd

attribute [local go_sem ↓] appSem_eq

theorem info_u8 : (Tryd.prog.info? 5).map (fun i => (i.zero, i.size, i.bytes)) = some (some (.int .u8 0), 1, 1) := by kernel_rfl

theorem ret_int {k : IntKind} {a b : Int} (h : a = b) : Ending.returned (.int k a) = .returned (.int k b) := by rw [h]

theorem digit_any (n : Nat) (h : n < 16) (w : World) : Calls Tryd.prog 46 #[.int .u8 (n : Int)] w fun e w' => e = .returned (.int .u8 ((hexd n).toNat : Int)) ∧ w' = w := by
  have hd := hexd_toNat n h
  by_cases h10 : n < 10
  · rw [if_pos h10] at hd
    have h1 : (n : Int) < 10 := by omega
    rw [hd]
    clear hd
    go_enter Tryd.func46, Tryd.ntmps46
    go_wp2_with fail
    go_ret
    exact ⟨ret_int (by omega), rfl⟩
  · rw [if_neg h10] at hd
    have h1 : ¬ ((n : Int) < 10) := by omega
    rw [hd]
    clear hd
    go_enter Tryd.func46, Tryd.ntmps46
    go_wp2_with fail
    go_ret
    exact ⟨ret_int (by omega), rfl⟩

/-- the number of a digit, 16: it is none -/
def numb (c : UInt8) : Nat := match hexn c with
  | some n => n
  | none => 16

theorem hexd_is (n : Nat) (h : n < 16) (c : UInt8) : (hexd n = c) ↔ hexn c = some n := by
  constructor
  · rintro rfl; exact hexn_hexd n h
  · intro hc
    unfold hexn at hc
    have h1 := hexd_toNat n h
    apply UInt8.toNat_inj.1
    rw [h1]
    by_cases h2 : 48 ≤ c.toNat ∧ c.toNat ≤ 57
    · rw [if_pos h2] at hc
      injection hc with hc
      rw [if_pos (by omega)]; omega
    · rw [if_neg h2] at hc
      by_cases h3 : 97 ≤ c.toNat ∧ c.toNat ≤ 102
      · rw [if_pos h3] at hc
        injection hc with hc
        rw [if_neg (by omega)]; omega
      · rw [if_neg h3] at hc; cases hc

set_option maxRecDepth 100000 in
set_option maxHeartbeats 1000000 in
theorem number_any (c : UInt8) (w : World) : Calls Tryd.prog 44 #[.int .u8 (c.toNat : Int)] w fun e w' => e = .returned (.int .u8 ((numb c : Nat) : Int)) ∧ w' = w := by
  have hcl := c.toNat_lt
  go_enter Tryd.func44, Tryd.ntmps44
  go_wp2_with fail
  go_loop [3] (fun i => ∃ k : Nat, k ≤ 16 ∧ i = .int .u8 (k : Int) ∧ ∀ j, j < k → hexd j ≠ c) (fun i => 16 - (intOf i).toNat)
  case atStart => exact ⟨0, by omega, rfl, fun j h => absurd h (by omega)⟩
  case round =>
    obtain ⟨k, hk, rfl, hno⟩ := hrel
    have HNO := Lib.hid hno
    clear hno
    by_cases hlt : k < 16
    · have h1 : (k : Int) < 16 := by omega
      by_cases he : hexd k = c
      · have hr := (hexd_is k hlt c).1 he
        have hn : numb c = k := by unfold numb; rw [hr]
        have HN := Lib.hid hn
        have hb : (((hexd k).toNat : Int) == (c.toNat : Int)) = true := by rw [he]; simp
        clear hn hr he
        go_wp2_with (go_at_call 46; refine (digit_any k hlt _).mono ?_; rintro e w' ⟨rfl, rfl⟩)
        go_ret
        exact ⟨by rw [HN.out]; rfl, rfl⟩
      · have hb : (((hexd k).toNat : Int) == (c.toNat : Int)) = false := by
          rw [beq_eq_false_iff_ne]
          intro h
          exact he (UInt8.toNat_inj.1 (by omega))
        have HE := Lib.hid he
        clear he
        go_wp2_with (go_at_call 46; refine (digit_any k hlt _).mono ?_; rintro e w' ⟨rfl, rfl⟩)
        go_round
        case rel =>
          refine ⟨k + 1, by omega, by go_num, fun j hj => ?_⟩
          by_cases hjk : j = k
          · subst hjk; exact HE.out
          · exact HNO.out j (by omega)
        case measure => simp [intOf]; omega
    · have hn : numb c = 16 := by
        unfold numb
        cases hc : hexn c with
        | none => rfl
        | some n =>
          have hl := hexn_lt c n hc
          exact absurd ((hexd_is n hl c).2 hc) (HNO.out n (by omega))
      have HN := Lib.hid hn
      have h1 : ¬ ((k : Int) < 16) := by omega
      clear hn
      go_wp2_with fail
      go_ret
      exact ⟨by rw [HN.out]; rfl, rfl⟩

set_option maxRecDepth 100000 in
set_option maxHeartbeats 2000000 in
theorem hex_any (s : ByteArray) (hs : s.size ≤ 70368744177664) (w : World) :
    Calls Tryd.prog 32 #[.string s] w fun e w' => e = .returned (.string ⟨(hexL s.data.toList).toArray⟩) ∧ Below w.heap.size w w' := by
  go_enter Tryd.func32, Tryd.ntmps32
  go_wp2_with fail
  go_loopw [3, 4] (fun v i wr => ∃ k : Nat, k ≤ s.size ∧ i = .int .i64 (k : Int) ∧ wr.ownsRow w.heap.size 5 1 v (2 * k) (Lib.byteCells (hexL (s.data.toList.take k))) ∧ Below w.heap.size w wr) (fun _ i _ => s.size - (intOf i).toNat)
  case atStart => exact ⟨0, by omega, rfl, World.ownsRow_nil _ _ _ _, Below.refl _ _⟩
  case round =>
    obtain ⟨k, hk, rfl, hv, hbl⟩ := hrel
    by_cases hlt : k < s.size
    · have hd : (k : Int) < (s.size : Int) := by omega
      have hT : hexL (s.data.toList.take (k + 1)) = hexL (s.data.toList.take k) ++ [hexd (s[k].toNat / 16), hexd (s[k].toNat % 16)] := by
        have e : s.data.toList.take (k + 1) = s.data.toList.take k ++ [s[k]] := by
          rw [List.take_succ_eq_append_getElem (by simpa using hlt)]; rfl
        rw [e, hex_append]; rfl
      have HT := Lib.hid hT
      clear hT
      have hs2 := s[k].toNat_lt
      generalize hexL (s.data.toList.take k) = L at *
      have hi : (0 : Int) ≤ (k : Int) := by omega
      have h1 : ((s[k].toNat : Int) / 16) = ((s[k].toNat / 16 : Nat) : Int) := by omega
      have h2 : ((s[k].toNat : Int) % 16) = ((s[k].toNat % 16 : Nat) : Int) := by omega
      have h3 : ((s[k].toNat : Int).tmod 16) = ((s[k].toNat % 16 : Nat) : Int) := by rw [Int.tmod_eq_emod_of_nonneg (by omega)]; omega
      have d1 := digit_any (s[k].toNat / 16) (by omega)
      have d2 := digit_any (s[k].toNat % 16) (by omega)
      have p1 : s[k].toNat / 16 < 16 := by omega
      have p2 : s[k].toNat % 16 < 16 := by omega
      generalize s[k].toNat / 16 = p at *
      generalize s[k].toNat % 16 = q at *
      have w1 : IntKind.u8.wrap (p : Int) = (p : Int) := by rw [IntKind.wrap_u8]; omega
      have w2 : IntKind.u8.wrap (q : Int) = (q : Int) := by rw [IntKind.wrap_u8]; omega
      have HV := Lib.hid hv
      have HBL := Lib.hid hbl
      have D1 := Lib.hid d1
      have D2 := Lib.hid d2
      clear hv hbl d1 d2
      go_wp2_with fail
      refine Stab.wp_region_stable 12 26 [some 11, some 12, some 13, some 14, some 15, some 16, some 17, some 18, some 19, some 20, some 21, some 22] [[], [], [], [1, 2], [3], [4], [], [], [6, 7], [8], [9], [5, 10]] [0, 11] (fun _ => True) [Stab.eqv ?r5e0, Stab.eqv ?r5e1, Stab.eqv ?r5e2, Stab.eqv ?r5e3, Stab.eqv ?r5e4, Stab.eqv ?r5e5, Stab.eqv ?r5e6, Stab.eqv ?r5e7, Stab.eqv ?r5e8, Stab.eqv ?r5e9, Stab.eqv ?r5e10, Stab.newrow wr.heap.size 5 #[.int .u8 ((hexd p).toNat : Int), .int .u8 ((hexd q).toNat : Int)] 2 2] (by kernel_rfl) rfl (by kernel_rfl) (by kernel_rfl) (fun us => by simp only [Stab.putAll, Act.put, List.setIfInBounds_toArray, List.set_cons_zero, List.set_cons_succ]; rfl) trivial (fun _ _ _ _ => trivial) ?goals5 ?last5
      case goals5 =>
        simp only [List.take_succ_cons, List.take_zero]
        refine Stab.Goals.plain rfl rfl (fun us w K hE hS hp hK => ?_) ?_
        · go_simp
          refine hK _ _ ?_ (Stab.Ext.refl _)
          show _ = _
          with_reducible rfl
        refine Stab.Goals.plain rfl rfl (fun us w K hE hS hp hK => ?_) ?_
        · go_simp
          refine hK _ _ ?_ (Stab.Ext.refl _)
          show _ = _
          with_reducible rfl
        refine Stab.Goals.plain rfl rfl (fun us w K hE hS hp hK => ?_) ?_
        · go_simp
          refine hK _ _ ?_ (Stab.Ext.refl _)
          show _ = _
          with_reducible rfl
        refine Stab.Goals.plain rfl rfl (fun us w K hE hS hp hK => ?_) ?_
        · obtain ⟨h1, h2, -⟩ := hp
          replace h1 : us 1 = _ := h1
          replace h2 : us 2 = _ := h2
          go_simp
          refine hK _ _ ?_ (Stab.Ext.refl _)
          show _ = _
          with_reducible rfl
        refine Stab.Goals.plain rfl rfl (fun us w K hE hS hp hK => ?_) ?_
        · obtain ⟨h3, -⟩ := hp
          replace h3 : us 3 = _ := h3
          go_simp
          refine hK _ _ ?_ (Stab.Ext.refl _)
          show _ = _
          with_reducible rfl
        refine Stab.Goals.plain rfl rfl (fun us w K hE hS hp hK => ?_) ?_
        · obtain ⟨h4, -⟩ := hp
          replace h4 : us 4 = _ := h4
          go_simp
          go_wp2_with (go_at_call 46; ((with_reducible refine (D1.out _).mono ?_); rintro e w1 ⟨rfl, rfl⟩))
          refine hK _ _ ?_ (Stab.Ext.refl _)
          show _ = _
          with_reducible rfl
        refine Stab.Goals.plain rfl rfl (fun us w K hE hS hp hK => ?_) ?_
        · go_simp
          refine hK _ _ ?_ (Stab.Ext.refl _)
          show _ = _
          with_reducible rfl
        refine Stab.Goals.plain rfl rfl (fun us w K hE hS hp hK => ?_) ?_
        · go_simp
          refine hK _ _ ?_ (Stab.Ext.refl _)
          show _ = _
          with_reducible rfl
        refine Stab.Goals.plain rfl rfl (fun us w K hE hS hp hK => ?_) ?_
        · obtain ⟨h6, h7, -⟩ := hp
          replace h6 : us 6 = _ := h6
          replace h7 : us 7 = _ := h7
          go_simp
          refine hK _ _ ?_ (Stab.Ext.refl _)
          show _ = _
          with_reducible rfl
        refine Stab.Goals.plain rfl rfl (fun us w K hE hS hp hK => ?_) ?_
        · obtain ⟨h8, -⟩ := hp
          replace h8 : us 8 = _ := h8
          go_simp
          refine hK _ _ ?_ (Stab.Ext.refl _)
          show _ = _
          with_reducible rfl
        refine Stab.Goals.plain rfl rfl (fun us w K hE hS hp hK => ?_) ?_
        · obtain ⟨h9, -⟩ := hp
          replace h9 : us 9 = _ := h9
          go_simp
          go_wp2_with (go_at_call 46; ((with_reducible refine (D2.out _).mono ?_); rintro e w1 ⟨rfl, rfl⟩))
          refine hK _ _ ?_ (Stab.Ext.refl _)
          show _ = _
          with_reducible rfl
        refine Stab.Goals.plain rfl rfl (fun us w K hE hS hp hK => ?_) ?_
        · obtain ⟨h5, h10, -⟩ := hp
          replace h5 : us 5 = _ := h5
          replace h10 : us 10 = _ := h10
          go_simp
          exact hK _ _ ⟨_, rfl, hE.size, Blk.new _ _ _⟩ (Stab.Ext.alloc _ _)
        exact Stab.Goals.nil
      case last5 =>
        intro us w' hE _ hp
        obtain ⟨h0, ⟨gb, e11, hgb, hbk⟩, -⟩ := hp
        replace h0 : us 0 = _ := h0
        simp only [List.drop_succ_cons, List.drop_zero, h0, e11]
        have hbw := HBL.out.trans (Below.mono ((Stab.Ext.drew wr).trans hE) HBL.out.size)
        obtain ⟨g5, c5, w5, hrun, hown, hb5, _⟩ := own_app (c := 2) (m := 2) Tryd.underlying43 info_u8 rfl (by omega) (by omega) (own_ext HV.out ((Stab.Ext.drew wr).trans hE)) hbk rfl (by simp [Value.oneCell']) (by omega) (by omega) hbw.size
        have HO := Lib.hid hown
        have HB := Lib.hid (hbw.trans hb5)
        clear hown hb5 hbw hbk hE h0 e11
        go_wp2_with fail
        go_roundw
        case rel => exact ⟨k + 1, by omega, by go_num, by rw [HT.out, show 2 * (k + 1) = 2 * k + 2 by omega]; simpa [Lib.byteCells] using HO.out, HB.out⟩
        case measure => simp [intOf]; omega
    · have hk' : k = s.size := by omega
      subst hk'
      rw [List.take_of_length_le (by simp)] at hv
      have ht := own_text (P := Tryd.prog) (dst := 9) Tryd.underlying43 Tryd.underlying5 Tryd.underlying9 hv
      obtain ⟨A', cap', rfl, _⟩ := row_form hv
      clear hv
      go_wp2_with fail
      go_ret
      exact ⟨rfl, hbl⟩

set_option maxRecDepth 100000 in
set_option maxHeartbeats 2000000 in
theorem unhex_any (s : ByteArray) (hs : s.size ≤ 70368744177664) (w : World) :
    Calls Tryd.prog 29 #[.string s] w fun e w' => e = unhexEnd s.data.toList ∧ Below w.heap.size w w' := by
  have hsl : s.data.toList.length = s.size := by simp
  by_cases hodd : s.size % 2 = 0
  · have ho : (s.size : Int) % 2 = 0 := by omega
    go_enter Tryd.func29, Tryd.ntmps29
    go_wp2_with fail
    have HO := Lib.hid hodd
    clear ho hodd
    go_loopw [4, 5] (fun v i wr => ∃ (k : Nat) (x : List UInt8), k ≤ s.size ∧ k % 2 = 0 ∧ i = .int .i64 (k : Int) ∧ unhexL (s.data.toList.take k) = some x ∧ wr.ownsRow w.heap.size 5 1 v x.length (Lib.byteCells x) ∧ Below w.heap.size w wr) (fun _ i _ => s.size - (intOf i).toNat)
    case atStart => exact ⟨0, [], by omega, rfl, rfl, rfl, World.ownsRow_nil _ _ _ _, Below.refl _ _⟩
    case round =>
      obtain ⟨k, x, hk, hk2, rfl, hx, hv, hbl⟩ := hrel
      have HK2 := Lib.hid hk2
      have HX := Lib.hid hx
      clear hk2 hx
      by_cases hlt : k < s.size
      · have hk1 : k + 1 < s.size := by have := HO.out; have := HK2.out; omega
        have hd : (k : Int) < (s.size : Int) := by omega
        have hd1 : (k : Int) + 1 < (s.size : Int) := by omega
        have hd0 : (0 : Int) ≤ (k : Int) + 1 := by omega
        have hxl := unhex_len _ _ HX.out
        rw [List.length_take, hsl] at hxl
        have HXL := Lib.hid hxl
        have d1 := number_any s[k]
        have d2 := number_any s[k + 1]
        have HBAD : Hid (numb s[k] > 15 ∨ numb s[k + 1] > 15 → unhexL s.data.toList = none) := Lib.hid (fun h => by
          rw [cut_two s k hk1]
          refine unhex_bad _ _ _ _ (by rw [List.length_take, hsl, Nat.min_eq_left hk]; exact HK2.out) ?_
          rcases h with h | h
          · left
            unfold numb at h
            cases hp : hexn s[k] with
            | none => rfl
            | some p => rw [hp] at h; have := hexn_lt _ _ hp; simp at h; omega
          · right
            unfold numb at h
            cases hp : hexn s[k + 1] with
            | none => rfl
            | some p => rw [hp] at h; have := hexn_lt _ _ hp; simp at h; omega)
        have HNE : Hid (numb s[k] ≤ 15 → numb s[k + 1] ≤ 15 → unhexL (s.data.toList.take (k + 2)) = some (x ++ [UInt8.ofNat (numb s[k] * 16 + numb s[k + 1])])) := Lib.hid (fun h1 h2 => by
          unfold numb at h1 h2 ⊢
          cases hp : hexn s[k] with
          | none => rw [hp] at h1; simp at h1
          | some p =>
            cases hq : hexn s[k + 1] with
            | none => rw [hq] at h2; simp at h2
            | some q => rw [take_two s k hk1, unhex_two _ x _ _ HX.out, hp, hq])
        have D1 := Lib.hid d1
        have D2 := Lib.hid d2
        clear d1 d2 hxl
        have HV := Lib.hid hv
        have HBL := Lib.hid hbl
        clear hv hbl
        have hz : k / 2 + 1 ≤ 140737488355328 := by omega
        generalize numb s[k] = p at *
        generalize numb s[k + 1] = q at *
        by_cases hpq : p ≤ 15 ∧ q ≤ 15
        · obtain ⟨hp, hq⟩ := hpq
          have hne := HNE.out hp hq
          replace HNE := Lib.hid hne
          clear hne HBAD
          have t1 : ¬ ((15 : Int) < (p : Int)) := by omega
          have t2 : ¬ ((15 : Int) < (q : Int)) := by omega
          obtain ⟨g5, c5, w5, hrun, hown, hb5, _⟩ := own_app_new (c := 1) (m := 1) (C := #[.int .u8 ((p : Int) * 16 + (q : Int))]) Tryd.underlying43 info_u8 rfl (by omega) (by omega) HV.out rfl (by simp [Value.oneCell']) (by omega) (by have := HXL.out; omega) HBL.out.size
          have HO2 := Lib.hid hown
          have HB := Lib.hid (HBL.out.trans hb5)
          have e1 : (p : Int) * 16 % 256 = (p : Int) * 16 := by omega
          have e2 : ((p : Int) * 16 + (q : Int)) % 256 = (p : Int) * 16 + (q : Int) := by omega
          clear hown hb5
          obtain ⟨A', cap', hve, _⟩ := row_form HV.out
          subst hve
          go_wp2_with (first
            | (go_at_call 44; ((with_reducible refine (D1.out _).mono ?_); rintro e w' ⟨rfl, rfl⟩))
            | (go_at_call 44; ((with_reducible refine (D2.out _).mono ?_); rintro e w' ⟨rfl, rfl⟩)))
          go_roundw
          case rel =>
            refine ⟨k + 2, x ++ [UInt8.ofNat (p * 16 + q)], by omega, by have := HK2.out; omega, by go_num, HNE.out, ?_, HB.out⟩
            have hb : (UInt8.ofNat (p * 16 + q)).toNat = p * 16 + q := by rw [UInt8.toNat_ofNat']; omega
            rw [byteCells_snoc, List.length_append, hb]
            simpa using HO2.out
          case measure => simp [intOf]; omega
        · have hbad := HBAD.out (by omega)
          have HB2 := Lib.hid hbad
          clear hbad HBAD HNE HV
          by_cases hp : p ≤ 15
          · have t1 : ¬ ((15 : Int) < (p : Int)) := by omega
            have t2 : ((15 : Int) < (q : Int)) := by omega
            go_wp2_with (first
              | (go_at_call 44; ((with_reducible refine (D1.out _).mono ?_); rintro e w' ⟨rfl, rfl⟩))
              | (go_at_call 44; ((with_reducible refine (D2.out _).mono ?_); rintro e w' ⟨rfl, rfl⟩)))
            go_ret2
            exact ⟨by unfold unhexEnd; rw [HB2.out]; rfl, HBL.out⟩
          · have t1 : ((15 : Int) < (p : Int)) := by omega
            go_wp2_with (first
              | (go_at_call 44; ((with_reducible refine (D1.out _).mono ?_); rintro e w' ⟨rfl, rfl⟩))
              | (go_at_call 44; ((with_reducible refine (D2.out _).mono ?_); rintro e w' ⟨rfl, rfl⟩)))
            go_ret2
            exact ⟨by unfold unhexEnd; rw [HB2.out]; rfl, HBL.out⟩
      · have hk' : k = s.size := by omega
        subst hk'
        have hx := HX.out
        rw [List.take_of_length_le (by rw [hsl]; exact Nat.le_refl _)] at hx
        have HX2 := Lib.hid hx
        have ht := own_text (P := Tryd.prog) (dst := 9) Tryd.underlying43 Tryd.underlying5 Tryd.underlying9 hv
        obtain ⟨A', cap', rfl, _⟩ := row_form hv
        clear hv hx
        go_wp2_with fail
        go_ret2
        exact ⟨by unfold unhexEnd; rw [HX2.out]; rfl, hbl⟩
  · have ho : (s.size : Int) % 2 = 1 := by omega
    have hun : unhexL s.data.toList = none := unhex_odd _ (by rw [hsl]; omega)
    have HU := Lib.hid hun
    clear hun
    go_enter Tryd.func29, Tryd.ntmps29
    go_wp2_with fail
    go_ret2
    exact ⟨by unfold unhexEnd; rw [HU.out]; rfl, Below.refl _ _⟩

end R1
end Go.Proofs.YtbcokpnehengfaaDoor
