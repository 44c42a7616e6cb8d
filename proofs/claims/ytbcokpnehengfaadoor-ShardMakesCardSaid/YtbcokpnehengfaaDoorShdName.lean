/-
  The walks of package shard: Name, Parse; what the package-level variables hold that they read.
-/
import Derived.Test.YtbcokpnehengfaaDoorShdHex
import Derived.WalkSmall
import Derived.Lib.AppendIntMem
namespace Go.Proofs.YtbcokpnehengfaaDoor
open Go.RowKit
namespace Shd

/-- what the library's variables hold -/
def Vars (w : World) : Prop :=
  (∃ m, w.cell? ⟨0, 0, none⟩ = some (.int .i64 m)) ∧ (∃ tp p, w.cell? ⟨1, 0, none⟩ = some (.iface tp p)) ∧
  (∃ tp p, w.cell? ⟨2, 0, none⟩ = some (.iface tp p)) ∧ Lib.TabIs Tryd.prog w "internal/strconv.uint64pow10" .u64 Lib.pow10Tab

theorem gPow : Tryd.prog.globalNamed "internal/strconv.uint64pow10" = some 3 := by kernel_rfl

theorem tab_lt {w : World} (h : Lib.TabIs Tryd.prog w "internal/strconv.uint64pow10" .u64 Lib.pow10Tab) : 3 < w.heap.size :=
  Lib.lt_of_cell (w := w) (h.cell gPow 0 (by decide))

theorem Vars.below {w w' : World} (h : Vars w) (hb : Below w.heap.size w w') : Vars w' := by
  obtain ⟨⟨m, h1⟩, ⟨t2, p2, h2⟩, ⟨t3, p3, h3⟩, h4⟩ := h
  refine ⟨⟨m, ?_⟩, ⟨t2, p2, ?_⟩, ⟨t3, p3, ?_⟩, ?_⟩
  · exact (hb.cell (show (⟨0, 0, none⟩ : Addr).block < w.heap.size from Lib.lt_of_cell h1)).trans h1
  · exact (hb.cell (show (⟨1, 0, none⟩ : Addr).block < w.heap.size from Lib.lt_of_cell h2)).trans h2
  · exact (hb.cell (show (⟨2, 0, none⟩ : Addr).block < w.heap.size from Lib.lt_of_cell h3)).trans h3
  · exact var?_below hb gPow (tab_lt h4) h4

/-- Vars at a name: the walk sees nothing of it -/
theorem Vars.drewN {w : World} (h : Vars w) (n : Nat) : Vars (w.drewN n) := h.below (below_drewN (Below.refl _ _) n)
theorem Vars.alloc {w : World} (h : Vars w) (o : Obj) : Vars (w.alloc o) := h.below ((Below.refl _ _).alloc (Nat.le_refl _) _)

/-- int's numbers -/
def I64 (n : Int) : Prop := -9223372036854775808 ≤ n ∧ n ≤ 9223372036854775807

theorem itoa_any (n : Int) (hn : I64 n) (w : World) (hv : Vars w) :
    Calls Tryd.prog 31 #[.int .i64 n] w fun e w' => e = .returned (.string ⟨(Lib.itoa n).toArray⟩) ∧ Below w.heap.size w w' := by
  refine (Tryd.strconv_Itoa n hn.1 hn.2 w hv.2.2.2).mono ?_
  rintro e w' ⟨rfl, k, os, rfl⟩
  exact ⟨rfl, Lib.below_grow _ _ (Nat.le_refl _) _ _⟩

theorem ba_append (a b : List UInt8) : (⟨a.toArray⟩ : ByteArray) ++ ⟨b.toArray⟩ = ⟨(a ++ b).toArray⟩ := by
  apply ByteArray.ext
  simp

set_option maxRecDepth 100000 in
set_option maxHeartbeats 2000000 in
theorem name_any (d : ByteArray) (hd : d.size ≤ 1000000) (n : Int) (hn : I64 n) (w : World) (hv : Vars w) :
    Calls Tryd.prog 15 #[.string d, .int .i64 n] w fun e w' => e = .returned (.string ⟨(nameL d.data.toList n).toArray⟩) ∧ Below w.heap.size w w' := by
  have hdl : d.data.toList.length = d.size := by simp
  have hl1 := hex_len d.data.toList
  have hl2 := itoa_le n hn.1 hn.2
  have HV := Lib.hid hv
  have HN := Lib.hid hn
  clear hv hn
  go_enter Tryd.func15, Tryd.ntmps15
  go_wp2_with (go_at_call 30; refine (hex_any d (by omega) w).mono ?_)
  rintro e w1 ⟨rfl, hb1⟩
  have HV1 := Lib.hid (HV.out.below hb1)
  go_wp2_with (go_at_call 31; refine (itoa_any n HN.out _ HV1.out).mono ?_)
  rintro e w2 ⟨rfl, hb2⟩
  go_wp2_with fail
  go_ret
  exact ⟨by rw [ba_append, ba_append]; unfold nameL; simp, hb1.trans (hb2.mono hb1.size)⟩

theorem cut_len (l sep : List UInt8) : (Lib.cut l sep).1.length ≤ l.length ∧ (Lib.cut l sep).2.1.length ≤ l.length := by
  unfold Lib.cut
  split
  · exact ⟨by rw [List.length_take]; omega, by rw [List.length_drop]; omega⟩
  · exact ⟨Nat.le_refl _, Nat.zero_le _⟩

/-- how Parse ends -/
def ParseEnd (l : List UInt8) (e : Ending) : Prop :=
  (∃ d n, Parsed l d n ∧ e = .returned (.tuple #[.string ⟨d.toArray⟩, .int .i64 (n : Int), .bool true])) ∨ ((∀ d n, ¬ Parsed l d n) ∧ e = .returned (.tuple #[.string ⟨#[]⟩, .int .i64 0, .bool false]))

theorem parsed_cut {l d : List UInt8} {n : Nat} (h : Parsed l d n) : Lib.cut l [46] = (hexL d, Lib.itoa (n : Int), true) ∧ unhexL (hexL d) = some d ∧ d.length = 32 ∧ Lib.atoiAll (Lib.itoa (n : Int)) = .ok (n : Int) ∧ n < 12 := by
  obtain ⟨h1, h2, rfl⟩ := h
  exact ⟨cut46 _ _ (hex_no46 d), unhex_hex d, h1, itoa_small n h2, h2⟩

theorem not_parsed_cut {l : List UInt8} (h : (Lib.cut l [46]).2.2 = false) (d : List UInt8) (n : Nat) : ¬ Parsed l d n := fun k => by
  obtain ⟨h1, _⟩ := parsed_cut k
  rw [h1] at h; cases h
theorem not_parsed_unhex {l : List UInt8} (h : unhexL (Lib.cut l [46]).1 = none) (d : List UInt8) (n : Nat) : ¬ Parsed l d n := fun k => by
  obtain ⟨h1, h2, _⟩ := parsed_cut k
  rw [h1] at h
  rw [h2] at h; cases h
theorem not_parsed_len (l x : List UInt8) (h : unhexL (Lib.cut l [46]).1 = some x) (hx : x.length ≠ 32) (d : List UInt8) (n : Nat) : ¬ Parsed l d n := fun k => by
  obtain ⟨h1, h2, h3, _⟩ := parsed_cut k
  rw [h1] at h
  rw [h2, Option.some.injEq] at h
  exact hx (h ▸ h3)
theorem not_parsed_num (l : List UInt8) (q : Lib.NumEnd Int) (h : Lib.atoiAll (Lib.cut l [46]).2.1 = q) (hq : ∀ v : Int, 0 ≤ v → v < 12 → q ≠ .ok v) (d : List UInt8) (n : Nat) : ¬ Parsed l d n := fun k => by
  obtain ⟨h1, h2, h3, h4, h5⟩ := parsed_cut k
  rw [h1] at h
  exact hq n (by omega) (by omega) (h ▸ h4)
theorem not_parsed_name (l x : List UInt8) (v : Int) (h : unhexL (Lib.cut l [46]).1 = some x) (h2 : Lib.atoiAll (Lib.cut l [46]).2.1 = .ok v) (hn : nameL x v ≠ l) (d : List UInt8) (n : Nat) : ¬ Parsed l d n := fun k => by
  obtain ⟨k1, k2, k3, k4, k5⟩ := parsed_cut k
  rw [k1] at h h2
  rw [k2, Option.some.injEq] at h
  rw [k4] at h2
  injection h2 with h2
  subst h; subst h2
  exact hn k.2.2.symm

theorem str_toList (s : ByteArray) : s.toList = s.data.toList := by
  rw [ByteArray.toList_eq]

/-- how Atoi ends -/
def AtoiEnd (l : List UInt8) (e : Ending) : Prop := (∃ v, Lib.atoiAll l = .ok v ∧ I64 v ∧ e = .returned (.tuple #[.int .i64 v, .nilIface])) ∨
  (∃ v N, (∀ u, Lib.atoiAll l ≠ .ok u) ∧ e = .returned (.tuple #[.int .i64 v, .iface 95 (.pointer (some ⟨N, 0, none⟩))]))

set_option maxRecDepth 100000 in
set_option maxHeartbeats 4000000 in
theorem parse_any (s : ByteArray) (hs : s.size ≤ 1000000) (w : World) (hv : Vars w) :
    Calls Tryd.prog 13 #[.string s] w fun e w' => ParseEnd s.data.toList e ∧ Below w.heap.size w w' := by
  obtain ⟨⟨m, hm⟩, ⟨t1, p1, hsy⟩, ⟨t2, p2, hrn⟩, htab⟩ := id hv
  have hsl : s.data.toList.length = s.size := by simp
  obtain ⟨hl1, hl2⟩ := cut_len s.data.toList [46]
  have HV := Lib.hid hv
  have hC : Calls Tryd.prog 26 #[.string s, .string ⟨#[46]⟩] w fun e w' => e = .returned (.tuple #[.string ⟨(Lib.cut s.data.toList [46]).1.toArray⟩, .string ⟨(Lib.cut s.data.toList [46]).2.1.toArray⟩, .bool (Lib.cut s.data.toList [46]).2.2]) ∧ Below w.heap.size w w' := by
    refine (Tryd.strings_Cut s ⟨#[46]⟩ m w (by omega) hm).mono ?_
    rintro e w' ⟨he, n, rfl⟩
    exact ⟨he, below_drewN (Below.refl _ _) n⟩
  have k1 := @not_parsed_cut s.data.toList
  have k2 := @not_parsed_unhex s.data.toList
  have k3 := not_parsed_len s.data.toList
  have k4 := not_parsed_num s.data.toList
  have k5 := not_parsed_name s.data.toList
  generalize Lib.cut s.data.toList [46] = q at *
  obtain ⟨qh, qn, qb⟩ := q
  simp only at hl1 hl2 hC k1 k2 k3 k4 k5
  have HC := Lib.hid hC
  have K1 := Lib.hid k1
  have K2 := Lib.hid k2
  have K3 := Lib.hid k3
  have K4 := Lib.hid k4
  have K5 := Lib.hid k5
  have hns : (⟨qn.toArray⟩ : ByteArray).size = qn.length := rfl
  have hhs : (⟨qh.toArray⟩ : ByteArray).size = qh.length := rfl
  -- Atoi, whatever it says
  have hA : ∀ w1, Below w.heap.size w w1 → Calls Tryd.prog 28 #[.string ⟨qn.toArray⟩] w1 fun e w' => AtoiEnd qn e ∧ Below w1.heap.size w1 w' := by
    intro w1 hb1
    rcases h : Lib.atoiAll qn with v | _ | _
    · refine (Tryd.strconv_Atoi_ok ⟨qn.toArray⟩ (by rw [hns]; omega) v h w1).mono ?_
      rintro e w' ⟨rfl, hw⟩
      have hbd := Lib.atoiAll_bounds h
      refine ⟨.inl ⟨v, h, ⟨by omega, by omega⟩, rfl⟩, ?_⟩
      rcases hw with rfl | ⟨t, rfl⟩
      · exact Below.refl _ _
      · exact Lib.bytesWorld_below _ _ _
    · refine (Tryd.strconv_Atoi_syntax ⟨qn.toArray⟩ (by rw [hns]; omega) h (.iface t1 p1) w1 ((hb1.cell (show (⟨1, 0, none⟩ : Addr).block < w.heap.size from Lib.lt_of_cell hsy)).trans hsy) (.inr ⟨_, _, rfl⟩)).mono ?_
      rintro e w' ⟨N, rfl, _, _, hb⟩
      exact ⟨.inr ⟨_, N, (fun u e => by rw [h] at e; cases e), rfl⟩, hb⟩
    · refine (Tryd.strconv_Atoi_range ⟨qn.toArray⟩ (by rw [hns]; omega) h (.iface t2 p2) w1 ((hb1.cell (show (⟨2, 0, none⟩ : Addr).block < w.heap.size from Lib.lt_of_cell hrn)).trans hrn) (.inr ⟨_, _, rfl⟩)).mono ?_
      rintro e w' ⟨N, rfl, _, _, hb⟩
      exact ⟨.inr ⟨_, N, (fun u e => by rw [h] at e; cases e), rfl⟩, hb⟩
  have HA := Lib.hid hA
  have hU := fun w1 => unhex_any ⟨qh.toArray⟩ (by rw [hhs]; omega) w1
  have HU := Lib.hid hU
  clear hC k1 k2 k3 k4 k5 hA hU hsy hrn htab hm hv hns hhs
  have hUx : ∃ (x : List UInt8) (c : Int), ((unhexL qh = some x ∧ c = 0) ∨ (unhexL qh = none ∧ c = 4)) ∧ ∀ w1, Calls Tryd.prog 27 #[.string ⟨qh.toArray⟩] w1 fun e w' => e = .returned (.tuple #[.string ⟨x.toArray⟩, .int .i64 c]) ∧ Below w1.heap.size w1 w' := by
    have h := HU.out
    unfold unhexEnd at h
    cases hx : unhexL qh with
    | none => exact ⟨[], 4, .inr ⟨rfl, rfl⟩, by simpa [hx] using h⟩
    | some x => exact ⟨x, 0, .inl ⟨rfl, rfl⟩, by simpa [hx] using h⟩
  obtain ⟨x, c, hxc, hUx⟩ := hUx
  have HUX := Lib.hid hUx
  have HCX := Lib.hid hxc
  have HHV := HV.out
  have HVW := Lib.hid HHV
  clear hUx HU HV hxc HHV
  go_enter Tryd.func13, Tryd.ntmps13
  go_wp2_with (go_at_call 26; refine HC.out.mono ?_; rintro e w1 ⟨rfl, hb1⟩)
  go_wp2_with (go_at_call 27; refine (HUX.out w1).mono ?_; rintro e w2 ⟨rfl, hb2⟩)
  have hb02 : Below w.heap.size w w2 := hb1.trans (hb2.mono hb1.size)
  clear hb1 hb2
  go_wp2_with fail
  refine (HA.out w2 hb02).mono ?_
  rintro e w3 ⟨he, hb3⟩
  have hb03 : Below w.heap.size w w3 := hb02.trans (hb3.mono hb02.size)
  clear hb02 hb3
  rcases he with ⟨v, hv, hvb, rfl⟩ | ⟨v, N, hv, rfl⟩
  · have HVV := Lib.hid hv
    have HVB := Lib.hid hvb
    clear hv hvb
    cases qb with
    | false =>
      go_wp2_with fail
      go_ret3
      exact ⟨.inr ⟨K1.out (by first | rfl | trivial), rfl⟩, hb03⟩
    | true =>
      rcases HCX.out with ⟨hx, rfl⟩ | ⟨hx, rfl⟩
      · have HX := Lib.hid hx
        clear hx
        by_cases h32 : x.length = 32
        · by_cases h0 : v < 0
          · go_wp2_with fail
            go_ret3
            exact ⟨.inr ⟨K4.out _ HVV.out (fun u h1 h2 e => by injection e; omega), rfl⟩, hb03⟩
          · have hv0 : 0 ≤ v := by omega
            by_cases h12 : 12 ≤ v
            · go_wp2_with fail
              go_ret3
              exact ⟨.inr ⟨K4.out _ HVV.out (fun u h1 h2 e => by injection e; omega), rfl⟩, hb03⟩
            · have hNm : Calls Tryd.prog 15 #[.string ⟨x.toArray⟩, .int .i64 v] w3 fun e w' => e = .returned (.string ⟨(nameL x v).toArray⟩) ∧ Below w3.heap.size w3 w' := name_any ⟨x.toArray⟩ (show x.length ≤ 1000000 by omega) v HVB.out w3 (HVW.out.below hb03)
              have HNM := Lib.hid hNm
              clear hNm
              go_wp2_with (go_at_call 15; refine HNM.out.mono ?_; rintro e w4 ⟨rfl, hb4⟩)
              · rename_i hcmp
                go_ret3
                refine ⟨.inr ⟨K5.out _ _ HX.out HVV.out (fun e => ?_), rfl⟩, hb03.trans (hb4.mono hb03.size)⟩
                rcases hcmp with hcmp | hcmp
                · omega
                · rw [e, str_toList] at hcmp; simp at hcmp
              · rename_i hcmp
                go_ret3
                obtain ⟨n, rfl⟩ : ∃ n : Nat, v = (n : Int) := ⟨v.toNat, by omega⟩
                refine ⟨.inl ⟨x, n, ⟨h32, by omega, ?_⟩, rfl⟩, hb03.trans (hb4.mono hb03.size)⟩
                have := hcmp.2
                rw [str_toList] at this
                exact (by simpa using this : nameL x (n : Int) = s.data.toList).symm
        · go_wp2_with fail
          go_ret3
          exact ⟨.inr ⟨K3.out _ HX.out h32, rfl⟩, hb03⟩
      · have HX := Lib.hid hx
        clear hx
        go_wp2_with fail
        go_ret3
        exact ⟨.inr ⟨K2.out HX.out, rfl⟩, hb03⟩
  · have HVV := Lib.hid hv
    clear hv
    cases qb with
    | false =>
      go_wp2_with fail
      go_ret3
      exact ⟨.inr ⟨K1.out (by first | rfl | trivial), rfl⟩, hb03⟩
    | true =>
      rcases HCX.out with ⟨hx, rfl⟩ | ⟨hx, rfl⟩
      · have HX := Lib.hid hx
        clear hx
        by_cases h32 : x.length = 32
        · go_wp2_with fail
          go_ret3
          exact ⟨.inr ⟨K4.out _ rfl (fun u h1 h2 e => HVV.out u e), rfl⟩, hb03⟩
        · go_wp2_with fail
          go_ret3
          exact ⟨.inr ⟨K3.out _ HX.out h32, rfl⟩, hb03⟩
      · have HX := Lib.hid hx
        clear hx
        go_wp2_with fail
        go_ret3
        exact ⟨.inr ⟨K2.out HX.out, rfl⟩, hb03⟩

end Shd
end Go.Proofs.YtbcokpnehengfaaDoor
