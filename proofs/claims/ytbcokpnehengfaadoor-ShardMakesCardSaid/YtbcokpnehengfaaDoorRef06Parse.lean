/-
  The walks of the document's package strongboxref06: Parse.
-/
import Derived.Test.YtbcokpnehengfaaDoorRef06
namespace Go.Proofs.YtbcokpnehengfaaDoor
open Go.RowKit
namespace R6
open Shd

theorem parsed_take {l d : List UInt8} {n : Nat} (h : Parsed l d n) : unhexL (l.take 64) = some d ∧ 66 ≤ l.length := by
  obtain ⟨h1, h2, rfl⟩ := h
  have hl : (hexL d).length = 64 := by rw [hex_len]; omega
  unfold nameL
  refine ⟨?_, ?_⟩
  · rw [← hl, List.take_left]; exact unhex_hex d
  · rw [List.length_append, List.length_cons, hl, itoa_len n h2]; omega

theorem unhex_32 {l d : List UInt8} (h : unhexL (l.take 64) = some d) (hl : 66 ≤ l.length) : d.length = 32 := by
  have := unhex_len _ _ h
  rw [List.length_take] at this
  omega

set_option maxRecDepth 100000 in
set_option maxHeartbeats 4000000 in
theorem parse_any (s : ByteArray) (hs : s.size ≤ 1000000) (w : World) :
    Calls Tryd.prog 14 #[.string s] w fun e w' => ParseEnd s.data.toList e ∧ Below w.heap.size w w' := by
  have hsl : s.data.toList.length = s.size := by simp
  by_cases h66 : 66 ≤ s.size
  · have t0 : ¬ ((s.size : Int) < 66) := by omega
    have hx : (s.extract 0 64).data.toList = s.data.toList.take 64 := by simp
    have hxs : (s.extract 0 64).size = 64 := by rw [ByteArray.size_extract]; omega
    have hU := R1.unhex_any (s.extract 0 64) (by omega) w
    rw [hx] at hU
    have i64 : (64 : Int) ≤ (s.size : Int) := by omega
    clear hx
    cases hu : unhexL (s.data.toList.take 64) with
    | none =>
      have hno : ∀ d n, ¬ Parsed s.data.toList d n := fun d n h => by
        have := (parsed_take h).1
        rw [hu] at this; cases this
      have HNO := Lib.hid hno
      unfold unhexEnd at hU
      rw [hu] at hU
      have HU := Lib.hid hU
      clear hno hU hu
      go_enter Tryd.func14, Tryd.ntmps14
      go_wp2_with (go_at_call 29; ((with_reducible refine HU.out.mono ?_); rintro e w1 ⟨rfl, hb1⟩))
      go_ret3
      exact ⟨.inr ⟨HNO.out, rfl⟩, hb1⟩
    | some d =>
      have hd32 := unhex_32 hu (by omega)
      have hone : ∀ d' n, Parsed s.data.toList d' n → d' = d := fun d' n h => by
        have := (parsed_take h).1
        rw [hu] at this
        injection this with this
        exact this.symm
      have HONE := Lib.hid hone
      unfold unhexEnd at hU
      rw [hu] at hU
      have HU := Lib.hid hU
      have HNM := Lib.hid (fun (i : Nat) (hi : i < 12) => name_any ⟨d.toArray⟩ (show d.length ≤ 1000000 by omega) (i : Int) ⟨by omega, by omega⟩)
      have H32 := Lib.hid hd32
      clear hone hU hu hd32
      go_enter Tryd.func14, Tryd.ntmps14
      go_wp2_with (go_at_call 29; ((with_reducible refine HU.out.mono ?_); rintro e w1 ⟨rfl, hb1⟩))
      go_loopw [7] (fun i wr => ∃ k : Nat, k ≤ 12 ∧ i = .int .i64 (k : Int) ∧ (∀ j : Nat, j < k → nameL d (j : Int) ≠ s.data.toList) ∧ Below w.heap.size w wr) (fun i _ => 12 - (intOf i).toNat)
      case atStart => exact ⟨0, by omega, rfl, fun j h => absurd h (by omega), hb1⟩
      case round =>
        obtain ⟨k, hk, rfl, hno, hbl⟩ := hrel
        have HNO := Lib.hid hno
        clear hno hb1
        by_cases hlt : k < 12
        · have t1 : (k : Int) < 12 := by omega
          have HN := Lib.hid (HNM.out k hlt wr)
          by_cases he : nameL d (k : Int) = s.data.toList
          · have hb : (nameL d (k : Int) == s.toList) = true := by rw [str_toList, he]; simp
            have HE := Lib.hid he
            clear he
            go_wp2_with (go_at_call 16; ((with_reducible refine HN.out.mono ?_); rintro e w2 ⟨rfl, hb2⟩))
            go_ret3
            exact ⟨.inl ⟨d, k, ⟨H32.out, hlt, HE.out.symm⟩, rfl⟩, hbl.trans (hb2.mono hbl.size)⟩
          · have hb : (nameL d (k : Int) == s.toList) = false := by rw [str_toList, beq_eq_false_iff_ne]; exact he
            have HE := Lib.hid he
            clear he
            go_wp2_with (go_at_call 16; ((with_reducible refine HN.out.mono ?_); rintro e w2 ⟨rfl, hb2⟩))
            go_roundw
            case rel =>
              refine ⟨k + 1, by omega, by go_num, fun j hj => ?_, hbl.trans (hb2.mono hbl.size)⟩
              by_cases hjk : j = k
              · subst hjk; exact HE.out
              · exact HNO.out j (by omega)
            case measure => simp [intOf]; omega
        · have t1 : ¬ ((k : Int) < 12) := by omega
          go_wp2_with fail
          go_ret3
          exact ⟨.inr ⟨fun d' n h => by
            have h1 := HONE.out d' n h
            subst h1
            exact HNO.out n (by have := h.2.1; omega) h.2.2.symm, rfl⟩, hbl⟩
  · have t0 : (s.size : Int) < 66 := by omega
    have hno : ∀ d n, ¬ Parsed s.data.toList d n := fun d n h => by
      have := (parsed_take h).2
      omega
    have HNO := Lib.hid hno
    clear hno
    go_enter Tryd.func14, Tryd.ntmps14
    go_wp2_with fail
    go_ret3
    exact ⟨.inr ⟨HNO.out, rfl⟩, Below.refl _ _⟩

end R6
end Go.Proofs.YtbcokpnehengfaaDoor
