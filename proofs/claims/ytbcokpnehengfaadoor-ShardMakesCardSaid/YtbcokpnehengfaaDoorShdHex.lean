/-
  The walks of package sha: Hex, Unhex.
-/
import Derived.Test.YtbcokpnehengfaaDoorBuilder
import Derived.Test.YtbcokpnehengfaaDoorShdPlain
import Derived.Deep.QuietTactic
import Derived.BigQuiet
import Derived.IntWalk
namespace Go.Proofs.YtbcokpnehengfaaDoor
open Go.RowKit
namespace Shd

theorem digits_at (x : Nat) (h : x < 16) (h' : x < (⟨#[48, 49, 50, 51, 52, 53, 54, 55, 56, 57, 97, 98, 99, 100, 101, 102]⟩ : ByteArray).size) : (⟨#[48, 49, 50, 51, 52, 53, 54, 55, 56, 57, 97, 98, 99, 100, 101, 102]⟩ : ByteArray)[x] = hexd x := by
  have hc : x = 0 ∨ x = 1 ∨ x = 2 ∨ x = 3 ∨ x = 4 ∨ x = 5 ∨ x = 6 ∨ x = 7 ∨ x = 8 ∨ x = 9 ∨ x = 10 ∨ x = 11 ∨ x = 12 ∨ x = 13 ∨ x = 14 ∨ x = 15 := by omega
  rcases hc with rfl | rfl | rfl | rfl | rfl | rfl | rfl | rfl | rfl | rfl | rfl | rfl | rfl | rfl | rfl | rfl <;> rfl

set_option maxRecDepth 100000 in
set_option maxHeartbeats 2000000 in
theorem hex_any (s : ByteArray) (hs : s.size ≤ 70368744177664) (w : World) :
    Calls Tryd.prog 30 #[.string s] w fun e w' => e = .returned (.string ⟨(hexL s.data.toList).toArray⟩) ∧ Below w.heap.size w w' := by
  go_enter Tryd.func30, Tryd.ntmps30
  go_wp2_with fail
  have hB0 := Bld.new w
  have hb0 : Below w.heap.size w (w.alloc (.cells #[.pointer none, .slice none 0 0] 52)) := (Below.refl _ _).alloc (Nat.le_refl _) _
  obtain ⟨b, hb⟩ : ∃ b, b = w.heap.size := ⟨_, rfl⟩
  rw [← hb] at hB0 hb0 ⊢
  have hs0 : b < (w.alloc (.cells #[.pointer none, .slice none 0 0] 52)).heap.size := by simp; omega
  generalize (w.alloc (.cells #[.pointer none, .slice none 0 0] 52)) = w0 at *
  have HB := Lib.hid hb
  have hwb : w.heap.size ≤ b := by omega
  clear hb
  go_loopw [4, 7] (fun _ i wr => ∃ k : Nat, k ≤ s.size ∧ i = .int .i64 (k : Int) ∧ Bld b b (hexL (s.data.toList.take k)) wr ∧ Below b w wr ∧ b < wr.heap.size) (fun _ i _ => s.size - (intOf i).toNat)
  case atStart => exact ⟨0, by omega, rfl, hB0, hb0, hs0⟩
  case round =>
    obtain ⟨k, hk, rfl, hB, hbl, hsz⟩ := hrel
    clear hB0 hb0
    by_cases hlt : k < s.size
    · have hd : (k : Int) < (s.size : Int) := by omega
      have h1 : (0 : Int) ≤ (s[k].toNat : Int) / 16 := by omega
      have h2 : (s[k].toNat : Int) / 16 < 16 := by have := s[k].toNat_lt; omega
      have h3 : (0 : Int) ≤ (s[k].toNat : Int) % 16 := by omega
      have h4 : (s[k].toNat : Int) % 16 < 16 := by omega
      have hL : (hexL (s.data.toList.take k)).length ≤ 140737488355326 := by
        rw [hex_len]
        have := List.length_take_le k s.data.toList
        omega
      have hT : hexL (s.data.toList.take (k + 1)) = (hexL (s.data.toList.take k) ++ [hexd (s[k].toNat / 16)]) ++ [hexd (s[k].toNat % 16)] := by
        have e : s.data.toList.take (k + 1) = s.data.toList.take k ++ [s[k]] := by
          rw [List.take_succ_eq_append_getElem (by simpa using hlt)]; rfl
        rw [e, hex_append, List.append_assoc]; rfl
      have HT := Lib.hid hT
      clear hT
      have hs2 := s[k].toNat_lt
      go_wp2_with fail
      rw [digits_at _ (by omega)]
      generalize hexL (s.data.toList.take k) = L at *
      go_wp2_with (go_at_call 41; refine (wbyte_any b b L _ wr hB (by omega) (by omega)).mono ?_)
      rintro e w1 ⟨rfl, hB1, hb1, _⟩
      have hs1 := hb1.size
      go_wp2_with fail
      rw [digits_at _ (by omega)]
      go_wp2_with (go_at_call 41; refine (wbyte_any b b _ _ w1 hB1 (by simp; omega) (by omega)).mono ?_)
      rintro e w2 ⟨rfl, hB2, hb2, _⟩
      have hs2 := hb2.size
      go_wp2_with fail
      go_roundw
      case rel => exact ⟨k + 1, by omega, by go_num, by rw [HT.out]; exact hB2, hbl.trans (hb1.trans hb2), by omega⟩
      case measure => simp [intOf]; omega
    · have hk' : k = s.size := by omega
      subst hk'
      rw [List.take_of_length_le (by simp)] at hB
      have hT := text_any b b (hexL s.data.toList) wr hB (by omega)
      have HT := Lib.hid hT
      clear hT hB
      go_wp2_with (go_at_call 23; refine HT.out.mono ?_)
      rintro e w6 ⟨rfl, _, hb6, _⟩
      go_wp2_with fail
      go_ret
      have hh := HB.out
      exact ⟨rfl, by rw [← hh]; exact hbl.trans hb6⟩

/-- the place of a sign among the digits -/
def ix (c : UInt8) : Int := match hexn c with
  | some n => (n : Int)
  | none => -1

def digitsB : ByteArray := ⟨#[48, 49, 50, 51, 52, 53, 54, 55, 56, 57, 97, 98, 99, 100, 101, 102]⟩

theorem index_ix (c : UInt8) : Lib.indexByte digitsB.data.toList c = ix c := by
  have h : ∀ n : Fin 256, Lib.indexByte digitsB.data.toList (UInt8.ofNat n.1) = ix (UInt8.ofNat n.1) := by decide +kernel
  have := h ⟨c.toNat, c.toNat_lt⟩
  simpa using this

theorem ix_any (c : UInt8) (w : World) : Calls Tryd.prog 40 #[.string digitsB, .int .u8 (c.toNat : Int)] w fun e w' => e = .returned (.int .i64 (ix c)) ∧ w' = w := by
  refine (Tryd.strings_IndexByte digitsB (c.toNat : Int) w).mono ?_
  rintro e w' ⟨rfl, rfl⟩
  refine ⟨?_, rfl⟩
  have : (c.toNat : Int).toNat.toUInt8 = c := by simp
  rw [this, index_ix]

theorem ix_some (c : UInt8) (p : Nat) (h : hexn c = some p) (w : World) : Calls Tryd.prog 40 #[.string digitsB, .int .u8 (c.toNat : Int)] w fun e w' => e = .returned (.int .i64 (p : Int)) ∧ w' = w := by
  have := ix_any c w
  unfold ix at this
  rw [h] at this
  exact this

theorem ix_none (c : UInt8) (h : hexn c = none) (w : World) : Calls Tryd.prog 40 #[.string digitsB, .int .u8 (c.toNat : Int)] w fun e w' => e = .returned (.int .i64 (-1)) ∧ w' = w := by
  have := ix_any c w
  unfold ix at this
  rw [h] at this
  exact this

theorem hexn_lt (c : UInt8) (p : Nat) (h : hexn c = some p) : p < 16 := by
  unfold hexn at h
  by_cases h1 : 48 ≤ c.toNat ∧ c.toNat ≤ 57
  · rw [if_pos h1, Option.some.injEq] at h; omega
  · rw [if_neg h1] at h
    by_cases h2 : 97 ≤ c.toNat ∧ c.toNat ≤ 102
    · rw [if_pos h2, Option.some.injEq] at h; omega
    · rw [if_neg h2] at h; cases h

theorem or_nib (p q : Nat) (hp : p < 16) (hq : q < 16) : bits .or .i64 ((p : Int) * 16) (q : Int) % 256 = ((UInt8.ofNat (p * 16 + q)).toNat : Int) := by
  have h : ∀ (a b : Fin 16), bits .or .i64 ((a.1 : Int) * 16) (b.1 : Int) % 256 = ((UInt8.ofNat (a.1 * 16 + b.1)).toNat : Int) := by decide +kernel
  exact h ⟨p, hp⟩ ⟨q, hq⟩

theorem cut_two (s : ByteArray) (k : Nat) (h : k + 1 < s.size) : s.data.toList = s.data.toList.take k ++ s[k] :: s[k + 1] :: s.data.toList.drop (k + 2) := by
  have hl : s.data.toList.length = s.size := by simp
  have e1 : s.data.toList.drop k = s[k] :: s.data.toList.drop (k + 1) := by
    rw [List.drop_eq_getElem_cons (by rw [hl]; omega)]; rfl
  have e2 : s.data.toList.drop (k + 1) = s[k + 1] :: s.data.toList.drop (k + 2) := by
    rw [List.drop_eq_getElem_cons (by rw [hl]; omega)]; rfl
  rw [← e2, ← e1, List.take_append_drop]

theorem take_two (s : ByteArray) (k : Nat) (h : k + 1 < s.size) : s.data.toList.take (k + 2) = s.data.toList.take k ++ [s[k], s[k + 1]] := by
  have hl : (s.data.toList.take k).length = k := by rw [List.length_take]; simp; omega
  conv => lhs; rw [cut_two s k h]
  rw [List.take_append, hl, List.take_of_length_le (by omega), show k + 2 - k = 2 by omega]; rfl

/-- how Unhex ends -/
def unhexEnd (l : List UInt8) : Ending := match unhexL l with
  | some r => .returned (.tuple #[.string ⟨r.toArray⟩, .int .i64 0])
  | none => .returned (.tuple #[.string ⟨#[]⟩, .int .i64 4])

set_option maxRecDepth 100000 in
set_option maxHeartbeats 2000000 in
theorem unhex_any (s : ByteArray) (hs : s.size ≤ 70368744177664) (w : World) :
    Calls Tryd.prog 27 #[.string s] w fun e w' => e = unhexEnd s.data.toList ∧ Below w.heap.size w w' := by
  have hsl : s.data.toList.length = s.size := by simp
  by_cases hodd : s.size % 2 = 0
  · have ho : (s.size : Int) % 2 = 0 := by omega
    go_enter Tryd.func27, Tryd.ntmps27
    go_wp2_with fail
    have hB0 := Bld.new w
    have hb0 : Below w.heap.size w (w.alloc (.cells #[.pointer none, .slice none 0 0] 52)) := (Below.refl _ _).alloc (Nat.le_refl _) _
    obtain ⟨b, hb⟩ : ∃ b, b = w.heap.size := ⟨_, rfl⟩
    rw [← hb] at hB0 hb0 ⊢
    have hs0 : b < (w.alloc (.cells #[.pointer none, .slice none 0 0] 52)).heap.size := by simp; omega
    generalize (w.alloc (.cells #[.pointer none, .slice none 0 0] 52)) = w0 at *
    have HB := Lib.hid hb
    have HO := Lib.hid hodd
    clear hb ho hodd
    go_loopw [5, 6, 7] (fun i _ _ wr => ∃ (k : Nat) (x : List UInt8), k ≤ s.size ∧ k % 2 = 0 ∧ i = .int .i64 (k : Int) ∧ unhexL (s.data.toList.take k) = some x ∧ Bld b b x wr ∧ Below b w wr ∧ b < wr.heap.size) (fun i _ _ _ => s.size - (intOf i).toNat)
    case atStart => exact ⟨0, [], by omega, rfl, rfl, rfl, hB0, hb0, hs0⟩
    case round =>
      obtain ⟨k, x, hk, hk2, rfl, hx, hB, hbl, hsz⟩ := hrel
      have HK2 := Lib.hid hk2
      have HX := Lib.hid hx
      clear hB0 hb0 hk2 hx
      by_cases hlt : k < s.size
      · have hk1 : k + 1 < s.size := by have := HO.out; have := HK2.out; omega
        have hd : (k : Int) < (s.size : Int) := by omega
        have hd1 : (k : Int) + 1 < (s.size : Int) := by omega
        have hd0 : (0 : Int) ≤ (k : Int) + 1 := by omega
        have hw1 : IntKind.i64.wrap ((k : Int) + 1) = (k : Int) + 1 := IntWalk.i64_in _ (by omega)
        have hn1 : ((k : Int) + 1).toNat = k + 1 := by omega
        have hxl := unhex_len _ _ HX.out
        rw [List.length_take, hsl] at hxl
        cases hp : hexn s[k] with
        | none =>
          have hbad : unhexL s.data.toList = none := by
            rw [cut_two s k hk1]
            exact unhex_bad _ _ _ _ (by rw [List.length_take, hsl, Nat.min_eq_left hk]; exact HK2.out) (.inl hp)
          have HBAD := Lib.hid hbad
          have HP := Lib.hid (ix_none _ hp)
          have HQ := Lib.hid (ix_any s[k + 1])
          clear hp hbad hxl
          go_wp2_with fail
          go_quiet ((go_at_call 40; first | exact Calls.quiet_of_same (HP.out _) | exact Calls.quiet_of_same (HQ.out _)))
          clear hw1
          have hbl' : Below b w (wr.drewN nq) := below_drewN hbl _
          generalize wr.drewN nq = w1 at *
          go_wp2_with fail
          go_ret2
          exact ⟨by unfold unhexEnd; rw [HBAD.out]; rfl, by have hh := HB.out; rw [← hh]; exact hbl'⟩
        | some p =>
          cases hq : hexn s[k + 1] with
          | none =>
            have hbad : unhexL s.data.toList = none := by
              rw [cut_two s k hk1]
              exact unhex_bad _ _ _ _ (by rw [List.length_take, hsl, Nat.min_eq_left hk]; exact HK2.out) (.inr hq)
            have HBAD := Lib.hid hbad
            have HP := Lib.hid (ix_some _ _ hp)
            have HQ := Lib.hid (ix_none _ hq)
            clear hp hq hbad hxl
            go_wp2_with fail
            go_quiet ((go_at_call 40; first | exact Calls.quiet_of_same (HP.out _) | exact Calls.quiet_of_same (HQ.out _)))
            clear hw1
            have hbl' : Below b w (wr.drewN nq) := below_drewN hbl _
            generalize wr.drewN nq = w1 at *
            go_wp2_with fail
            all_goals
              go_ret2
              exact ⟨by unfold unhexEnd; rw [HBAD.out]; rfl, by have hh := HB.out; rw [← hh]; exact hbl'⟩
          | some q =>
            have hpl := hexn_lt _ _ hp
            have hql := hexn_lt _ _ hq
            have hpq : (0 : Int) ≤ (p : Int) ∧ (0 : Int) ≤ (q : Int) := by omega
            have hne : unhexL (s.data.toList.take (k + 2)) = some (x ++ [UInt8.ofNat (p * 16 + q)]) := by
              rw [take_two s k hk1, unhex_two _ x _ _ HX.out, hp, hq]
            have HNE := Lib.hid hne
            have HP := Lib.hid (ix_some _ _ hp)
            have HQ := Lib.hid (ix_some _ _ hq)
            clear hp hq hne
            go_wp2_with fail
            go_quiet ((go_at_call 40; first | exact Calls.quiet_of_same (HP.out _) | exact Calls.quiet_of_same (HQ.out _)))
            clear hw1
            have hB' : Bld b b x (wr.drewN nq) := hB
            have hbl' : Below b w (wr.drewN nq) := below_drewN hbl _
            have hsz' : b < (wr.drewN nq).heap.size := hsz
            generalize wr.drewN nq = w1 at *
            go_wp2_with fail
            rw [or_nib p q hpl hql]
            go_wp2_with (go_at_call 41; refine (wbyte_any b b x _ w1 hB' (by omega) (by omega)).mono ?_)
            rintro e w2 ⟨rfl, hB2, hb2, _⟩
            have hs2 := hb2.size
            go_wp2_with fail
            go_roundw
            case rel => exact ⟨k + 2, _, by omega, by have := HK2.out; omega, by go_num, HNE.out, hB2, hbl'.trans hb2, by omega⟩
            case measure => simp [intOf]; omega
      · have hk' : k = s.size := by omega
        subst hk'
        have hx := HX.out
        rw [List.take_of_length_le (by rw [hsl]; exact Nat.le_refl _)] at hx
        have HX2 := Lib.hid hx
        have hT := text_any b b x wr hB (by omega)
        have HT := Lib.hid hT
        clear hT hB hx
        go_wp2_with (go_at_call 23; refine HT.out.mono ?_)
        rintro e w6 ⟨rfl, _, hb6, _⟩
        go_wp2_with fail
        go_ret2
        exact ⟨by unfold unhexEnd; rw [HX2.out]; rfl, by have hh := HB.out; rw [← hh]; exact hbl.trans hb6⟩
  · have ho : ¬ ((s.size : Int) % 2 = 0) := by omega
    have hn : unhexL s.data.toList = none := unhex_odd _ (by rw [hsl]; exact hodd)
    have HN := Lib.hid hn
    clear hn
    go_enter Tryd.func27, Tryd.ntmps27
    go_wp2_with fail
    go_ret2
    exact ⟨by unfold unhexEnd; rw [HN.out]; rfl, Below.refl _ _⟩

end Shd
end Go.Proofs.YtbcokpnehengfaaDoor
