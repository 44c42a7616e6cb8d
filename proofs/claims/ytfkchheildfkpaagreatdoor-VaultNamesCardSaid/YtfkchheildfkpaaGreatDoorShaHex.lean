/-
 The walk of package sha: Hex.
-/
import Derived.Test.YtfkchheildfkpaaGreatDoorBuilder
import Derived.Test.YtfkchheildfkpaaGreatDoorShdPlain
import Derived.Deep.QuietTactic
import Derived.BigQuiet
import Derived.IntWalk
namespace Go.Proofs.YtfkchheildfkpaaGreatDoor
open Go.RowKit
namespace Shd
theorem digits_at (x : Nat) (h : x < 16) (h' : x < (⟨#[48, 49, 50, 51, 52, 53, 54, 55, 56, 57, 97, 98, 99, 100, 101, 102]⟩ : ByteArray).size) : (⟨#[48, 49, 50, 51, 52, 53, 54, 55, 56, 57, 97, 98, 99, 100, 101, 102]⟩ : ByteArray)[x] = hexd x := by
 have hc : x = 0 ∨ x = 1 ∨ x = 2 ∨ x = 3 ∨ x = 4 ∨ x = 5 ∨ x = 6 ∨ x = 7 ∨ x = 8 ∨ x = 9 ∨ x = 10 ∨ x = 11 ∨ x = 12 ∨ x = 13 ∨ x = 14 ∨ x = 15 := by omega
 rcases hc with rfl | rfl | rfl | rfl | rfl | rfl | rfl | rfl | rfl | rfl | rfl | rfl | rfl | rfl | rfl | rfl <;> rfl
set_option maxRecDepth 100000 in
set_option maxHeartbeats 2000000 in
theorem hex_any (s : ByteArray) (hs : s.size ≤ 70368744177664) (w : World) :
   Calls Tryz.prog 312 #[.string s] w fun e w' => e = .returned (.string ⟨(hexL s.data.toList).toArray⟩) ∧ Below w.heap.size w w' := by
 go_enter Tryz.func312, Tryz.ntmps312
 go_wp2_with fail
 have hB0 := Bld.new w
 have hb0 : Below w.heap.size w (w.alloc (.cells #[.pointer none, .slice none 0 0] 149)) := (Below.refl _ _).alloc (Nat.le_refl _) _
 obtain ⟨b, hb⟩ : ∃ b, b = w.heap.size := ⟨_, rfl⟩
 rw [← hb] at hB0 hb0 ⊢
 have hs0 : b < (w.alloc (.cells #[.pointer none, .slice none 0 0] 149)).heap.size := by simp; omega
 generalize (w.alloc (.cells #[.pointer none, .slice none 0 0] 149)) = w0 at *
 have HB := Lib.hid hb
 have hwb : w.heap.size ≤ b := by omega
 clear hb
 go_loopw [4, 7] (fun _ i wr => ∃ k : Nat, k ≤ s.size ∧ i = .int .i64 (k : Int) ∧ Bld b b (hexL (s.data.toList.take k)) wr ∧ Below b w wr ∧ b < wr.heap.size) (fun _ i _ => s.size - (intOf i).toNat)
 case atStart => exact ⟨0, by omega, rfl, hB0, hb0, hs0⟩
 case round =>
   obtain ⟨k, hk, rfl, hB, hbl, hsz⟩ := hrel
   clear hB0 hb0
   by_cases hlt : k < s.size
   · have hd : (k : Int) < (s.size : Int) := by omega
     have h1 : (0 : Int) ≤ (s[k].toNat : Int) / 16 := by omega
     have h2 : (s[k].toNat : Int) / 16 < 16 := by have := s[k].toNat_lt; omega
     have h3 : (0 : Int) ≤ (s[k].toNat : Int) % 16 := by omega
     have h4 : (s[k].toNat : Int) % 16 < 16 := by omega
     have hL : (hexL (s.data.toList.take k)).length ≤ 140737488355326 := by
       rw [hex_len]
       have := List.length_take_le k s.data.toList
       omega
     have hT : hexL (s.data.toList.take (k + 1)) = (hexL (s.data.toList.take k) ++ [hexd (s[k].toNat / 16)]) ++ [hexd (s[k].toNat % 16)] := by
       have e : s.data.toList.take (k + 1) = s.data.toList.take k ++ [s[k]] := by
         rw [List.take_succ_eq_append_getElem (by simpa using hlt)]; rfl
       rw [e, hex_append, List.append_assoc]; rfl
     have HT := Lib.hid hT
     clear hT
     have hs2 := s[k].toNat_lt
     go_wp2_with fail
     rw [digits_at _ (by omega)]
     generalize hexL (s.data.toList.take k) = L at *
     go_wp2_with (go_at_call 259; refine (wbyte_any b b L _ wr hB (by omega) (by omega)).mono ?_)
     rintro e w1 ⟨rfl, hB1, hb1, _⟩
     have hs1 := hb1.size
     go_wp2_with fail
     rw [digits_at _ (by omega)]
     go_wp2_with (go_at_call 259; refine (wbyte_any b b _ _ w1 hB1 (by simp; omega) (by omega)).mono ?_)
     rintro e w2 ⟨rfl, hB2, hb2, _⟩
     have hs2 := hb2.size
     go_wp2_with fail
     go_roundw
     case rel => exact ⟨k + 1, by omega, by go_num, by rw [HT.out]; exact hB2, hbl.trans (hb1.trans hb2), by omega⟩
     case measure => simp [intOf]; omega
   · have hk' : k = s.size := by omega
     subst hk'
     rw [List.take_of_length_le (by simp)] at hB
     have hT := text_any b b (hexL s.data.toList) wr hB (by omega)
     have HT := Lib.hid hT
     clear hT hB
     go_wp2_with (go_at_call 72; refine HT.out.mono ?_)
     rintro e w6 ⟨rfl, _, hb6, _⟩
     go_wp2_with fail
     go_ret
     have hh := HB.out
     exact ⟨rfl, by rw [← hh]; exact hbl.trans hb6⟩
end Shd
end Go.Proofs.YtfkchheildfkpaaGreatDoor
