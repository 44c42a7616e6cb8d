/-
  The walk of the examples that each law of the layer tries.
-/
import Derived.Test.YtbcokpnehengfaaDoorShdRead
namespace Go.Proofs.YtbcokpnehengfaaDoor
open Go.RowKit
namespace Shd

/-- 32 bytes of 0 -/
def Z32 : List UInt8 := List.replicate 32 0
theorem Z32_len : Z32.length = 32 := rfl

theorem parse_of {l d : List UInt8} {n : Nat} {e : Ending} (h : ParseEnd l e) (k : Parsed l d n) : e = .returned (.tuple #[.string ⟨d.toArray⟩, .int .i64 (n : Int), .bool true]) := by
  rcases h with ⟨d', n', h1, rfl⟩ | ⟨h1, _⟩
  · obtain ⟨rfl, rfl⟩ := h1.one k
    rfl
  · exact absurd k (h1 _ _)

theorem make_of {s : Shard} {e : Ending} (h : MakeEnd s e) (k : s.May) (hp : s.pay.length ≤ 65461) : e = .returned (.tuple #[objV (nameL s.dig s.idx) (s.data sumL), .int .i64 0]) := by
  rcases h with ⟨_, _, rfl⟩ | ⟨_, h, _⟩ | ⟨h, _⟩
  · rfl
  · omega
  · exact absurd k h

theorem read_of {nm l : List UInt8} {s : Shard} {e : Ending} (h : ReadEnd nm l e) (k : Sound sumL nm l s) : e = .returned (.tuple #[shV s, .int .i64 0]) := by
  rcases h with ⟨_, rfl⟩ | ⟨h, _⟩
  · rw [← k.eq sumL_len]
  · exact absurd (sound_looks sumL_len k) h

theorem name0 : nameL Z32 3 = List.replicate 64 48 ++ [46, 51] := by
  have h3 : Lib.itoa 3 = [51] := by
    have := Lib.itoa_nonneg 3
    rw [Lib.decDigits_one (by decide)] at this
    exact this
  unfold nameL
  rw [h3]
  rfl

def s0 : Shard := ⟨2, 3, 0, Z32, []⟩
theorem s0_may : s0.May := by unfold s0 Shard.May; exact ⟨by decide, by decide, by decide, Z32_len, by decide, by decide⟩

/-- a string of a new slice's zeros -/
theorem run_zeros (w : World) : (convert 43 9 (.slice (some ⟨w.heap.size, 0, none⟩) 32 32)).run Tryd.prog (w.alloc (.cells (Array.replicate 32 (Value.int .u8 0)) 5)) = .ok (.string ⟨Z32.toArray⟩) (w.alloc (.cells (Array.replicate 32 (Value.int .u8 0)) 5)) := by
  have h := Blk.new w 5 (Array.replicate 32 (Value.int .u8 0))
  rw [nums_zero] at h ⊢
  exact run_text (P := Tryd.prog) (src := 43) (e := 5) (dst := 9) (cap := 32) (r := #[]) (l := Z32) Tryd.underlying43 Tryd.underlying5 Tryd.underlying9 (by simpa [Z32] using h)

set_option maxRecDepth 100000 in
set_option maxHeartbeats 8000000 in
theorem awake_any (w : World) (hv : Vars w) : Calls Tryd.prog 8 #[] w fun e w' => e = .returned (.bool true) ∧ Below w.heap.size w w' := by
  have HV := Lib.hid hv
  clear hv
  have hmk : (Instr.makeSlice 43 (.int .i64 32) (.int .i64 32)).run Tryd.prog w = .ok (.slice (some ⟨w.heap.size, 0, none⟩) 32 32) (w.alloc (.cells (Array.replicate 32 (Value.int .u8 0)) 5)) := run_mk (P := Tryd.prog) (t := 43) (e := 5) (z := .int .u8 0) (bytes := 1) Tryd.underlying43 info5 rfl 32 (by omega) (by omega) w
  have hcv := run_zeros w
  go_enter Tryd.func8, Tryd.ntmps8
  go_wp2_with fail
  clear hmk hcv
  have hv1 := HV.out.alloc (.cells (Array.replicate 32 (Value.int .u8 0)) 5)
  have hb1 : Below w.heap.size w (w.alloc (.cells (Array.replicate 32 (Value.int .u8 0)) 5)) := (Below.refl _ _).alloc (Nat.le_refl _) _
  generalize w.alloc (.cells (Array.replicate 32 (Value.int .u8 0)) 5) = w1 at *
  have HV1 := Lib.hid hv1
  obtain ⟨N3, hN3⟩ : ∃ x, x = nameL Z32 3 := ⟨_, rfl⟩
  obtain ⟨N0, hN0⟩ : ∃ x, x = nameL Z32 0 := ⟨_, rfl⟩
  obtain ⟨D0, hD0⟩ : ∃ x, x = s0.data sumL := ⟨_, rfl⟩
  have hn : ∀ W, Vars W → Calls Tryd.prog 15 #[.string ⟨Z32.toArray⟩, .int .i64 3] W fun e w' => e = .returned (.string ⟨N3.toArray⟩) ∧ Below W.heap.size W w' := fun W hv => by
    rw [hN3]; exact name_any ⟨Z32.toArray⟩ (by decide) 3 ⟨by decide, by decide⟩ W hv
  have hp : ∀ W, Vars W → Calls Tryd.prog 13 #[.string ⟨N3.toArray⟩] W fun e w' => e = .returned (.tuple #[.string ⟨Z32.toArray⟩, .int .i64 3, .bool true]) ∧ Below W.heap.size W w' := fun W hv => by
    refine (parse_any ⟨N3.toArray⟩ (show N3.length ≤ 1000000 by rw [hN3, name0]; simp) W hv).mono ?_
    rintro e w' ⟨he, hb⟩
    exact ⟨parse_of (n := 3) he ⟨Z32_len, by decide, hN3⟩, hb⟩
  have hm : ∀ W, Vars W → Calls Tryd.prog 9 #[.agg #[.int .i64 2, .int .i64 3, .string ⟨Z32.toArray⟩, .int .i64 0, .string ⟨#[]⟩]] W fun e w' => e = .returned (.tuple #[.agg #[.string ⟨N0.toArray⟩, .string ⟨D0.toArray⟩], .int .i64 0]) ∧ Below W.heap.size W w' := fun W hv => by
    refine (make_any 2 3 0 ⟨Z32.toArray⟩ ⟨#[]⟩ ⟨by decide, by decide⟩ W hv).mono ?_
    rintro e w' ⟨he, hb⟩
    rw [hN0, hD0]
    exact ⟨make_of (s := s0) he s0_may (by decide), hb⟩
  have hr : ∀ W, Vars W → Calls Tryd.prog 11 #[.agg #[.string ⟨N0.toArray⟩, .string ⟨D0.toArray⟩]] W fun e w' => e = .returned (.tuple #[.agg #[.int .i64 2, .int .i64 3, .string ⟨Z32.toArray⟩, .int .i64 0, .string ⟨#[]⟩], .int .i64 0]) ∧ Below W.heap.size W w' := fun W hv => by
    refine (readL_any N0 D0 W hv).mono ?_
    rintro e w' ⟨he, hb⟩
    exact ⟨read_of (s := s0) he (by rw [hN0, hD0]; exact made_sound s0 s0_may (by decide)), hb⟩
  have l3 : N3.length = 66 := by rw [hN3, name0]; rfl
  have l64 : N3.take 64 = List.replicate 64 48 := by rw [hN3, name0]; rfl
  have d64 : N3.drop 64 = [46, 51] := by rw [hN3, name0]; rfl
  have lD : D0.length = 75 := by rw [hD0, data_len sumL_len s0 Z32_len]; rfl
  have HNm := Lib.hid hn
  have HP := Lib.hid hp
  have HM := Lib.hid hm
  have HR := Lib.hid hr
  have HL64 := Lib.hid l64
  have HD64 := Lib.hid d64
  clear hn hp hm hr l64 d64 hN3 hN0 hD0 hv1
  go_wp2_with (go_at_call 15; refine (HNm.out _ HV1.out).mono ?_; rintro e w2 ⟨rfl, hb2⟩; have HV2 := Lib.hid (HV1.out.below hb2))
  go_wp2_with (go_at_call 13; refine (HP.out _ HV2.out).mono ?_; rintro e w3 ⟨rfl, hb3⟩; have HV3 := Lib.hid (HV2.out.below hb3))
  go_wp2_with (go_at_call 9; refine (HM.out _ HV3.out).mono ?_; rintro e w4 ⟨rfl, hb4⟩; have HV4 := Lib.hid (HV3.out.below hb4))
  go_wp2_with fail
  have hO := Blk.new w4 27 #[.string ⟨N0.toArray⟩, .string ⟨D0.toArray⟩]
  have hv4 := HV4.out.alloc (.cells #[.string ⟨N0.toArray⟩, .string ⟨D0.toArray⟩] 27)
  have hs1 := hb1.size
  have hs2 := hb2.size
  have hs3 := hb3.size
  have hs4 := hb4.size
  have hb40 : Below w.heap.size w (w4.alloc (.cells #[.string ⟨N0.toArray⟩, .string ⟨D0.toArray⟩] 27)) := (hb1.trans ((hb2.mono (by omega)).trans ((hb3.mono (by omega)).trans (hb4.mono (by omega))))).alloc (by omega) _
  clear hb1 hb2 hb3 hb4
  generalize w4.alloc (.cells #[.string ⟨N0.toArray⟩, .string ⟨D0.toArray⟩] 27) = w4' at *
  refine (HR.out _ hv4).mono ?_
  rintro e w5 ⟨rfl, hb5⟩
  have hs5 := hb5.size
  have hlt4 := hO.lt
  have hO5 := hO.below hb5 hO.lt
  have o1 : w5.cell? ⟨w4.heap.size, 1, none⟩ = some (.string ⟨D0.toArray⟩) := hO5.cell 1
  have hlt := hO5.lt
  have hb50 : Below w.heap.size w w5 := hb40.trans (hb5.mono (by omega))
  have hs50 := hb50.size
  have x0 : ((⟨N3.toArray⟩ : ByteArray).extract 0 64).toList = List.replicate 64 48 := by
    rw [str_toList]
    have h1 : ((⟨N3.toArray⟩ : ByteArray).extract 0 64).data.toList = N3.take 64 := by simp
    rw [h1, HL64.out]
  have x1 : ((⟨N3.toArray⟩ : ByteArray).extract 64 66).toList = [46, 51] := by
    rw [str_toList]
    have h1 : ((⟨N3.toArray⟩ : ByteArray).extract 64 66).data.toList = (N3.drop 64).take 2 := by simp
    rw [h1, HD64.out]; rfl
  clear hO hO5 hv4 hb40 hb5 hs1 hs2 hs3 hs4 hs5 HNm HP HM HR HV1 HV2 HV3 HV4 HL64 HD64
  clear hlt4
  generalize w4.heap.size = q4 at *
  go_wp2_with fail
  go_ret
  exact ⟨rfl, hb50.alloc (by omega) _⟩

end Shd
end Go.Proofs.YtbcokpnehengfaaDoor
