/-
  The walk of ShardNames.
-/
import Derived.Test.YtbcokpnehengfaaDoorShdApart
namespace Go.Proofs.YtbcokpnehengfaaDoor
open Go.RowKit
namespace Shd

/-- the code of ok -/
def HoldK (ok : Nat) (W : World) : Prop := W.cell? ⟨ok, 0, none⟩ = some (.int .i64 2) ∧ W.cell? ⟨ok, 1, none⟩ = some (.int .i64 3)
theorem HoldK.alloc {ok : Nat} {W : World} (h : HoldK ok W) (o : Obj) : HoldK ok (W.alloc o) := by
  obtain ⟨h0, h1⟩ := h
  have hb : Below W.heap.size W (W.alloc o) := (Below.refl _ _).alloc (Nat.le_refl _) _
  exact ⟨(hb.cell (Lib.lt_of_cell h0)).trans h0, (hb.cell (Lib.lt_of_cell h1)).trans h1⟩

/-- many bytes of 0 -/
def P0 : List UInt8 := List.replicate 65461 0
theorem P0_len : P0.length = 65461 := List.length_replicate ..

theorem make_zeros (w : World) : ∃ (P : List UInt8) (w' : World), P.length = 65461 ∧ (Instr.makeSlice 43 (.int .i64 65461) (.int .i64 65461)).run Tryd.prog w = .ok (.slice (some ⟨w.heap.size, 0, none⟩) 65461 65461) w' ∧
    (convert 43 9 (.slice (some ⟨w.heap.size, 0, none⟩) 65461 65461)).run Tryd.prog w' = .ok (.string ⟨P.toArray⟩) w' ∧ Below w.heap.size w w' := by
  have h := Blk.new w 5 (Array.replicate 65461 (Value.int .u8 0))
  refine ⟨P0, w.alloc (.cells (Array.replicate 65461 (Value.int .u8 0)) 5), P0_len, ?_, ?_, (Below.refl _ _).alloc (Nat.le_refl _) _⟩
  · exact run_mk (P := Tryd.prog) (t := 43) (e := 5) (z := .int .u8 0) (bytes := 1) Tryd.underlying43 info5 rfl 65461 (by omega) (by omega) w
  · rw [nums_zero] at h ⊢
    have hl : P0.length = 65461 := P0_len
    have h2 := run_text (P := Tryd.prog) (src := 43) (e := 5) (dst := 9) (cap := 65461) (r := #[]) (l := P0) Tryd.underlying43 Tryd.underlying5 Tryd.underlying9 (g := w.heap.size) (w := w.alloc (.cells (nums (List.replicate 65461 0)) 5)) (t := 5) (by rw [Array.append_empty]; exact h)
    rw [hl] at h2
    exact h2

theorem no_parse {x : List UInt8} (hx : ∀ n : Nat, n < 12 → Lib.itoa (n : Int) ≠ x) (d : List UInt8) (n : Nat) : ¬ Parsed (hexL Z32 ++ 46 :: x) d n := fun ⟨_, h2, h3⟩ => by
  obtain ⟨_, h⟩ := split46 _ _ _ _ (hex_no46 Z32) (hex_no46 d) h3
  exact hx n h2 h.symm

theorem itoa_lo (n : Nat) (h : n < 10) : Lib.itoa (n : Int) = [UInt8.ofNat (48 + n)] := by rw [Lib.itoa_nonneg, Lib.decDigits_one h]
theorem itoa_hi (n : Nat) (h1 : ¬ n < 10) (h2 : n < 12) : Lib.itoa (n : Int) = [UInt8.ofNat (48 + n / 10), UInt8.ofNat (48 + n % 10)] := by rw [Lib.itoa_nonneg, Lib.decDigits_two h1 (by omega)]

theorem not_03 (n : Nat) (h : n < 12) : Lib.itoa (n : Int) ≠ [48, 51] := by
  by_cases h1 : n < 10
  · rw [itoa_lo n h1]; simp
  · rw [itoa_hi n h1 h]
    have hc : n = 10 ∨ n = 11 := by omega
    rcases hc with rfl | rfl <;> decide
theorem not_12 (n : Nat) (h : n < 12) : Lib.itoa (n : Int) ≠ [49, 50] := by
  by_cases h1 : n < 10
  · rw [itoa_lo n h1]; simp
  · rw [itoa_hi n h1 h]
    have hc : n = 10 ∨ n = 11 := by omega
    rcases hc with rfl | rfl <;> decide
theorem not_no (n : Nat) (h : n < 12) : Lib.itoa (n : Int) ≠ [] := by
  by_cases h1 : n < 10
  · rw [itoa_lo n h1]; simp
  · rw [itoa_hi n h1 h]; simp
theorem not_neg (n : Nat) (h : n < 12) : Lib.itoa (n : Int) ≠ [45, 49] := by
  by_cases h1 : n < 10
  · rw [itoa_lo n h1]; simp
  · rw [itoa_hi n h1 h]
    have hc : n = 10 ∨ n = 11 := by omega
    rcases hc with rfl | rfl <;> decide
theorem yes_11 : Parsed (hexL Z32 ++ 46 :: [49, 49]) Z32 11 := ⟨Z32_len, by decide, by
  unfold nameL
  have : Lib.itoa ((11 : Nat) : Int) = [49, 49] := itoa_hi 11 (by decide) (by decide)
  rw [this]⟩

theorem parse_no {l : List UInt8} {e : Ending} (h : ParseEnd l e) (k : ∀ d n, ¬ Parsed l d n) : e = .returned (.tuple #[.string ⟨#[]⟩, .int .i64 0, .bool false]) := by
  rcases h with ⟨d, n, h, _⟩ | ⟨_, rfl⟩
  · exact absurd h (k _ _)
  · rfl

theorem make_not {s : Shard} {e : Ending} (h : MakeEnd s e) (k : ¬ s.May) : e = .returned (.tuple #[objV [] [], .int .i64 1]) := by
  rcases h with ⟨h, _⟩ | ⟨h, _⟩ | ⟨_, rfl⟩
  · exact absurd h k
  · exact absurd h k
  · rfl
theorem make_big {s : Shard} {e : Ending} (h : MakeEnd s e) (k : s.May) (hp : 65461 < s.pay.length) : e = .returned (.tuple #[objV [] [], .int .i64 40]) := by
  rcases h with ⟨_, h, _⟩ | ⟨_, _, rfl⟩ | ⟨h, _⟩
  · omega
  · rfl
  · exact absurd k h

theorem ok_may (P : List UInt8) : (⟨2, 3, 2, Z32, P⟩ : Shard).May := ⟨show (1 : Int) ≤ 2 by decide, show (2 : Int) ≤ 3 by decide, show (3 : Int) ≤ 12 by decide, Z32_len, show (0 : Int) ≤ 2 by decide, show (2 : Int) < 3 by decide⟩

/-- eight shards that may not be -/
def Bad (k : Nat) : Shard := [⟨0, 0, 0, Z32, []⟩, ⟨0, 1, 0, Z32, []⟩, ⟨2, 1, 0, Z32, []⟩, ⟨1, 13, 0, Z32, []⟩, ⟨2, 3, 0, Z32.tail, []⟩, ⟨2, 3, 0, Z32 ++ [120], []⟩, ⟨2, 3, 3, Z32, []⟩, (⟨2, 3, -1, Z32, []⟩ : Shard)].getD k ⟨0, 0, 0, [], []⟩
theorem Bad_not (k : Nat) (h : k < 8) : ¬ (Bad k).May := by
  have hc : k = 0 ∨ k = 1 ∨ k = 2 ∨ k = 3 ∨ k = 4 ∨ k = 5 ∨ k = 6 ∨ k = 7 := by omega
  rcases hc with rfl | rfl | rfl | rfl | rfl | rfl | rfl | rfl
  · intro h; exact absurd h.1 (by decide)
  · intro h; exact absurd h.1 (by decide)
  · intro h; exact absurd h.2.1 (by decide)
  · intro h; exact absurd h.2.2.1 (by decide)
  · intro h; exact absurd h.2.2.2.1 (by decide)
  · intro h; exact absurd h.2.2.2.1 (by decide)
  · intro h; exact absurd h.2.2.2.2.2 (by decide)
  · intro h; exact absurd h.2.2.2.2.1 (by decide)

/-- what stands while ShardNames goes round -/
def NamesIn (ok ar : Nat) (w W : World) : Prop :=
  Blk W ok 25 #[.int .i64 2, .int .i64 3, .string ⟨Z32.toArray⟩, .int .i64 2, .string ⟨#[]⟩] ∧ Blk W ar 25 #[.int .i64 0, .int .i64 0, .string ⟨Z32.toArray⟩, .int .i64 0, .string ⟨#[]⟩, .int .i64 0, .int .i64 1, .string ⟨Z32.toArray⟩, .int .i64 0, .string ⟨#[]⟩, .int .i64 2, .int .i64 1, .string ⟨Z32.toArray⟩, .int .i64 0, .string ⟨#[]⟩, .int .i64 1, .int .i64 13, .string ⟨Z32.toArray⟩, .int .i64 0, .string ⟨#[]⟩, .int .i64 2, .int .i64 3, .string ⟨Z32.tail.toArray⟩, .int .i64 0, .string ⟨#[]⟩, .int .i64 2, .int .i64 3, .string ⟨(Z32 ++ [120]).toArray⟩, .int .i64 0, .string ⟨#[]⟩, .int .i64 2, .int .i64 3, .string ⟨Z32.toArray⟩, .int .i64 3, .string ⟨#[]⟩, .int .i64 2, .int .i64 3, .string ⟨Z32.toArray⟩, .int .i64 (-1), .string ⟨#[]⟩] ∧ Below w.heap.size w W ∧ Vars W

theorem names_keep {ok ar : Nat} {w W W' : World} (h : NamesIn ok ar w W) (hb : Below W.heap.size W W') : NamesIn ok ar w W' :=
  ⟨h.1.below hb h.1.lt, h.2.1.below hb h.2.1.lt, h.2.2.1.trans (hb.mono h.2.2.1.size), h.2.2.2.below hb⟩
theorem names_alloc {ok ar : Nat} {w W : World} (h : NamesIn ok ar w W) (_hs : w.heap.size ≤ W.heap.size) (o : Obj) : NamesIn ok ar w (W.alloc o) := names_keep h ((Below.refl _ _).alloc (Nat.le_refl _) _)

set_option maxRecDepth 100000 in
set_option maxHeartbeats 16000000 in
theorem names_any (w : World) (hv : Vars w) : Calls Tryd.prog 4 #[] w fun e w' => e = .returned (.bool true) ∧ Below w.heap.size w w' := by
  have HV := Lib.hid hv
  have HV00 := Lib.hid hv
  clear hv
  have hmk : (Instr.makeSlice 43 (.int .i64 32) (.int .i64 32)).run Tryd.prog w = .ok (.slice (some ⟨w.heap.size, 0, none⟩) 32 32) (w.alloc (.cells (Array.replicate 32 (Value.int .u8 0)) 5)) := run_mk (P := Tryd.prog) (t := 43) (e := 5) (z := .int .u8 0) (bytes := 1) Tryd.underlying43 info5 rfl 32 (by omega) (by omega) w
  have hcv := run_zeros w
  go_enter Tryd.func4, Tryd.ntmps4
  go_wp2_with fail
  clear hmk hcv
  have hO := Blk.new (w.alloc (.cells (Array.replicate 32 (Value.int .u8 0)) 5)) 25 #[.int .i64 2, .int .i64 3, .string ⟨Z32.toArray⟩, .int .i64 2, .string ⟨#[]⟩]
  have hb1 : Below w.heap.size w ((w.alloc (.cells (Array.replicate 32 (Value.int .u8 0)) 5)).alloc (.cells #[.int .i64 2, .int .i64 3, .string ⟨Z32.toArray⟩, .int .i64 2, .string ⟨#[]⟩] 25)) := ((Below.refl _ _).alloc (Nat.le_refl _) _).alloc (by simp) _
  have hsz : (w.alloc (.cells (Array.replicate 32 (Value.int .u8 0)) 5)).heap.size = w.heap.size + 1 := by simp
  rw [hsz] at hO
  clear hsz
  have hv1 : Vars ((w.alloc (.cells (Array.replicate 32 (Value.int .u8 0)) 5)).alloc (.cells #[.int .i64 2, .int .i64 3, .string ⟨Z32.toArray⟩, .int .i64 2, .string ⟨#[]⟩] 25)) := (HV.out.alloc _).alloc _
  obtain ⟨ok, hok⟩ : ∃ ok, ok = w.heap.size + 1 := ⟨_, rfl⟩
  rw [← hok] at hO ⊢
  have hok0 : w.heap.size < ok := by omega
  clear hok
  generalize (w.alloc (.cells (Array.replicate 32 (Value.int .u8 0)) 5)).alloc (.cells #[.int .i64 2, .int .i64 3, .string ⟨Z32.toArray⟩, .int .i64 2, .string ⟨#[]⟩] 25) = w1 at *
  have hk : HoldK ok w1 := ⟨hO.cell 0, hO.cell 1⟩
  have HK := Lib.hid hk
  have HO := Lib.hid hO
  have HV1 := Lib.hid hv1
  have HB1 := Lib.hid hb1
  have hz : Z32.length = 32 := Z32_len
  have hx1 : (⟨Z32.toArray⟩ : ByteArray).extract 1 32 = ⟨(Z32.drop 1).toArray⟩ := by
    apply ByteArray.ext; apply Array.toList_inj.1; simp [Z32]
  have hx2 : (⟨Z32.toArray⟩ : ByteArray) ++ ⟨#[120]⟩ = ⟨(Z32 ++ [120]).toArray⟩ := ba_append Z32 [120]
  clear hk hO hv1 hb1 HV
  refine startN (S := HoldK ok) 32 #[false, false, false, false, false, false, false, false, false, false, false, false, false, false, false, false, false, false, false, false, false, false, false, false, false, false, false, false, false, false, false, false] (by kernel_rfl) (by kernel_rfl) (by kernel_rfl) HK.out (fun hS => ?_)
  refine takeH 0 (some 34) #[true, false, false, false, false, false, false, false, false, false, false, false, false, false, false, false, false, false, false, false, false, false, false, false, false, false, false, false, false, false, false, false] rfl rfl (by kernel_rfl) (by kernel_rfl) (by kernel_rfl) (by kernel_rfl) (fun _ _ _ h => h) (by rfl) (v := ?_) ?_ (by assumption) ?_
  rotate_left
  · (intro w hSw; obtain ⟨s0, s1⟩ := hSw; go_simp; try with_reducible rfl)
  simp only [Act.put, List.setIfInBounds_toArray, List.set_cons_zero, List.set_cons_succ]
  refine takeH 1 (some 35) #[true, true, false, false, false, false, false, false, false, false, false, false, false, false, false, false, false, false, false, false, false, false, false, false, false, false, false, false, false, false, false, false] rfl rfl (by kernel_rfl) (by kernel_rfl) (by kernel_rfl) (by kernel_rfl) (fun _ _ _ h => h) (by rfl) (v := ?_) ?_ (by assumption) ?_
  rotate_left
  · (intro w hSw; obtain ⟨s0, s1⟩ := hSw; go_simp; try with_reducible rfl)
  simp only [Act.put, List.setIfInBounds_toArray, List.set_cons_zero, List.set_cons_succ]
  refine takeH 2 (some 36) #[true, true, true, false, false, false, false, false, false, false, false, false, false, false, false, false, false, false, false, false, false, false, false, false, false, false, false, false, false, false, false, false] rfl rfl (by kernel_rfl) (by kernel_rfl) (by kernel_rfl) (by kernel_rfl) (fun _ _ _ h => h) (by rfl) (v := ?_) ?_ (by assumption) ?_
  rotate_left
  · (intro w hSw; obtain ⟨s0, s1⟩ := hSw; go_simp; try with_reducible rfl)
  simp only [Act.put, List.setIfInBounds_toArray, List.set_cons_zero, List.set_cons_succ]
  refine takeH 3 (some 37) #[true, true, true, true, false, false, false, false, false, false, false, false, false, false, false, false, false, false, false, false, false, false, false, false, false, false, false, false, false, false, false, false] rfl rfl (by kernel_rfl) (by kernel_rfl) (by kernel_rfl) (by kernel_rfl) (fun _ _ _ h => h) (by rfl) (v := ?_) ?_ (by assumption) ?_
  rotate_left
  · (intro w hSw; obtain ⟨s0, s1⟩ := hSw; go_simp; try with_reducible rfl)
  simp only [Act.put, List.setIfInBounds_toArray, List.set_cons_zero, List.set_cons_succ]
  refine takeH 4 (some 38) #[true, true, true, true, true, false, false, false, false, false, false, false, false, false, false, false, false, false, false, false, false, false, false, false, false, false, false, false, false, false, false, false] rfl rfl (by kernel_rfl) (by kernel_rfl) (by kernel_rfl) (by kernel_rfl) (fun _ _ _ h => h) (by rfl) (v := ?_) ?_ (by assumption) ?_
  rotate_left
  · (intro w hSw; obtain ⟨s0, s1⟩ := hSw; go_simp; try with_reducible rfl)
  simp only [Act.put, List.setIfInBounds_toArray, List.set_cons_zero, List.set_cons_succ]
  refine takeH 5 (some 39) #[true, true, true, true, true, true, false, false, false, false, false, false, false, false, false, false, false, false, false, false, false, false, false, false, false, false, false, false, false, false, false, false] rfl rfl (by kernel_rfl) (by kernel_rfl) (by kernel_rfl) (by kernel_rfl) (fun _ _ _ h => h) (by rfl) (v := ?_) ?_ (by assumption) ?_
  rotate_left
  · (intro w hSw; obtain ⟨s0, s1⟩ := hSw; go_simp; try with_reducible rfl)
  simp only [Act.put, List.setIfInBounds_toArray, List.set_cons_zero, List.set_cons_succ]
  refine takeH 6 (some 40) #[true, true, true, true, true, true, true, false, false, false, false, false, false, false, false, false, false, false, false, false, false, false, false, false, false, false, false, false, false, false, false, false] rfl rfl (by kernel_rfl) (by kernel_rfl) (by kernel_rfl) (by kernel_rfl) (fun _ _ _ h => h) (by rfl) (v := ?_) ?_ (by assumption) ?_
  rotate_left
  · (intro w hSw; obtain ⟨s0, s1⟩ := hSw; go_simp; try with_reducible rfl)
  simp only [Act.put, List.setIfInBounds_toArray, List.set_cons_zero, List.set_cons_succ]
  refine takeH 7 (some 41) #[true, true, true, true, true, true, true, true, false, false, false, false, false, false, false, false, false, false, false, false, false, false, false, false, false, false, false, false, false, false, false, false] rfl rfl (by kernel_rfl) (by kernel_rfl) (by kernel_rfl) (by kernel_rfl) (fun _ _ _ h => h) (by rfl) (v := ?_) ?_ (by assumption) ?_
  rotate_left
  · (intro w hSw; obtain ⟨s0, s1⟩ := hSw; go_simp; try with_reducible rfl)
  simp only [Act.put, List.setIfInBounds_toArray, List.set_cons_zero, List.set_cons_succ]
  refine takeH 8 (some 42) #[true, true, true, true, true, true, true, true, true, false, false, false, false, false, false, false, false, false, false, false, false, false, false, false, false, false, false, false, false, false, false, false] rfl rfl (by kernel_rfl) (by kernel_rfl) (by kernel_rfl) (by kernel_rfl) (fun _ _ _ h => h) (by rfl) (v := ?_) ?_ (by assumption) ?_
  rotate_left
  · (intro w hSw; obtain ⟨s0, s1⟩ := hSw; go_simp; try with_reducible rfl)
  simp only [Act.put, List.setIfInBounds_toArray, List.set_cons_zero, List.set_cons_succ]
  refine takeH 9 (some 43) #[true, true, true, true, true, true, true, true, true, true, false, false, false, false, false, false, false, false, false, false, false, false, false, false, false, false, false, false, false, false, false, false] rfl rfl (by kernel_rfl) (by kernel_rfl) (by kernel_rfl) (by kernel_rfl) (fun _ _ _ h => h) (by rfl) (v := ?_) ?_ (by assumption) ?_
  rotate_left
  · (intro w hSw; obtain ⟨s0, s1⟩ := hSw; go_simp; try with_reducible rfl)
  simp only [Act.put, List.setIfInBounds_toArray, List.set_cons_zero, List.set_cons_succ]
  refine takeH 10 (some 44) #[true, true, true, true, true, true, true, true, true, true, true, false, false, false, false, false, false, false, false, false, false, false, false, false, false, false, false, false, false, false, false, false] rfl rfl (by kernel_rfl) (by kernel_rfl) (by kernel_rfl) (by kernel_rfl) (fun _ _ _ h => h) (by rfl) (v := ?_) ?_ (by assumption) ?_
  rotate_left
  · (intro w hSw; obtain ⟨s0, s1⟩ := hSw; go_simp; try with_reducible rfl)
  simp only [Act.put, List.setIfInBounds_toArray, List.set_cons_zero, List.set_cons_succ]
  refine takeH 11 (some 45) #[true, true, true, true, true, true, true, true, true, true, true, true, false, false, false, false, false, false, false, false, false, false, false, false, false, false, false, false, false, false, false, false] rfl rfl (by kernel_rfl) (by kernel_rfl) (by kernel_rfl) (by kernel_rfl) (fun _ _ _ h => h) (by rfl) (v := ?_) ?_ (by assumption) ?_
  rotate_left
  · (intro w hSw; obtain ⟨s0, s1⟩ := hSw; go_simp; try with_reducible rfl)
  simp only [Act.put, List.setIfInBounds_toArray, List.set_cons_zero, List.set_cons_succ]
  refine takeH 12 (some 46) #[true, true, true, true, true, true, true, true, true, true, true, true, true, false, false, false, false, false, false, false, false, false, false, false, false, false, false, false, false, false, false, false] rfl rfl (by kernel_rfl) (by kernel_rfl) (by kernel_rfl) (by kernel_rfl) (fun _ _ _ h => h) (by rfl) (v := ?_) ?_ (by assumption) ?_
  rotate_left
  · (intro w hSw; obtain ⟨s0, s1⟩ := hSw; go_simp; try with_reducible rfl)
  simp only [Act.put, List.setIfInBounds_toArray, List.set_cons_zero, List.set_cons_succ]
  refine takeH 13 (some 47) #[true, true, true, true, true, true, true, true, true, true, true, true, true, true, false, false, false, false, false, false, false, false, false, false, false, false, false, false, false, false, false, false] rfl rfl (by kernel_rfl) (by kernel_rfl) (by kernel_rfl) (by kernel_rfl) (fun _ _ _ h => h) (by rfl) (v := ?_) ?_ (by assumption) ?_
  rotate_left
  · (intro w hSw; obtain ⟨s0, s1⟩ := hSw; go_simp; try with_reducible rfl)
  simp only [Act.put, List.setIfInBounds_toArray, List.set_cons_zero, List.set_cons_succ]
  refine takeH 14 (some 48) #[true, true, true, true, true, true, true, true, true, true, true, true, true, true, true, false, false, false, false, false, false, false, false, false, false, false, false, false, false, false, false, false] rfl rfl (by kernel_rfl) (by kernel_rfl) (by kernel_rfl) (by kernel_rfl) (fun _ _ _ h => h) (by rfl) (v := ?_) ?_ (by assumption) ?_
  rotate_left
  · (intro w hSw; obtain ⟨s0, s1⟩ := hSw; go_simp; try with_reducible rfl)
  simp only [Act.put, List.setIfInBounds_toArray, List.set_cons_zero, List.set_cons_succ]
  refine takeH 15 (some 49) #[true, true, true, true, true, true, true, true, true, true, true, true, true, true, true, true, false, false, false, false, false, false, false, false, false, false, false, false, false, false, false, false] rfl rfl (by kernel_rfl) (by kernel_rfl) (by kernel_rfl) (by kernel_rfl) (fun _ _ _ h => h) (by rfl) (v := ?_) ?_ (by assumption) ?_
  rotate_left
  · (intro w hSw; obtain ⟨s0, s1⟩ := hSw; go_simp; try with_reducible rfl)
  simp only [Act.put, List.setIfInBounds_toArray, List.set_cons_zero, List.set_cons_succ]
  refine takeH 16 (some 50) #[true, true, true, true, true, true, true, true, true, true, true, true, true, true, true, true, true, false, false, false, false, false, false, false, false, false, false, false, false, false, false, false] rfl rfl (by kernel_rfl) (by kernel_rfl) (by kernel_rfl) (by kernel_rfl) (fun _ _ _ h => h) (by rfl) (v := ?_) ?_ (by assumption) ?_
  rotate_left
  · (intro w hSw; obtain ⟨s0, s1⟩ := hSw; go_simp; try with_reducible rfl)
  simp only [Act.put, List.setIfInBounds_toArray, List.set_cons_zero, List.set_cons_succ]
  refine takeH 17 (some 51) #[true, true, true, true, true, true, true, true, true, true, true, true, true, true, true, true, true, true, false, false, false, false, false, false, false, false, false, false, false, false, false, false] rfl rfl (by kernel_rfl) (by kernel_rfl) (by kernel_rfl) (by kernel_rfl) (fun _ _ _ h => h) (by rfl) (v := ?_) ?_ (by assumption) ?_
  rotate_left
  · (intro w hSw; obtain ⟨s0, s1⟩ := hSw; go_simp; try with_reducible rfl)
  simp only [Act.put, List.setIfInBounds_toArray, List.set_cons_zero, List.set_cons_succ]
  refine takeH 18 (some 52) #[true, true, true, true, true, true, true, true, true, true, true, true, true, true, true, true, true, true, true, false, false, false, false, false, false, false, false, false, false, false, false, false] rfl rfl (by kernel_rfl) (by kernel_rfl) (by kernel_rfl) (by kernel_rfl) (fun _ _ _ h => h) (by rfl) (v := ?_) ?_ (by assumption) ?_
  rotate_left
  · (intro w hSw; obtain ⟨s0, s1⟩ := hSw; go_simp; try with_reducible rfl)
  simp only [Act.put, List.setIfInBounds_toArray, List.set_cons_zero, List.set_cons_succ]
  refine takeH 19 (some 53) #[true, true, true, true, true, true, true, true, true, true, true, true, true, true, true, true, true, true, true, true, false, false, false, false, false, false, false, false, false, false, false, false] rfl rfl (by kernel_rfl) (by kernel_rfl) (by kernel_rfl) (by kernel_rfl) (fun _ _ _ h => h) (by rfl) (v := ?_) ?_ (by assumption) ?_
  rotate_left
  · (intro w hSw; obtain ⟨s0, s1⟩ := hSw; go_simp; try with_reducible rfl)
  simp only [Act.put, List.setIfInBounds_toArray, List.set_cons_zero, List.set_cons_succ]
  refine takeH 20 (some 54) #[true, true, true, true, true, true, true, true, true, true, true, true, true, true, true, true, true, true, true, true, true, false, false, false, false, false, false, false, false, false, false, false] rfl rfl (by kernel_rfl) (by kernel_rfl) (by kernel_rfl) (by kernel_rfl) (fun _ _ _ h => h) (by rfl) (v := ?_) ?_ (by assumption) ?_
  rotate_left
  · (intro w hSw; obtain ⟨s0, s1⟩ := hSw; go_simp; try with_reducible rfl)
  simp only [Act.put, List.setIfInBounds_toArray, List.set_cons_zero, List.set_cons_succ]
  refine takeH 21 (some 55) #[true, true, true, true, true, true, true, true, true, true, true, true, true, true, true, true, true, true, true, true, true, true, false, false, false, false, false, false, false, false, false, false] rfl rfl (by kernel_rfl) (by kernel_rfl) (by kernel_rfl) (by kernel_rfl) (fun _ _ _ h => h) (by rfl) (v := ?_) ?_ (by assumption) ?_
  rotate_left
  · (intro w hSw; obtain ⟨s0, s1⟩ := hSw; go_simp; try with_reducible rfl)
  simp only [Act.put, List.setIfInBounds_toArray, List.set_cons_zero, List.set_cons_succ]
  refine takeH 22 (some 56) #[true, true, true, true, true, true, true, true, true, true, true, true, true, true, true, true, true, true, true, true, true, true, true, false, false, false, false, false, false, false, false, false] rfl rfl (by kernel_rfl) (by kernel_rfl) (by kernel_rfl) (by kernel_rfl) (fun _ _ _ h => h) (by rfl) (v := ?_) ?_ (by assumption) ?_
  rotate_left
  · (intro w hSw; obtain ⟨s0, s1⟩ := hSw; go_simp; try with_reducible rfl)
  simp only [Act.put, List.setIfInBounds_toArray, List.set_cons_zero, List.set_cons_succ]
  refine takeH 23 (some 57) #[true, true, true, true, true, true, true, true, true, true, true, true, true, true, true, true, true, true, true, true, true, true, true, true, false, false, false, false, false, false, false, false] rfl rfl (by kernel_rfl) (by kernel_rfl) (by kernel_rfl) (by kernel_rfl) (fun _ _ _ h => h) (by rfl) (v := ?_) ?_ (by assumption) ?_
  rotate_left
  · (intro w hSw; obtain ⟨s0, s1⟩ := hSw; go_simp; try with_reducible rfl)
  simp only [Act.put, List.setIfInBounds_toArray, List.set_cons_zero, List.set_cons_succ]
  refine takeH 24 (some 58) #[true, true, true, true, true, true, true, true, true, true, true, true, true, true, true, true, true, true, true, true, true, true, true, true, true, false, false, false, false, false, false, false] rfl rfl (by kernel_rfl) (by kernel_rfl) (by kernel_rfl) (by kernel_rfl) (fun _ _ _ h => h) (by rfl) (v := ?_) ?_ (by assumption) ?_
  rotate_left
  · (intro w hSw; obtain ⟨s0, s1⟩ := hSw; go_simp; try with_reducible rfl)
  simp only [Act.put, List.setIfInBounds_toArray, List.set_cons_zero, List.set_cons_succ]
  refine takeH 25 (some 59) #[true, true, true, true, true, true, true, true, true, true, true, true, true, true, true, true, true, true, true, true, true, true, true, true, true, true, false, false, false, false, false, false] rfl rfl (by kernel_rfl) (by kernel_rfl) (by kernel_rfl) (by kernel_rfl) (fun _ _ _ h => h) (by rfl) (v := ?_) ?_ (by assumption) ?_
  rotate_left
  · (intro w hSw; obtain ⟨s0, s1⟩ := hSw; go_simp; try with_reducible rfl)
  simp only [Act.put, List.setIfInBounds_toArray, List.set_cons_zero, List.set_cons_succ]
  refine takeH 26 (some 60) #[true, true, true, true, true, true, true, true, true, true, true, true, true, true, true, true, true, true, true, true, true, true, true, true, true, true, true, false, false, false, false, false] rfl rfl (by kernel_rfl) (by kernel_rfl) (by kernel_rfl) (by kernel_rfl) (fun _ _ _ h => h) (by rfl) (v := ?_) ?_ (by assumption) ?_
  rotate_left
  · (intro w hSw; obtain ⟨s0, s1⟩ := hSw; go_simp; try with_reducible rfl)
  simp only [Act.put, List.setIfInBounds_toArray, List.set_cons_zero, List.set_cons_succ]
  refine takeH 27 (some 61) #[true, true, true, true, true, true, true, true, true, true, true, true, true, true, true, true, true, true, true, true, true, true, true, true, true, true, true, true, false, false, false, false] rfl rfl (by kernel_rfl) (by kernel_rfl) (by kernel_rfl) (by kernel_rfl) (fun _ _ _ h => h) (by rfl) (v := ?_) ?_ (by assumption) ?_
  rotate_left
  · (intro w hSw; obtain ⟨s0, s1⟩ := hSw; go_simp; try with_reducible rfl)
  simp only [Act.put, List.setIfInBounds_toArray, List.set_cons_zero, List.set_cons_succ]
  refine takeH 28 (some 62) #[true, true, true, true, true, true, true, true, true, true, true, true, true, true, true, true, true, true, true, true, true, true, true, true, true, true, true, true, true, false, false, false] rfl rfl (by kernel_rfl) (by kernel_rfl) (by kernel_rfl) (by kernel_rfl) (fun _ _ _ h => h) (by rfl) (v := ?_) ?_ (by assumption) ?_
  rotate_left
  · (intro w hSw; obtain ⟨s0, s1⟩ := hSw; go_simp; try with_reducible rfl)
  simp only [Act.put, List.setIfInBounds_toArray, List.set_cons_zero, List.set_cons_succ]
  refine takeH 31 (some 65) #[true, true, true, true, true, true, true, true, true, true, true, true, true, true, true, true, true, true, true, true, true, true, true, true, true, true, true, true, true, false, false, true] rfl rfl (by kernel_rfl) (by kernel_rfl) (by kernel_rfl) (by kernel_rfl) (fun _ _ _ h => h) (by rfl) (v := ?_) ?_ (by assumption) ?_
  rotate_left
  · (intro w hSw; obtain ⟨s0, s1⟩ := hSw; go_simp; try with_reducible rfl)
  simp only [Act.put, List.setIfInBounds_toArray, List.set_cons_zero, List.set_cons_succ]
  refine oneH 29 #[true, true, true, true, true, true, true, true, true, true, true, true, true, true, true, true, true, true, true, true, true, true, true, true, true, true, true, true, true, true, false, true] rfl (by kernel_rfl) (by kernel_rfl) (by rfl) (fun K hK => ?_)
  go_simp
  refine hK.out _ _ (HoldK.alloc (by assumption) _) (fun hS => ?_)
  clear hK K
  refine takeH 30 (some 64) #[true, true, true, true, true, true, true, true, true, true, true, true, true, true, true, true, true, true, true, true, true, true, true, true, true, true, true, true, true, true, true, true] rfl rfl (by kernel_rfl) (by kernel_rfl) (by kernel_rfl) (by kernel_rfl) (fun _ _ _ h => h) (by rfl) (v := ?_) ?_ (by assumption) ?_
  rotate_left
  · (intro w hSw; obtain ⟨s0, s1⟩ := hSw; go_simp; try with_reducible rfl)
  simp only [Act.put, List.setIfInBounds_toArray, List.set_cons_zero, List.set_cons_succ]
  refine wpAnyH_done (by kernel_rfl) ?_ _
  have hA := (Blk.new w1 25 #[.int .i64 0, .int .i64 0, .string ⟨Z32.toArray⟩, .int .i64 0, .string ⟨#[]⟩, .int .i64 0, .int .i64 1, .string ⟨Z32.toArray⟩, .int .i64 0, .string ⟨#[]⟩, .int .i64 2, .int .i64 1, .string ⟨Z32.toArray⟩, .int .i64 0, .string ⟨#[]⟩, .int .i64 1, .int .i64 13, .string ⟨Z32.toArray⟩, .int .i64 0, .string ⟨#[]⟩, .int .i64 2, .int .i64 3, .string ⟨Z32.tail.toArray⟩, .int .i64 0, .string ⟨#[]⟩, .int .i64 2, .int .i64 3, .string ⟨(Z32 ++ [120]).toArray⟩, .int .i64 0, .string ⟨#[]⟩, .int .i64 2, .int .i64 3, .string ⟨Z32.toArray⟩, .int .i64 3, .string ⟨#[]⟩, .int .i64 2, .int .i64 3, .string ⟨Z32.toArray⟩, .int .i64 (-1), .string ⟨#[]⟩]).drew
  have hO2 := (HO.out.alloc (.cells #[.int .i64 0, .int .i64 0, .string ⟨Z32.toArray⟩, .int .i64 0, .string ⟨#[]⟩, .int .i64 0, .int .i64 1, .string ⟨Z32.toArray⟩, .int .i64 0, .string ⟨#[]⟩, .int .i64 2, .int .i64 1, .string ⟨Z32.toArray⟩, .int .i64 0, .string ⟨#[]⟩, .int .i64 1, .int .i64 13, .string ⟨Z32.toArray⟩, .int .i64 0, .string ⟨#[]⟩, .int .i64 2, .int .i64 3, .string ⟨Z32.tail.toArray⟩, .int .i64 0, .string ⟨#[]⟩, .int .i64 2, .int .i64 3, .string ⟨(Z32 ++ [120]).toArray⟩, .int .i64 0, .string ⟨#[]⟩, .int .i64 2, .int .i64 3, .string ⟨Z32.toArray⟩, .int .i64 3, .string ⟨#[]⟩, .int .i64 2, .int .i64 3, .string ⟨Z32.toArray⟩, .int .i64 (-1), .string ⟨#[]⟩] 25)).drew
  have hv2 : Vars (w1.alloc (.cells #[.int .i64 0, .int .i64 0, .string ⟨Z32.toArray⟩, .int .i64 0, .string ⟨#[]⟩, .int .i64 0, .int .i64 1, .string ⟨Z32.toArray⟩, .int .i64 0, .string ⟨#[]⟩, .int .i64 2, .int .i64 1, .string ⟨Z32.toArray⟩, .int .i64 0, .string ⟨#[]⟩, .int .i64 1, .int .i64 13, .string ⟨Z32.toArray⟩, .int .i64 0, .string ⟨#[]⟩, .int .i64 2, .int .i64 3, .string ⟨Z32.tail.toArray⟩, .int .i64 0, .string ⟨#[]⟩, .int .i64 2, .int .i64 3, .string ⟨(Z32 ++ [120]).toArray⟩, .int .i64 0, .string ⟨#[]⟩, .int .i64 2, .int .i64 3, .string ⟨Z32.toArray⟩, .int .i64 3, .string ⟨#[]⟩, .int .i64 2, .int .i64 3, .string ⟨Z32.toArray⟩, .int .i64 (-1), .string ⟨#[]⟩] 25)).drew := (HV1.out.alloc _).drewN 1
  have hb2 : Below w.heap.size w (w1.alloc (.cells #[.int .i64 0, .int .i64 0, .string ⟨Z32.toArray⟩, .int .i64 0, .string ⟨#[]⟩, .int .i64 0, .int .i64 1, .string ⟨Z32.toArray⟩, .int .i64 0, .string ⟨#[]⟩, .int .i64 2, .int .i64 1, .string ⟨Z32.toArray⟩, .int .i64 0, .string ⟨#[]⟩, .int .i64 1, .int .i64 13, .string ⟨Z32.toArray⟩, .int .i64 0, .string ⟨#[]⟩, .int .i64 2, .int .i64 3, .string ⟨Z32.tail.toArray⟩, .int .i64 0, .string ⟨#[]⟩, .int .i64 2, .int .i64 3, .string ⟨(Z32 ++ [120]).toArray⟩, .int .i64 0, .string ⟨#[]⟩, .int .i64 2, .int .i64 3, .string ⟨Z32.toArray⟩, .int .i64 3, .string ⟨#[]⟩, .int .i64 2, .int .i64 3, .string ⟨Z32.toArray⟩, .int .i64 (-1), .string ⟨#[]⟩] 25)).drew := (HB1.out.alloc (Nat.le_trans (Nat.le_of_lt hok0) (Nat.le_of_lt HO.out.lt)) _).drew
  obtain ⟨ar, har⟩ : ∃ ar, ar = w1.heap.size := ⟨_, rfl⟩
  rw [← har] at hA ⊢
  have harok : ok < ar := by have := HO.out.lt; omega
  clear hS har HK HO HV1 HB1 hx1 hx2
  generalize (w1.alloc (.cells #[.int .i64 0, .int .i64 0, .string ⟨Z32.toArray⟩, .int .i64 0, .string ⟨#[]⟩, .int .i64 0, .int .i64 1, .string ⟨Z32.toArray⟩, .int .i64 0, .string ⟨#[]⟩, .int .i64 2, .int .i64 1, .string ⟨Z32.toArray⟩, .int .i64 0, .string ⟨#[]⟩, .int .i64 1, .int .i64 13, .string ⟨Z32.toArray⟩, .int .i64 0, .string ⟨#[]⟩, .int .i64 2, .int .i64 3, .string ⟨Z32.tail.toArray⟩, .int .i64 0, .string ⟨#[]⟩, .int .i64 2, .int .i64 3, .string ⟨(Z32 ++ [120]).toArray⟩, .int .i64 0, .string ⟨#[]⟩, .int .i64 2, .int .i64 3, .string ⟨Z32.toArray⟩, .int .i64 3, .string ⟨#[]⟩, .int .i64 2, .int .i64 3, .string ⟨Z32.toArray⟩, .int .i64 (-1), .string ⟨#[]⟩] 25)).drew = w2 at *
  have HA2 := Lib.hid hA
  have HO2 := Lib.hid hO2
  have HV2 := Lib.hid hv2
  have HB2 := Lib.hid hb2
  clear hA hO2 hv2 hb2
  have hno : ∀ (k : Nat), k < 8 → ∀ W, Vars W → Calls Tryd.prog 9 #[.agg #[.int .i64 (Bad k).K, .int .i64 (Bad k).N, .string ⟨(Bad k).dig.toArray⟩, .int .i64 (Bad k).idx, .string ⟨(Bad k).pay.toArray⟩]] W fun e w' => e = .returned (.tuple #[.agg #[.string ⟨#[]⟩, .string ⟨#[]⟩], .int .i64 1]) ∧ Below W.heap.size W w' := fun k hk W hv => by
    have hi : I64 (Bad k).idx := by
      have hc : k = 0 ∨ k = 1 ∨ k = 2 ∨ k = 3 ∨ k = 4 ∨ k = 5 ∨ k = 6 ∨ k = 7 := by omega
      rcases hc with rfl | rfl | rfl | rfl | rfl | rfl | rfl | rfl <;> exact ⟨by decide, by decide⟩
    refine (makeL_any (Bad k).K (Bad k).N (Bad k).idx (Bad k).dig (Bad k).pay hi W hv).mono ?_
    rintro e w' ⟨he, hb⟩
    exact ⟨make_not he (Bad_not k hk), hb⟩
  have HNO := Lib.hid hno
  clear hno
  go_wp2_with fail
  go_loopw [4, 5, 6, 65] (fun _ _ _ i wr => ∃ k : Nat, k ≤ 8 ∧ i = .int .i64 (k : Int) ∧ NamesIn ok ar w wr) (fun _ _ _ i _ => 8 - (intOf i).toNat)
  case atStart => exact ⟨0, by omega, rfl, HO2.out, HA2.out, HB2.out, HV2.out⟩
  case round =>
    obtain ⟨k, hk, rfl, hO, hA, hb, hv⟩ := hrel
    have HO := Lib.hid hO
    have HA := Lib.hid hA
    have HB := Lib.hid hb
    have HVr := Lib.hid hv
    have hs : w.heap.size ≤ wr.heap.size := hb.size
    clear hO hb hv
    by_cases h8 : k < 8
    · have hc : k = 0 ∨ k = 1 ∨ k = 2 ∨ k = 3 ∨ k = 4 ∨ k = 5 ∨ k = 6 ∨ k = 7 := by omega
      clear hk h8
      rcases hc with rfl | rfl | rfl | rfl | rfl | rfl | rfl | rfl
      · have hM : ∀ W, Vars W → Calls Tryd.prog 9 #[.agg #[.int .i64 0, .int .i64 0, .string ⟨Z32.toArray⟩, .int .i64 0, .string ⟨#[]⟩]] W fun e w' => e = .returned (.tuple #[.agg #[.string ⟨#[]⟩, .string ⟨#[]⟩], .int .i64 1]) ∧ Below W.heap.size W w' := HNO.out 0 (by decide)
        have c0 : wr.cell? ⟨ar, 0, none⟩ = some (.int .i64 0) := hA.cell 0
        have c1 : wr.cell? ⟨ar, 1, none⟩ = some (.int .i64 0) := hA.cell 1
        have c2 : wr.cell? ⟨ar, 2, none⟩ = some (.string ⟨Z32.toArray⟩) := hA.cell 2
        have c3 : wr.cell? ⟨ar, 3, none⟩ = some (.int .i64 0) := hA.cell 3
        have c4 : wr.cell? ⟨ar, 4, none⟩ = some (.string ⟨#[]⟩) := hA.cell 4
        have HM := Lib.hid hM
        clear hM hA
        go_wp2_with (go_at_call 9; refine (HM.out _ (HVr.out.alloc _)).mono ?_; rintro e w4 ⟨rfl, hb4⟩)
        have hb3 : Below wr.heap.size wr w4 := ((Below.refl _ _).alloc (Nat.le_refl _) _).trans (hb4.mono (by simp))
        have hr := names_keep ⟨HO.out, HA.out, HB.out, HVr.out⟩ hb3
        have hs4 := hb3.size
        go_roundw
        case rel => exact ⟨1, by omega, by go_num, names_alloc hr (by omega) _⟩
        case measure => simp [intOf]
      · have hM : ∀ W, Vars W → Calls Tryd.prog 9 #[.agg #[.int .i64 0, .int .i64 1, .string ⟨Z32.toArray⟩, .int .i64 0, .string ⟨#[]⟩]] W fun e w' => e = .returned (.tuple #[.agg #[.string ⟨#[]⟩, .string ⟨#[]⟩], .int .i64 1]) ∧ Below W.heap.size W w' := HNO.out 1 (by decide)
        have c0 : wr.cell? ⟨ar, 5, none⟩ = some (.int .i64 0) := hA.cell 5
        have c1 : wr.cell? ⟨ar, 6, none⟩ = some (.int .i64 1) := hA.cell 6
        have c2 : wr.cell? ⟨ar, 7, none⟩ = some (.string ⟨Z32.toArray⟩) := hA.cell 7
        have c3 : wr.cell? ⟨ar, 8, none⟩ = some (.int .i64 0) := hA.cell 8
        have c4 : wr.cell? ⟨ar, 9, none⟩ = some (.string ⟨#[]⟩) := hA.cell 9
        have HM := Lib.hid hM
        clear hM hA
        go_wp2_with (go_at_call 9; refine (HM.out _ (HVr.out.alloc _)).mono ?_; rintro e w4 ⟨rfl, hb4⟩)
        have hb3 : Below wr.heap.size wr w4 := ((Below.refl _ _).alloc (Nat.le_refl _) _).trans (hb4.mono (by simp))
        have hr := names_keep ⟨HO.out, HA.out, HB.out, HVr.out⟩ hb3
        have hs4 := hb3.size
        go_roundw
        case rel => exact ⟨2, by omega, by go_num, names_alloc hr (by omega) _⟩
        case measure => simp [intOf]
      · have hM : ∀ W, Vars W → Calls Tryd.prog 9 #[.agg #[.int .i64 2, .int .i64 1, .string ⟨Z32.toArray⟩, .int .i64 0, .string ⟨#[]⟩]] W fun e w' => e = .returned (.tuple #[.agg #[.string ⟨#[]⟩, .string ⟨#[]⟩], .int .i64 1]) ∧ Below W.heap.size W w' := HNO.out 2 (by decide)
        have c0 : wr.cell? ⟨ar, 10, none⟩ = some (.int .i64 2) := hA.cell 10
        have c1 : wr.cell? ⟨ar, 11, none⟩ = some (.int .i64 1) := hA.cell 11
        have c2 : wr.cell? ⟨ar, 12, none⟩ = some (.string ⟨Z32.toArray⟩) := hA.cell 12
        have c3 : wr.cell? ⟨ar, 13, none⟩ = some (.int .i64 0) := hA.cell 13
        have c4 : wr.cell? ⟨ar, 14, none⟩ = some (.string ⟨#[]⟩) := hA.cell 14
        have HM := Lib.hid hM
        clear hM hA
        go_wp2_with (go_at_call 9; refine (HM.out _ (HVr.out.alloc _)).mono ?_; rintro e w4 ⟨rfl, hb4⟩)
        have hb3 : Below wr.heap.size wr w4 := ((Below.refl _ _).alloc (Nat.le_refl _) _).trans (hb4.mono (by simp))
        have hr := names_keep ⟨HO.out, HA.out, HB.out, HVr.out⟩ hb3
        have hs4 := hb3.size
        go_roundw
        case rel => exact ⟨3, by omega, by go_num, names_alloc hr (by omega) _⟩
        case measure => simp [intOf]
      · have hM : ∀ W, Vars W → Calls Tryd.prog 9 #[.agg #[.int .i64 1, .int .i64 13, .string ⟨Z32.toArray⟩, .int .i64 0, .string ⟨#[]⟩]] W fun e w' => e = .returned (.tuple #[.agg #[.string ⟨#[]⟩, .string ⟨#[]⟩], .int .i64 1]) ∧ Below W.heap.size W w' := HNO.out 3 (by decide)
        have c0 : wr.cell? ⟨ar, 15, none⟩ = some (.int .i64 1) := hA.cell 15
        have c1 : wr.cell? ⟨ar, 16, none⟩ = some (.int .i64 13) := hA.cell 16
        have c2 : wr.cell? ⟨ar, 17, none⟩ = some (.string ⟨Z32.toArray⟩) := hA.cell 17
        have c3 : wr.cell? ⟨ar, 18, none⟩ = some (.int .i64 0) := hA.cell 18
        have c4 : wr.cell? ⟨ar, 19, none⟩ = some (.string ⟨#[]⟩) := hA.cell 19
        have HM := Lib.hid hM
        clear hM hA
        go_wp2_with (go_at_call 9; refine (HM.out _ (HVr.out.alloc _)).mono ?_; rintro e w4 ⟨rfl, hb4⟩)
        have hb3 : Below wr.heap.size wr w4 := ((Below.refl _ _).alloc (Nat.le_refl _) _).trans (hb4.mono (by simp))
        have hr := names_keep ⟨HO.out, HA.out, HB.out, HVr.out⟩ hb3
        have hs4 := hb3.size
        go_roundw
        case rel => exact ⟨4, by omega, by go_num, names_alloc hr (by omega) _⟩
        case measure => simp [intOf]
      · have hM : ∀ W, Vars W → Calls Tryd.prog 9 #[.agg #[.int .i64 2, .int .i64 3, .string ⟨Z32.tail.toArray⟩, .int .i64 0, .string ⟨#[]⟩]] W fun e w' => e = .returned (.tuple #[.agg #[.string ⟨#[]⟩, .string ⟨#[]⟩], .int .i64 1]) ∧ Below W.heap.size W w' := HNO.out 4 (by decide)
        have c0 : wr.cell? ⟨ar, 20, none⟩ = some (.int .i64 2) := hA.cell 20
        have c1 : wr.cell? ⟨ar, 21, none⟩ = some (.int .i64 3) := hA.cell 21
        have c2 : wr.cell? ⟨ar, 22, none⟩ = some (.string ⟨Z32.tail.toArray⟩) := hA.cell 22
        have c3 : wr.cell? ⟨ar, 23, none⟩ = some (.int .i64 0) := hA.cell 23
        have c4 : wr.cell? ⟨ar, 24, none⟩ = some (.string ⟨#[]⟩) := hA.cell 24
        have HM := Lib.hid hM
        clear hM hA
        go_wp2_with (go_at_call 9; refine (HM.out _ (HVr.out.alloc _)).mono ?_; rintro e w4 ⟨rfl, hb4⟩)
        have hb3 : Below wr.heap.size wr w4 := ((Below.refl _ _).alloc (Nat.le_refl _) _).trans (hb4.mono (by simp))
        have hr := names_keep ⟨HO.out, HA.out, HB.out, HVr.out⟩ hb3
        have hs4 := hb3.size
        go_roundw
        case rel => exact ⟨5, by omega, by go_num, names_alloc hr (by omega) _⟩
        case measure => simp [intOf]
      · have hM : ∀ W, Vars W → Calls Tryd.prog 9 #[.agg #[.int .i64 2, .int .i64 3, .string ⟨(Z32 ++ [120]).toArray⟩, .int .i64 0, .string ⟨#[]⟩]] W fun e w' => e = .returned (.tuple #[.agg #[.string ⟨#[]⟩, .string ⟨#[]⟩], .int .i64 1]) ∧ Below W.heap.size W w' := HNO.out 5 (by decide)
        have c0 : wr.cell? ⟨ar, 25, none⟩ = some (.int .i64 2) := hA.cell 25
        have c1 : wr.cell? ⟨ar, 26, none⟩ = some (.int .i64 3) := hA.cell 26
        have c2 : wr.cell? ⟨ar, 27, none⟩ = some (.string ⟨(Z32 ++ [120]).toArray⟩) := hA.cell 27
        have c3 : wr.cell? ⟨ar, 28, none⟩ = some (.int .i64 0) := hA.cell 28
        have c4 : wr.cell? ⟨ar, 29, none⟩ = some (.string ⟨#[]⟩) := hA.cell 29
        have HM := Lib.hid hM
        clear hM hA
        go_wp2_with (go_at_call 9; refine (HM.out _ (HVr.out.alloc _)).mono ?_; rintro e w4 ⟨rfl, hb4⟩)
        have hb3 : Below wr.heap.size wr w4 := ((Below.refl _ _).alloc (Nat.le_refl _) _).trans (hb4.mono (by simp))
        have hr := names_keep ⟨HO.out, HA.out, HB.out, HVr.out⟩ hb3
        have hs4 := hb3.size
        go_roundw
        case rel => exact ⟨6, by omega, by go_num, names_alloc hr (by omega) _⟩
        case measure => simp [intOf]
      · have hM : ∀ W, Vars W → Calls Tryd.prog 9 #[.agg #[.int .i64 2, .int .i64 3, .string ⟨Z32.toArray⟩, .int .i64 3, .string ⟨#[]⟩]] W fun e w' => e = .returned (.tuple #[.agg #[.string ⟨#[]⟩, .string ⟨#[]⟩], .int .i64 1]) ∧ Below W.heap.size W w' := HNO.out 6 (by decide)
        have c0 : wr.cell? ⟨ar, 30, none⟩ = some (.int .i64 2) := hA.cell 30
        have c1 : wr.cell? ⟨ar, 31, none⟩ = some (.int .i64 3) := hA.cell 31
        have c2 : wr.cell? ⟨ar, 32, none⟩ = some (.string ⟨Z32.toArray⟩) := hA.cell 32
        have c3 : wr.cell? ⟨ar, 33, none⟩ = some (.int .i64 3) := hA.cell 33
        have c4 : wr.cell? ⟨ar, 34, none⟩ = some (.string ⟨#[]⟩) := hA.cell 34
        have HM := Lib.hid hM
        clear hM hA
        go_wp2_with (go_at_call 9; refine (HM.out _ (HVr.out.alloc _)).mono ?_; rintro e w4 ⟨rfl, hb4⟩)
        have hb3 : Below wr.heap.size wr w4 := ((Below.refl _ _).alloc (Nat.le_refl _) _).trans (hb4.mono (by simp))
        have hr := names_keep ⟨HO.out, HA.out, HB.out, HVr.out⟩ hb3
        have hs4 := hb3.size
        go_roundw
        case rel => exact ⟨7, by omega, by go_num, names_alloc hr (by omega) _⟩
        case measure => simp [intOf]
      · have hM : ∀ W, Vars W → Calls Tryd.prog 9 #[.agg #[.int .i64 2, .int .i64 3, .string ⟨Z32.toArray⟩, .int .i64 (-1), .string ⟨#[]⟩]] W fun e w' => e = .returned (.tuple #[.agg #[.string ⟨#[]⟩, .string ⟨#[]⟩], .int .i64 1]) ∧ Below W.heap.size W w' := HNO.out 7 (by decide)
        have c0 : wr.cell? ⟨ar, 35, none⟩ = some (.int .i64 2) := hA.cell 35
        have c1 : wr.cell? ⟨ar, 36, none⟩ = some (.int .i64 3) := hA.cell 36
        have c2 : wr.cell? ⟨ar, 37, none⟩ = some (.string ⟨Z32.toArray⟩) := hA.cell 37
        have c3 : wr.cell? ⟨ar, 38, none⟩ = some (.int .i64 (-1)) := hA.cell 38
        have c4 : wr.cell? ⟨ar, 39, none⟩ = some (.string ⟨#[]⟩) := hA.cell 39
        have HM := Lib.hid hM
        clear hM hA
        go_wp2_with (go_at_call 9; refine (HM.out _ (HVr.out.alloc _)).mono ?_; rintro e w4 ⟨rfl, hb4⟩)
        have hb3 : Below wr.heap.size wr w4 := ((Below.refl _ _).alloc (Nat.le_refl _) _).trans (hb4.mono (by simp))
        have hr := names_keep ⟨HO.out, HA.out, HB.out, HVr.out⟩ hb3
        have hs4 := hb3.size
        go_roundw
        case rel => exact ⟨8, by omega, by go_num, names_alloc hr (by omega) _⟩
        case measure => simp [intOf]
    · have hk8 : k = 8 := by omega
      subst hk8
      clear hA HNO HA HVr hS HA2 HO2 HV2 HB2
      obtain ⟨P, wz, hPl, hz1, hz2, hzb⟩ := make_zeros wr
      have HPL := Lib.hid hPl
      clear hPl
      have hOz := HO.out.below hzb HO.out.lt
      have hbz : Below w.heap.size w wz := HB.out.trans (hzb.mono hs)
      have c0 : wz.cell? ⟨ok, 0, none⟩ = some (.int .i64 2) := hOz.cell 0
      have c1 : wz.cell? ⟨ok, 1, none⟩ = some (.int .i64 3) := hOz.cell 1
      have c2 : wz.cell? ⟨ok, 2, none⟩ = some (.string ⟨Z32.toArray⟩) := hOz.cell 2
      have c3 : wz.cell? ⟨ok, 3, none⟩ = some (.int .i64 2) := hOz.cell 3
      have c4 : wz.cell? ⟨ok, 4, none⟩ = some (.string ⟨#[]⟩) := hOz.cell 4
      have f4 := hOz.frozen 4
      have HOz := Lib.hid hOz
      have HBz := Lib.hid hbz
      clear hOz hbz hzb HO HB
      go_wp2_with fail
      clear c0 c1 c2 c3 c4 f4 hz1 hz2
      have hO3 : Blk (wz.setCell ⟨ok, 4, none⟩ (.string ⟨P.toArray⟩)) ok 25 #[.int .i64 2, .int .i64 3, .string ⟨Z32.toArray⟩, .int .i64 2, .string ⟨P.toArray⟩] := HOz.out.set_ 4 _
      have hb3 : Below w.heap.size w (wz.setCell ⟨ok, 4, none⟩ (.string ⟨P.toArray⟩)) := HBz.out.setCell (p := ⟨ok, 4, none⟩) (by show w.heap.size ≤ ok; omega) _
      generalize wz.setCell ⟨ok, 4, none⟩ (.string ⟨P.toArray⟩) = w3 at *
      have sP := ok_may P
      have hM1 := makeL_any 2 3 2 Z32 P ⟨by decide, by decide⟩ w3 (HV00.out.below hb3)
      have HM1 := Lib.hid hM1
      have HSP := Lib.hid sP
      clear hM1 sP HOz HBz
      refine HM1.out.mono ?_
      rintro e w4 ⟨he, hb4⟩
      have he := make_of he HSP.out (Nat.le_of_eq HPL.out)
      subst he
      obtain ⟨X, hX⟩ : ∃ X, X = nameL (Shard.mk 2 3 2 Z32 P).dig (Shard.mk 2 3 2 Z32 P).idx := ⟨_, rfl⟩
      obtain ⟨Y, hY⟩ : ∃ Y, Y = Shard.data sumL (Shard.mk 2 3 2 Z32 P) := ⟨_, rfl⟩
      unfold objV
      rw [← hX, ← hY]
      clear hX hY HM1
      have hO4 := (hO3.below hb4 hO3.lt).alloc (.cells #[.string ⟨X.toArray⟩, .string ⟨Y.toArray⟩] 27)
      have hb04' : Below w.heap.size w w4 := hb3.trans (hb4.mono hb3.size)
      have hb04 : Below w.heap.size w (w4.alloc (.cells #[.string ⟨X.toArray⟩, .string ⟨Y.toArray⟩] 27)) := hb04'.alloc hb04'.size _
      have hs4 : w.heap.size ≤ w4.heap.size := hb04'.size
      have c0 : (w4.alloc (.cells #[.string ⟨X.toArray⟩, .string ⟨Y.toArray⟩] 27)).cell? ⟨ok, 0, none⟩ = some (.int .i64 2) := hO4.cell 0
      have c1 : (w4.alloc (.cells #[.string ⟨X.toArray⟩, .string ⟨Y.toArray⟩] 27)).cell? ⟨ok, 1, none⟩ = some (.int .i64 3) := hO4.cell 1
      have c2 : (w4.alloc (.cells #[.string ⟨X.toArray⟩, .string ⟨Y.toArray⟩] 27)).cell? ⟨ok, 2, none⟩ = some (.string ⟨Z32.toArray⟩) := hO4.cell 2
      have c3 : (w4.alloc (.cells #[.string ⟨X.toArray⟩, .string ⟨Y.toArray⟩] 27)).cell? ⟨ok, 3, none⟩ = some (.int .i64 2) := hO4.cell 3
      have c4 : (w4.alloc (.cells #[.string ⟨X.toArray⟩, .string ⟨Y.toArray⟩] 27)).cell? ⟨ok, 4, none⟩ = some (.string ⟨P.toArray⟩) := hO4.cell 4
      have f4 : (w4.alloc (.cells #[.string ⟨X.toArray⟩, .string ⟨Y.toArray⟩] 27)).frozen? ⟨ok, 4, none⟩ = false := hO4.frozen 4
      have hx3 : (⟨P.toArray⟩ : ByteArray) ++ ⟨#[120]⟩ = ⟨(P ++ [120]).toArray⟩ := ba_append P [120]
      have hov : ¬ (9223372036854775807 < P.length + 1) := by have := HPL.out; omega
      have HO4 := Lib.hid hO4
      have HB4 := Lib.hid hb04
      clear hO3 hb3 hb4 hO4 hb04 hb04' he
      go_wp2_with fail
      clear c0 c1 c2 c3 c4 f4 hov hx3
      have hb5 : Below w.heap.size w ((w4.alloc (.cells #[.string ⟨X.toArray⟩, .string ⟨Y.toArray⟩] 27)).setCell ⟨ok, 4, none⟩ (.string ⟨(P ++ [120]).toArray⟩)) := HB4.out.setCell (p := ⟨ok, 4, none⟩) (by show w.heap.size ≤ ok; omega) _
      generalize (w4.alloc (.cells #[.string ⟨X.toArray⟩, .string ⟨Y.toArray⟩] 27)).setCell ⟨ok, 4, none⟩ (.string ⟨(P ++ [120]).toArray⟩) = w5 at *
      have HB5 := Lib.hid hb5
      have HM2 := Lib.hid (makeL_any 2 3 2 Z32 (P ++ [120]) ⟨by decide, by decide⟩ w5 (HV00.out.below hb5))
      clear hb5 HO4 HB4 HSP
      refine HM2.out.mono ?_
      rintro e w6 ⟨he, hb6⟩
      have he := make_big he (ok_may _) (by show 65461 < (P ++ [120]).length; rw [List.length_append, HPL.out]; decide)
      subst he
      unfold objV
      have hb06 : Below w.heap.size w w6 := HB5.out.trans (hb6.mono HB5.out.size)
      have hb07 : Below w.heap.size w (w6.alloc (.cells #[.string ⟨#[]⟩, .string ⟨#[]⟩] 27)) := hb06.alloc hb06.size _
      have HB7 := Lib.hid hb07
      clear hb6 hb06 hb07 HB5 HM2
      go_wp2_with fail
      have hn : ∀ W, Vars W → Calls Tryd.prog 15 #[.string ⟨Z32.toArray⟩, .int .i64 3] W fun e w' => e = .returned (.string ⟨(nameL Z32 3).toArray⟩) ∧ Below W.heap.size W w' := fun W hv => name_any ⟨Z32.toArray⟩ (by decide) 3 ⟨by decide, by decide⟩ W hv
      have hb7 := HB7.out
      generalize w6.alloc (.cells #[.string ⟨#[]⟩, .string ⟨#[]⟩] 27) = w7 at *
      refine (hn w7 (HV00.out.below hb7)).mono ?_
      rintro e w8 ⟨rfl, hb8⟩
      have hb08 : Below w.heap.size w w8 := hb7.trans (hb8.mono hb7.size)
      obtain ⟨N3, hN3⟩ : ∃ x, x = nameL Z32 3 := ⟨_, rfl⟩
      obtain ⟨M, hM⟩ : ∃ M, M = hexL Z32 ++ [46] := ⟨_, rfl⟩
      rw [← hN3]
      have l3 : N3.length = 66 := by rw [hN3, name0]; rfl
      have lM : M.length = 65 := by rw [hM, List.length_append, hex_len]; rfl
      have hs65 : (⟨N3.toArray⟩ : ByteArray).extract 0 65 = ⟨M.toArray⟩ := by
        rw [ext_mk, hN3, name0, hM]; rfl
      have hcat : ∀ x, M ++ x = hexL Z32 ++ 46 :: x := fun x => by rw [hM, List.append_assoc]; rfl
      have hpn : ∀ (x : List UInt8), (∀ n : Nat, n < 12 → Lib.itoa (n : Int) ≠ x) → (M ++ x).length ≤ 1000000 → ∀ W, Vars W → Calls Tryd.prog 13 #[.string ⟨(M ++ x).toArray⟩] W fun e w' => e = .returned (.tuple #[.string ⟨#[]⟩, .int .i64 0, .bool false]) ∧ Below W.heap.size W w' := fun x hx hl W hv => by
        refine (parse_any ⟨(M ++ x).toArray⟩ hl W hv).mono ?_
        rintro e w' ⟨he, hb⟩
        refine ⟨parse_no he ?_, hb⟩
        show ∀ d n, ¬ Parsed (M ++ x) d n
        rw [hcat]; exact no_parse hx
      have hl : ∀ x : List UInt8, x.length ≤ 10 → (M ++ x).length ≤ 1000000 := fun x hx => by rw [List.length_append, lM]; omega
      obtain ⟨A1, e1⟩ : ∃ A, A = M ++ [48, 51] := ⟨_, rfl⟩
      obtain ⟨A2, e2⟩ : ∃ A, A = M ++ [49, 50] := ⟨_, rfl⟩
      obtain ⟨A4, e4⟩ : ∃ A, A = M ++ [45, 49] := ⟨_, rfl⟩
      obtain ⟨A5, e5⟩ : ∃ A, A = M ++ [49, 49] := ⟨_, rfl⟩
      have q1 := hpn [48, 51] not_03 (hl _ (by decide))
      have q2 := hpn [49, 50] not_12 (hl _ (by decide))
      have q3 := hpn [] not_no (hl _ (by decide))
      have q4 := hpn [45, 49] not_neg (hl _ (by decide))
      have q5 : ∀ W, Vars W → Calls Tryd.prog 13 #[.string ⟨A5.toArray⟩] W fun e w' => e = .returned (.tuple #[.string ⟨Z32.toArray⟩, .int .i64 11, .bool true]) ∧ Below W.heap.size W w' := fun W hv => by
        refine (parse_any ⟨A5.toArray⟩ (show A5.length ≤ 1000000 by rw [e5]; exact hl _ (by decide)) W hv).mono ?_
        rintro e w' ⟨he, hb⟩
        exact ⟨parse_of (n := 11) he (by show Parsed A5 Z32 11; rw [e5, hcat]; exact yes_11), hb⟩
      rw [← e1] at q1
      rw [← e2] at q2
      rw [← e4] at q4
      rw [List.append_nil] at q3
      have x1 : (⟨M.toArray⟩ : ByteArray) ++ ⟨#[48, 51]⟩ = ⟨A1.toArray⟩ := by rw [e1]; exact ba_append M [48, 51]
      have x2 : (⟨M.toArray⟩ : ByteArray) ++ ⟨#[49, 50]⟩ = ⟨A2.toArray⟩ := by rw [e2]; exact ba_append M [49, 50]
      have x4 : (⟨M.toArray⟩ : ByteArray) ++ ⟨#[45, 49]⟩ = ⟨A4.toArray⟩ := by rw [e4]; exact ba_append M [45, 49]
      have x5 : (⟨M.toArray⟩ : ByteArray) ++ ⟨#[49, 49]⟩ = ⟨A5.toArray⟩ := by rw [e5]; exact ba_append M [49, 49]
      have Q1 := Lib.hid q1
      have Q2 := Lib.hid q2
      have Q3 := Lib.hid q3
      have Q4 := Lib.hid q4
      have Q5 := Lib.hid q5
      have HB8 := Lib.hid hb08
      clear q1 q2 q3 q4 q5 e1 e2 e4 e5 hpn hl hcat hM hN3 hn hb7 hb8 hb08 HB7
      go_wp2_with fail
      refine (Q1.out w8 (HV00.out.below HB8.out)).mono ?_
      rintro e w9 ⟨rfl, hb9⟩
      have HB9 := Lib.hid (HB8.out.trans (hb9.mono HB8.out.size))
      clear hb9
      go_wp2_with fail
      refine (Q2.out w9 (HV00.out.below HB9.out)).mono ?_
      rintro e w10 ⟨rfl, hb10⟩
      have HB10 := Lib.hid (HB9.out.trans (hb10.mono HB9.out.size))
      clear hb10
      go_wp2_with fail
      refine (Q3.out w10 (HV00.out.below HB10.out)).mono ?_
      rintro e w11 ⟨rfl, hb11⟩
      have HB11 := Lib.hid (HB10.out.trans (hb11.mono HB10.out.size))
      clear hb11
      go_wp2_with fail
      refine (Q4.out w11 (HV00.out.below HB11.out)).mono ?_
      rintro e w12 ⟨rfl, hb12⟩
      have HB12 := Lib.hid (HB11.out.trans (hb12.mono HB11.out.size))
      clear hb12
      go_wp2_with fail
      refine (Q5.out w12 (HV00.out.below HB12.out)).mono ?_
      rintro e w13 ⟨rfl, hb13⟩
      have HB13 := Lib.hid (HB12.out.trans (hb13.mono HB12.out.size))
      clear hb13
      go_wp2_with fail
      have hR : ∀ W, Vars W → Calls Tryd.prog 11 #[.agg #[.string ⟨#[]⟩, .string ⟨#[]⟩]] W fun e w' => e = .returned (.tuple #[.agg #[.int .i64 0, .int .i64 0, .string ⟨#[]⟩, .int .i64 0, .string ⟨#[]⟩], .int .i64 4]) ∧ Below W.heap.size W w' := fun W hv => by
        refine (readL_any [] [] W hv).mono ?_
        rintro e w' ⟨he, hb⟩
        rcases he with ⟨h, _⟩ | ⟨_, rfl⟩
        · exact absurd h.1 (by decide)
        · exact ⟨rfl, hb⟩
      refine (hR w13 (HV00.out.below HB13.out)).mono ?_
      rintro e w14 ⟨rfl, hb14⟩
      have hb014 : Below w.heap.size w w14 := HB13.out.trans (hb14.mono HB13.out.size)
      have hb015 : Below w.heap.size w (w14.alloc (.cells #[.int .i64 0, .int .i64 0, .string ⟨#[]⟩, .int .i64 0, .string ⟨#[]⟩] 25)) := hb014.alloc hb014.size _
      have HB15 := Lib.hid hb015
      clear hR hb14 hb014 hb015 Q1 Q2 Q3 Q4 Q5 hs65 x1 x2 x4 x5
      go_wp2_with (go_at_call 8; refine (awake_any _ (HV00.out.below HB15.out)).mono ?_; rintro e w16 ⟨rfl, hb16⟩)
      go_ret
      exact ⟨rfl, HB15.out.trans (hb16.mono HB15.out.size)⟩

end Shd
end Go.Proofs.YtbcokpnehengfaaDoor
