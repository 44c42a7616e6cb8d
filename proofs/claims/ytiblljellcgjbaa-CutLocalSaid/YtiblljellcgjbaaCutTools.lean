/-
  The walks of the small functions of layer 14's statements: times, ints, texts; the reference's Cut.
-/
import Derived.Test.YtiblljellcgjbaaCutRef
import Derived.Test.YtiblljellcgjbaaRow
import Derived.Deep.QuietTactic
import Derived.BigQuiet
import Derived.RegionTactic
namespace Go.Proofs.Ytiblljellcgjbaa
open Go.RowKit
namespace Cut

theorem row_step (x : UInt8) (m k : Nat) (h : k < m) : (List.replicate k x ++ List.replicate (m - k) 0).set k x = List.replicate (k + 1) x ++ List.replicate (m - (k + 1)) 0 := by
  rw [List.set_append_right _ _ (by simp), List.length_replicate, Nat.sub_self, show m - k = (m - (k + 1)) + 1 by omega, List.replicate_succ, List.set_cons_zero, List.replicate_succ']
  simp
theorem mkBytes (n : Nat) (hn : n ≤ 100000) (W : World) :
    (Instr.makeSlice 29 (.int .i64 (n : Int)) (.int .i64 (n : Int))).run Try.prog W = .ok (.slice (some ⟨W.heap.size, 0, none⟩) n n) (W.alloc (.cells (nums (List.replicate n 0)) 5)) := by
  rw [run_mk (P := Try.prog) (z := .int .u8 0) (bytes := 1) Try.underlying29 (by kernel_rfl) rfl n (by omega) (by omega) W, nums_zero]

set_option maxHeartbeats 1000000 in
/-- a byte, so often -/
theorem times_any (m : Nat) (x : UInt8) (hm : m ≤ 100000) (n b : Int) (hn : n = (m : Int)) (hb : b = (x.toNat : Int)) (w : World) :
    Calls Try.prog 28 #[.int .i64 n, .int .u8 b] w fun e w' => e = .returned (.string ⟨(List.replicate m x).toArray⟩) ∧ Below w.heap.size w w' := by
  subst hn
  subst hb
  have hk := mkBytes m hm
  go_enter Try.func28, Try.ntmps28
  go_wp2_with fail
  clear hk
  have hB := Blk.new w 5 (nums (List.replicate m 0))
  go_loopw [6] (fun i wr => ∃ k : Nat, k ≤ m ∧ i = .int .i64 k ∧ Blk wr w.heap.size 5 (nums (List.replicate k x ++ List.replicate (m - k) 0)) ∧ Below w.heap.size w wr) (fun i _ => m - (intOf i).toNat)
  case atStart => exact ⟨0, Nat.zero_le _, rfl, by simpa using hB, (Below.refl _ _).alloc (Nat.le_refl _) _⟩
  case round =>
    obtain ⟨k, hk, rfl, hB1, hb2⟩ := hrel
    by_cases hlt : k < m
    · have hc := hB1.cell k
      have hf := hB1.frozen k
      rw [nums_get _ _ (by simp; omega)] at hc
      have HB := hB1.set_ k (.int .u8 (x.toNat : Int))
      rw [nums_set, row_step x m k hlt] at HB
      have HBH := Lib.hid HB
      clear HB hB hB1
      go_wp2_with fail
      go_roundw
      case rel => exact ⟨k + 1, by omega, by go_num, HBH.out, hb2.setCell (p := ⟨_, _, none⟩) (Nat.le_refl _) _⟩
      case measure => simp [intOf]; omega
    · obtain rfl : k = m := by omega
      have hB2 : Blk wr w.heap.size 5 (nums (List.replicate k x) ++ #[]) := by simpa using hB1
      have ht := run_text (P := Try.prog) Try.underlying29 Try.underlying5 Try.underlying9 (cap := k) hB2
      rw [List.length_replicate] at ht
      clear hB hB1 hB2 hlt
      go_wp2_with fail
      go_ret
      exact ⟨by simp, hb2⟩

set_option maxHeartbeats 1000000 in
/-- the same numbers -/
theorem ints_true (L : List Nat) (b1 b2 : Nat) (v1 v2 : Value) (w : World) (hL : L.length ≤ 100000) (B : Nat) (hB1 : B ≤ b1) (h1 : w.ownsRow b1 3 1 v1 L.length (L.map enc)) (h2 : w.ownsRow b2 3 1 v2 L.length (L.map enc)) (hne : L ≠ [] → v1.ownBlock ≠ v2.ownBlock) :
    Calls Try.prog 25 #[v1, v2] w fun e w' => e = .returned (.bool true) ∧ Below B w w' := by
  obtain ⟨A1, c1, rfl, f1⟩ := row_form h1
  obtain ⟨A2, c2, rfl, f2⟩ := row_form h2
  by_cases hz : L.length = 0
  · have e1 : ¬ (0 : Int) < (L.length : Int) := by omega
    have HZ := Lib.hid hz
    clear hz f1 f2 hne
    go_enter Try.func25, Try.ntmps25
    go_wp2_with fail
    go_loop [5] (fun i => i = .int .i64 0) (fun _ => 0)
    case atStart => rfl
    case round =>
      obtain rfl := hrel
      go_wp2_with fail
      go_ret
      exact ⟨rfl, Below.refl _ _⟩
  · obtain ⟨g1, cur1, rfl, hg1, hk1, hcur1⟩ := f1 (by omega)
    obtain ⟨g2, cur2, rfl, hg2, hk2, hcur2⟩ := f2 (by omega)
    have hg : g1 ≠ g2 := fun e => hne (fun h => hz (by rw [h]; rfl)) (by rw [e]; rfl)
    have hget : ∀ j, j < L.length → (L.map enc)[j]? = some (enc (L.getD j 0)) := fun j hj => by simp [List.getD, hj]
    have hs1 : ∀ j, 0 ≤ j → j < L.length → w.cell? ⟨g1, j, none⟩ = some (enc (L.getD j 0)) := fun j _ hj => (hk1.cell j).trans (hcur1 j _ (hget j hj))
    have hs2 : ∀ j, j < L.length → w.cell? ⟨g2, j, none⟩ = some (enc (L.getD j 0)) := fun j hj => (hk2.cell j).trans (hcur2 j _ (hget j hj))
    have hs3 : ∀ j, w.frozen? ⟨g1, j, none⟩ = false := fun j => hk1.frozen j
    have HG := Lib.hid hg
    clear f1 f2 hne hcur1 hcur2 hk1 hk2 hget hg
    go_enter Try.func25, Try.ntmps25
    go_wp2_with fail
    go_loopw [5] (fun i wr => ∃ k : Nat, k ≤ L.length ∧ i = .int .i64 k ∧ (∀ j, k ≤ j → j < L.length → wr.cell? ⟨g1, j, none⟩ = some (enc (L.getD j 0))) ∧ (∀ j, j < L.length → wr.cell? ⟨g2, j, none⟩ = some (enc (L.getD j 0))) ∧ (∀ j, wr.frozen? ⟨g1, j, none⟩ = false) ∧ Below B w wr) (fun i _ => L.length - (intOf i).toNat)
    case atStart => exact ⟨0, Nat.zero_le _, rfl, hs1, hs2, hs3, Below.refl _ _⟩
    case round =>
      obtain ⟨k, hk, rfl, hc1, hc2, hf, hbl⟩ := hrel
      by_cases hlt : k < L.length
      · have x1 := hc1 k (Nat.le_refl _) hlt
        have x2 := hc2 k hlt
        have x3 := hf k
        have H1 := Lib.hid hc1
        have H2 := Lib.hid hc2
        have H3 := Lib.hid hf
        clear hc1 hc2 hf hs1 hs2 hs3
        unfold enc at x1 x2
        generalize hx : L.getD k 0 = x at *
        clear hx
        go_wp2_with fail
        go_region
        all_goals
          go_wp2_with fail
          go_roundw
          case rel =>
            refine ⟨k + 1, by omega, by go_num, fun j hj hl => ?_, fun j hl => ?_, fun j => ?_, (hbl.drew).setCell (p := ⟨g1, k, none⟩) (by simp; omega) _⟩
            · exact (World.cell?_setCell_other _ _ _ _ (by intro e; injection e; omega)).trans (H1.out j (by omega) hl)
            · exact (World.cell?_setCell_other _ _ _ _ (by intro e; injection e with e1; exact HG.out e1)).trans (H2.out j hl)
            · exact (World.frozen?_setCell wr _ _ _).trans (H3.out j)
          case measure => simp [intOf]; omega
      · go_wp2_with fail
        go_ret
        exact ⟨rfl, hbl⟩

set_option maxHeartbeats 1000000 in
/-- the same texts -/
theorem texts_true (L : List (List UInt8)) (b1 b2 : Nat) (v1 v2 : Value) (w : World) (hL : L.length ≤ 100000) (B : Nat) (hB1 : B ≤ b1) (h1 : w.ownsRow b1 9 1 v1 L.length (L.map piece)) (h2 : w.ownsRow b2 9 1 v2 L.length (L.map piece)) (hne : L ≠ [] → v1.ownBlock ≠ v2.ownBlock) :
    Calls Try.prog 22 #[v1, v2] w fun e w' => e = .returned (.bool true) ∧ Below B w w' := by
  obtain ⟨A1, c1, rfl, f1⟩ := row_form h1
  obtain ⟨A2, c2, rfl, f2⟩ := row_form h2
  by_cases hz : L.length = 0
  · have e1 : ¬ (0 : Int) < (L.length : Int) := by omega
    have HZ := Lib.hid hz
    clear hz f1 f2 hne
    go_enter Try.func22, Try.ntmps22
    go_wp2_with fail
    go_loop [5] (fun i => i = .int .i64 0) (fun _ => 0)
    case atStart => rfl
    case round =>
      obtain rfl := hrel
      go_wp2_with fail
      go_ret
      exact ⟨rfl, Below.refl _ _⟩
  · obtain ⟨g1, cur1, rfl, hg1, hk1, hcur1⟩ := f1 (by omega)
    obtain ⟨g2, cur2, rfl, hg2, hk2, hcur2⟩ := f2 (by omega)
    have hg : g1 ≠ g2 := fun e => hne (fun h => hz (by rw [h]; rfl)) (by rw [e]; rfl)
    have hget : ∀ j, j < L.length → (L.map piece)[j]? = some (piece (L.getD j [])) := fun j hj => by simp [List.getD, hj]
    have hs1 : ∀ j, 0 ≤ j → j < L.length → w.cell? ⟨g1, j, none⟩ = some (piece (L.getD j [])) := fun j _ hj => (hk1.cell j).trans (hcur1 j _ (hget j hj))
    have hs2 : ∀ j, j < L.length → w.cell? ⟨g2, j, none⟩ = some (piece (L.getD j [])) := fun j hj => (hk2.cell j).trans (hcur2 j _ (hget j hj))
    have hs3 : ∀ j, w.frozen? ⟨g1, j, none⟩ = false := fun j => hk1.frozen j
    have HG := Lib.hid hg
    clear f1 f2 hne hcur1 hcur2 hk1 hk2 hget hg
    go_enter Try.func22, Try.ntmps22
    go_wp2_with fail
    go_loopw [5] (fun i wr => ∃ k : Nat, k ≤ L.length ∧ i = .int .i64 k ∧ (∀ j, k ≤ j → j < L.length → wr.cell? ⟨g1, j, none⟩ = some (piece (L.getD j []))) ∧ (∀ j, j < L.length → wr.cell? ⟨g2, j, none⟩ = some (piece (L.getD j []))) ∧ (∀ j, wr.frozen? ⟨g1, j, none⟩ = false) ∧ Below B w wr) (fun i _ => L.length - (intOf i).toNat)
    case atStart => exact ⟨0, Nat.zero_le _, rfl, hs1, hs2, hs3, Below.refl _ _⟩
    case round =>
      obtain ⟨k, hk, rfl, hc1, hc2, hf, hbl⟩ := hrel
      by_cases hlt : k < L.length
      · have x1 := hc1 k (Nat.le_refl _) hlt
        have x2 := hc2 k hlt
        have x3 := hf k
        have H1 := Lib.hid hc1
        have H2 := Lib.hid hc2
        have H3 := Lib.hid hf
        clear hc1 hc2 hf hs1 hs2 hs3
        unfold piece at x1 x2
        generalize hx : L.getD k [] = x at *
        clear hx
        go_wp2_with fail
        go_region
        all_goals
          go_wp2_with fail
          go_roundw
          case rel =>
            refine ⟨k + 1, by omega, by go_num, fun j hj hl => ?_, fun j hl => ?_, fun j => ?_, (hbl.drew).setCell (p := ⟨g1, k, none⟩) (by simp; omega) _⟩
            · exact (World.cell?_setCell_other _ _ _ _ (by intro e; injection e; omega)).trans (H1.out j (by omega) hl)
            · exact (World.cell?_setCell_other _ _ _ _ (by intro e; injection e with e1; exact HG.out e1)).trans (H2.out j hl)
            · exact (World.frozen?_setCell wr _ _ _).trans (H3.out j)
          case measure => simp [intOf]; omega
      · go_wp2_with fail
        go_ret
        exact ⟨rfl, hbl⟩

end Cut
end Go.Proofs.Ytiblljellcgjbaa
