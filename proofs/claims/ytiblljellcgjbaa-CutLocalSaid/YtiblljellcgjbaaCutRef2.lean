/-
  The walk of the reference's Cut, and of the first example.
-/
import Derived.Test.YtiblljellcgjbaaCutTools
namespace Go.Proofs.Ytiblljellcgjbaa
open Go.RowKit
namespace Cut

theorem piece_extract (s : ByteArray) (f x : Nat) : piece ((s.data.toList.drop f).take (x - f)) = .string (s.extract f x) := by
  unfold piece
  congr 1
  apply ByteArray.ext
  apply Array.toList_inj.1
  simp only [ByteArray.data_extract, Array.toList_extract, List.extract_eq_take_drop]

theorem split_at (L : List Nat) (k : Nat) (h : k < L.length) : L = L.take k ++ L.getD k 0 :: L.drop (k + 1) := by
  rw [List.getD_eq_getElem?_getD, List.getElem?_eq_getElem h, Option.getD_some, ← List.drop_eq_getElem_cons h, List.take_append_drop]
theorem take_snoc' (L : List Nat) (k : Nat) (h : k < L.length) : L.take (k + 1) = L.take k ++ [L.getD k 0] := by
  rw [List.take_succ_eq_append_getElem h, List.getD_eq_getElem?_getD, List.getElem?_eq_getElem h, Option.getD_some]

set_option maxRecDepth 100000 in
set_option maxHeartbeats 2000000 in
theorem rCut_any (s : ByteArray) (hs : s.size ≤ 100000) (w : World) :
    Calls Try.prog 24 #[.string s] w fun e W' =>
      ∃ v, e = .returned v ∧ W'.ownsRow w.heap.size 9 1 v (E s.data.toList).length ((pieces s.data.toList 0 (E s.data.toList)).map piece) ∧ (v = .slice none 0 0 ↔ E s.data.toList = []) ∧ Below w.heap.size w W' := by
  obtain ⟨i0, hi, hz0, hz1, hz2⟩ := info_parts info9
  have hlenE : (E s.data.toList).length ≤ s.size := by have := E_length s.data.toList; simpa using this
  have hbnd : ∀ k, k < (E s.data.toList).length → last 0 ((E s.data.toList).take k) ≤ (E s.data.toList).getD k 0 ∧ (E s.data.toList).getD k 0 ≤ s.size := fun k hk => by
    have h := ends_bounds s.data.toList 0 0 0 (Nat.le_refl _) (by omega) _ _ _ (split_at (E s.data.toList) k hk)
    have e : s.data.toList.length = s.size := by simp
    omega
  go_enter Try.func24, Try.ntmps24
  go_wp2_with fail
  refine (rEnds_any s hs _).mono ?_
  rintro e w1 ⟨v1, rfl, hrow1, hnil1, hbl1⟩
  generalize hLE : E s.data.toList = L at *
  obtain ⟨A1, c1, rfl, f1⟩ := row_form hrow1
  have HLE := Lib.hid hLE
  have HB := Lib.hid hbnd
  clear hnil1 hLE hbnd
  by_cases hz : L.length = 0
  · have hLn : L = [] := List.eq_nil_of_length_eq_zero hz
    have HN := Lib.hid hLn
    have e1 : ¬ (0 : Int) < (L.length : Int) := by omega
    clear hz f1 hLn
    go_wp2_with fail
    go_loop [3, 6] (fun v i => v = .slice none 0 0 ∧ i = .int .i64 0) (fun _ _ => 0)
    case atStart => exact ⟨rfl, rfl⟩
    case round =>
      obtain ⟨rfl, rfl⟩ := hrel
      go_wp2_with fail
      go_ret
      refine ⟨.slice none 0 0, rfl, ?_, ?_, hbl1⟩
      · rw [HLE.out, HN.out]; exact World.ownsRow_nil _ _ _ _
      · rw [HLE.out, HN.out]; simp
  · obtain ⟨g1, cur1, rfl, hg1, hk1, hcur1⟩ := f1 (by omega)
    have hg1lt := hk1.lt
    have hs1 : ∀ j, j < L.length → w1.cell? ⟨g1, j, none⟩ = some (enc (L.getD j 0)) := fun j hj => (hk1.cell j).trans (hcur1 j _ (by simp [List.getD, hj]))
    clear f1 hcur1 hk1
    go_wp2_with fail
    go_loopw [3, 4, 6] (fun v f i wr => ∃ k : Nat, k ≤ L.length ∧ i = .int .i64 k ∧ f = .int .i64 (last 0 (L.take k) : Nat) ∧ wr.ownsRow w1.heap.size 9 1 v k ((pieces s.data.toList 0 (L.take k)).map piece) ∧ (v = .slice none 0 0 ↔ k = 0) ∧
        (∀ j, j < L.length → wr.cell? ⟨g1, j, none⟩ = some (enc (L.getD j 0))) ∧ Below w1.heap.size w1 wr) (fun _ _ i _ => L.length - (intOf i).toNat)
    case atStart => exact ⟨0, Nat.zero_le _, rfl, rfl, World.ownsRow_nil _ _ _ _, by simp, hs1, Below.refl _ _⟩
    case round =>
      obtain ⟨k, hk, rfl, rfl, hrow, hnil, hcs, hbl⟩ := hrel
      have hsz := hbl.size
      by_cases hlt : k < L.length
      · have x1 := hcs k hlt
        have x2 : (wr.alloc (.cells #[.string (s.extract (last 0 (L.take k)) (L.getD k 0))] 9)).cell? ⟨g1, k, none⟩ = some (enc (L.getD k 0)) := (World.cell?_alloc_lt wr _ _ (by simp; omega)).trans x1
        obtain ⟨b1, b2⟩ := HB.out k hlt
        have ht := take_snoc' L k hlt
        have hp := piece_extract s (last 0 (L.take k)) (L.getD k 0)
        have HT := Lib.hid ht
        have HP := Lib.hid hp
        have HC := Lib.hid hcs
        have HNL := Lib.hid hnil
        clear ht hp hcs hs1 hnil
        generalize hx : L.getD k 0 = x at *
        generalize hfe : last 0 (L.take k) = f at *
        have HX := Lib.hid hx
        have HF := Lib.hid hfe
        unfold enc at x1 x2
        have hfx : (f : Int) ≤ (x : Int) := by omega
        have hxs : (x : Int) ≤ (s.size : Int) := by omega
        clear hx hfe
        go_wp2_with (at_builtin; refine wpList_append_own _ rfl _ _ 34 rfl w1.heap.size 9 i0 _ 1 16 Try.underlying34 hi hz0 hz1 hz2 rfl (by decide) _ _ _ rfl (hrow.alloc _) ⟨wr.heap.size, 0, none⟩ 1 1 [.string (s.extract f x)] rfl rfl (cell_one_new _ _ _) (by simp [Value.oneCell']) (by unfold maxLen; omega) (by omega) (by simp; omega) ?_; intro v' w2 hown' hgrow hnil'; have y1 : w2.cell? ⟨g1, k, none⟩ = some (.int .i64 (x : Nat)) := hgrow.cell x2 (fun e => by have := (hrow.lt g1 e.symm).1; omega))
        have hgrow2 : (wr.alloc (.cells #[.string (s.extract f x)] 9)).grownBy w2 u3.ownBlock := hgrow
        have hnil2 : v' = .slice none 0 0 ↔ u3 = .slice none 0 0 ∧ (1 : Nat) = 0 := hnil'
        clear hgrow hnil'
        go_roundw
        case rel =>
          refine ⟨k + 1, by omega, by go_num, ?_, ?_, ?_, ?_, below_row hbl (Nat.le_refl _) hrow (Nat.le_refl _) hgrow2⟩
          · rw [HT.out, last_snoc]
          · rw [HT.out, pieces_snoc, List.map_append, HF.out, List.map_cons, List.map_nil, HP.out]; exact hown'
          · constructor
            · intro h; have := (hnil2.1 h).2; omega
            · intro h; omega
          · intro j hj
            refine hgrow2.cell ((World.cell?_alloc_lt wr _ _ ?_).trans (HC.out j hj)) (fun e => by have := (hrow.lt g1 e.symm).1; omega)
            simp; omega
        case measure => simp [intOf]; omega
      · obtain rfl : k = L.length := by omega
        have HN : Hid (u3 = .slice none 0 0 ↔ L = []) := by
          show u3 = .slice none 0 0 ↔ L = []
          rw [hnil]; exact List.length_eq_zero_iff
        rw [List.take_length] at hrow
        clear hnil
        go_wp2_with fail
        go_ret
        exact ⟨u3, rfl, by rw [HLE.out]; exact ownsRow_base hrow hbl1.size, by rw [HLE.out]; exact HN.out, hbl1.trans (hbl.mono hbl1.size)⟩

/-- 63 bytes, one byte, none -/
def S63 : ByteArray := ⟨(List.replicate 63 97).toArray⟩
def S1 : ByteArray := ⟨(List.replicate 1 97).toArray⟩
theorem S63_size : S63.size = 63 := by decide +kernel
theorem S1_size : S1.size = 1 := by decide +kernel
theorem S63_E : E S63.data.toList = [63] := by decide +kernel
theorem S1_E : E S1.data.toList = [1] := by decide +kernel
theorem S63_P : (pieces S63.data.toList 0 [63]).map piece = [.string S63] := by
  rw [show pieces S63.data.toList 0 [63] = [List.replicate 63 97] from by decide +kernel]
  rfl

set_option maxHeartbeats 2000000 in
/-- the first example -/
theorem awake_true (w : World) :
    Calls Try.prog 21 #[] w fun e w' => e = .returned (.bool true) ∧ Below w.heap.size w w' := by
  have T63 : ∀ (W : World), Calls Try.prog 28 #[.int .i64 63, .int .u8 97] W fun e w' => e = .returned (.string S63) ∧ Below W.heap.size W w' := fun W => times_any 63 97 (by omega) _ _ rfl rfl W
  have T1 : ∀ (W : World), Calls Try.prog 28 #[.int .i64 1, .int .u8 97] W fun e w' => e = .returned (.string S1) ∧ Below W.heap.size W w' := fun W => times_any 1 97 (by omega) _ _ rfl rfl W
  have H63 := Lib.hid T63
  have H1 := Lib.hid T1
  clear T63 T1
  go_enter Try.func21, Try.ntmps21
  go_wp2_with fail
  refine (H63.out _).mono ?_
  rintro e w1 ⟨rfl, hb1⟩
  go_wp2_with fail
  refine (Cut_any S63 (by rw [S63_size]; omega) _).mono ?_
  rintro e w2 ⟨v, rfl, hrow, hnil, hb2⟩
  rw [S63_E, S63_P] at hrow
  obtain ⟨A, c, rfl, f1⟩ := row_form hrow
  obtain ⟨g, cur, rfl, hg, hk, hcur⟩ := f1 (by simp)
  have hc := (hk.cell 0).trans (hcur 0 _ rfl)
  have hs63 := S63_size
  have hb12 := hb1.trans (hb2.mono hb1.size)
  clear hnil f1 hrow hk hcur hg
  go_wp2_with fail
  refine (Cut_any _ (by decide) _).mono ?_
  rintro e w3 ⟨v, rfl, hrow, hnil, hb3⟩
  have hv := hnil.2 (by rfl)
  subst hv
  clear hrow hnil
  have hb13 := hb12.trans (hb3.mono hb12.size)
  go_wp2_with fail
  refine (H1.out _).mono ?_
  rintro e w4 ⟨rfl, hb4⟩
  have hb14 := hb13.trans (hb4.mono hb13.size)
  go_wp2_with fail
  refine (Ends_any S1 (by rw [S1_size]; omega) _).mono ?_
  rintro e w5 ⟨v, rfl, hrow, hnil, hb5⟩
  rw [S1_E] at hrow
  obtain ⟨A, c, rfl, f1⟩ := row_form hrow
  have hb15 := hb14.trans (hb5.mono hb14.size)
  clear hnil f1 hrow
  go_wp2_with fail
  go_ret
  exact ⟨rfl, hb15⟩

end Cut
end Go.Proofs.Ytiblljellcgjbaa
