/-
  The walks of cut.Ends and cut.Cut.
-/
import Derived.Test.YtiblljellcgjbaaCutWalks
namespace Go.Proofs.Ytiblljellcgjbaa
open Go.RowKit Go.Shelf
attribute [local go_sem] Oper.semAt_some
namespace Cut

theorem info3 : (Try.prog.info? 3).map (fun i => (i.zero, i.size, i.bytes)) = some (some (.int .i64 0), 1, 8) := by kernel_rfl
theorem info9 : (Try.prog.info? 9).map (fun i => (i.zero, i.size, i.bytes)) = some (some (.string ⟨#[]⟩), 1, 16) := by kernel_rfl

theorem keeps_t {B : Nat} {X Y Z : World} (h : Keeps B X Y) (k : Keeps B Y Z) : Keeps B X Z := Eq.trans k h
theorem keeps_b {B : Nat} {w : World} (hB : B < w.heap.size) (W : World) (l : Nat) (o o' : Obj) (hl : w.heap.size ≤ l) (_ : W.heap[l]? = some o) (_ : o.isCells = false) (_ : o.isWalk = false) : Keeps B W (W.putObj l o') :=
  World.putObj_heap_other (by omega)

theorem ownsRow_base {w : World} {b b' : Nat} {e : TypeId} {size : Nat} {v : Value} {n : Nat} {xs : List Value} (h : w.ownsRow b e size v n xs) (hb : b' ≤ b) : w.ownsRow b' e size v n xs := by
  refine ⟨h.1, ?_⟩
  rcases h.2 with h2 | ⟨g, cap, cur, h2, h3, h4⟩
  · exact .inl h2
  · exact .inr ⟨g, cap, cur, h2, by omega, h4⟩
def enc (x : Nat) : Value := .int .i64 (x : Nat)

set_option maxRecDepth 100000 in
set_option maxHeartbeats 2000000 in
theorem appendSeq_any (n : Nat) (hn : 4 ≤ n) (Bn : Nat) (s : ByteArray) (hs : s.size ≤ 100000) (w : World) (hB : Blk w Bn 9 #[.string s]) :
    CallsIn Fence.wide n Try.prog 35 #[.slice none 0 0, .func (.func 34) #[] #[.pointer (some ⟨Bn, 0, none⟩)]] w fun e W' =>
      ∃ v, e = .returned v ∧ W'.ownsRow w.heap.size 3 1 v (E s.data.toList).length ((E s.data.toList).map enc) ∧ (v = .slice none 0 0 ↔ E s.data.toList = []) ∧ Below w.heap.size w W' := by
  have h1 : 1 ≤ n := by omega
  obtain ⟨i0, hi, hz0, hz1, hz2⟩ := info_parts info3
  refine callsIn_of_wp_marks Try.func35 rfl trivial ?_ rfl
  simp only [Try.ntmps35, List.size_toArray, List.length_cons, List.length_nil, Nat.reduceAdd, Nat.reduceSub, Array.replicate_succ, Array.replicate_zero, List.push_toArray, List.append_toArray, List.nil_append, List.cons_append]
  have hlenE : (E s.data.toList).length ≤ s.size := by have := E_length s.data.toList; simpa using this
  gi_wp2
  have bO := Boxed.new w 37 (.slice none 0 0)
  have hBw := hB.alloc (.cells #[.slice none 0 0] 37)
  have hltB := hB.lt
  have hB0 : Below w.heap.size w (w.alloc (.cells #[.slice none 0 0] 37)) := (Below.refl _ w).alloc (Nat.le_refl _) _
  refine range_ok h1 (gf := 34) (lb := #[.pointer (some ⟨Bn, 0, none⟩)]) rfl (enters_of Try.func34 (by kernel_rfl) rfl)
    (ends_stops (n - 1) (by omega) Bn s (by omega) _ hBw) keeps_t (keeps_b (by simp; omega)) (Below.refl _ _) (fun _ => rfl)
    (fun pre W => (∃ v, Boxed W w.heap.size 37 v ∧ W.ownsRow w.heap.size 3 1 v pre.length (pre.map enc) ∧ (v = .slice none 0 0 ↔ pre = [])) ∧ Below w.heap.size w W)
    (fun _ _ _ => False)
    (OwnFrom.and (Own.from (holdsRow_own w.heap.size w.heap.size 37 3 1 (fun pre : List Nat => pre.length) (fun pre => pre.map enc) (fun pre v => v = .slice none 0 0 ↔ pre = [])) _) (ownFrom_below (Nat.le_refl _) (by simp)))
    (fun _ _ _ _ _ hs _ _ => hs)
    ⟨⟨_, bO, World.ownsRow_nil _ _ _ _, by simp⟩, hB0⟩
    (fun x => { tmps := #[.slice none 0 0, .func (.func 34) #[] #[.pointer (some ⟨Bn, 0, none⟩)], .pointer (some ⟨w.heap.size, 0, none⟩), undef, .slice none 0 0, .int .i64 (x : Nat), .func (.func 34) #[] #[.pointer (some ⟨Bn, 0, none⟩)], .int .i64 (x : Nat), undef, undef, undef, undef, undef], defers := [] }) ?assign ?body ?done ?stop
  case assign =>
    intro l x W K hK
    gi_wp2
    exact hK
  case body =>
    rintro l pre x W ⟨⟨v, hv, hrow, hnil⟩, hBl⟩ hpx
    have hlt : pre.length < (E s.data.toList).length := by have := hpx.length_le; simp at this; omega
    have hc := hv.cell
    clear hnil hpx
    gi_wp2_with (gi_at_builtin; refine wpListIn_append_own _ rfl _ _ 37 rfl w.heap.size 3 i0 (.int .i64 0) 1 8 Try.underlying37 hi hz0 hz1 hz2 rfl (by decide) _ _ _ rfl (hrow.alloc _) ⟨W.heap.size, 0, none⟩ 1 1 [enc x] rfl rfl (cell_one_new _ _ _) (by simp [Value.oneCell', enc]) (by unfold maxLen; omega) (by omega) (by have := hBl.size; simp; omega) ?_; intro v' w1 hown' hgrow _; obtain ⟨g', cap', rfl⟩ := ownsRow_succ hown'; obtain ⟨hv1, hv2, hr2, hk2, hb2⟩ := hv.appended (by decide) hrow hBl.size (Nat.le_refl _) hown' hgrow; have hc1 := hv1.cell; have hf1 := hv1.frozen)
    exact ⟨hk2.from _, hb2.block Bn hltB, ⟨_, hv2, by simpa using hr2, by simp⟩, hBl.trans hb2⟩
  case done =>
    rintro D ys W hD rfl ⟨⟨v, hv, hrow, hnil⟩, hBl⟩ hK
    have hc := hv.cell
    gi_wp2
    refine ⟨by simp, .inl ⟨_, _, rfl, run_takeDeferred hK, ?_⟩⟩
    exact ⟨_, results_tmp rfl _ _ _, v, rfl, ownsRow_putObj hrow _ hK rfl, hnil, hBl.trans (belowK_b (w := w) (Nat.le_refl _) W D _ _ (by simp at hD; omega) hK rfl rfl)⟩
  case stop =>
    rintro D c pre W _ _ h _
    exact h.elim

set_option maxHeartbeats 1000000 in
theorem collect_any (Bn : Nat) (s : ByteArray) (hs : s.size ≤ 100000) (w : World) (hB : Blk w Bn 9 #[.string s]) :
    Calls Try.prog 33 #[.func (.func 34) #[] #[.pointer (some ⟨Bn, 0, none⟩)]] w fun e W' =>
      ∃ v, e = .returned v ∧ W'.ownsRow w.heap.size 3 1 v (E s.data.toList).length ((E s.data.toList).map enc) ∧ (v = .slice none 0 0 ↔ E s.data.toList = []) ∧ Below w.heap.size w W' := by
  have HA := Lib.hid (callsIn_wide.1 (appendSeq_any 4 (Nat.le_refl _) Bn s hs w hB))
  go_enter Try.func33, Try.ntmps33
  go_wp2_with fail
  refine HA.out.mono ?_
  rintro e W' ⟨v, rfl, hrow, hnil, hbl⟩
  have HN := Lib.hid hnil
  clear hnil
  go_wp2_with fail
  go_ret
  exact ⟨v, rfl, hrow, HN.out, hbl⟩

set_option maxHeartbeats 1000000 in
theorem Ends_any (s : ByteArray) (hs : s.size ≤ 100000) (w : World) :
    Calls Try.prog 26 #[.string s] w fun e W' =>
      ∃ v, e = .returned v ∧ W'.ownsRow w.heap.size 3 1 v (E s.data.toList).length ((E s.data.toList).map enc) ∧ (v = .slice none 0 0 ↔ E s.data.toList = []) ∧ Below w.heap.size w W' := by
  have hB := Blk.new w 9 #[.string s]
  have HC := Lib.hid (collect_any w.heap.size s hs _ hB)
  clear hB
  go_enter Try.func26, Try.ntmps26
  go_wp2_with fail
  refine (ends_any s _).mono ?_
  rintro e w' ⟨rfl, rfl⟩
  go_wp2_with fail
  refine HC.out.mono ?_
  rintro e W' ⟨v, rfl, hrow, hnil, hbl⟩
  have HN := Lib.hid hnil
  clear hnil HC
  go_wp2_with fail
  go_ret
  refine ⟨v, rfl, ?_, HN.out, ((Below.refl _ _).alloc (Nat.le_refl _) _).trans (hbl.mono (by simp))⟩
  exact ownsRow_base hrow (by simp)

def piece (l : List UInt8) : Value := .string ⟨l.toArray⟩

attribute [local go_sem ↓] appSem_eq

set_option maxRecDepth 100000 in
set_option maxHeartbeats 2000000 in
theorem Cut_any (s : ByteArray) (hs : s.size ≤ 100000) (w : World) :
    Calls Try.prog 23 #[.string s] w fun e W' =>
      ∃ v, e = .returned v ∧ W'.ownsRow w.heap.size 9 1 v (E s.data.toList).length ((pieces s.data.toList 0 (E s.data.toList)).map piece) ∧ (v = .slice none 0 0 ↔ E s.data.toList = []) ∧ Below w.heap.size w W' := by
  refine (callsIn_wide (n := 5)).1 ?_
  have h1 : 1 ≤ 5 := by omega
  have hw32 : Fence.wide.fn 32 := trivial
  obtain ⟨i0, hi, hz0, hz1, hz2⟩ := info_parts info9
  refine callsIn_of_wp_marks Try.func23 rfl trivial ?_ rfl
  simp only [Try.ntmps23, List.size_toArray, List.length_cons, List.length_nil, Nat.reduceAdd, Nat.reduceSub, Array.replicate_succ, Array.replicate_zero, List.push_toArray, List.append_toArray, List.nil_append, List.cons_append]
  have hlenE : (E s.data.toList).length ≤ s.size := by have := E_length s.data.toList; simpa using this
  gi_wp2_with (gi_at_call 32; refine (callsIn_wide.2 (ends_any s _)).mono ?_; rintro e w' ⟨rfl, rfl⟩)
  have bS := Boxed.new w 9 (.string s)
  have bO := Boxed.new (w.alloc (.cells #[.string s] 9)) 34 (.slice none 0 0)
  have bF := Boxed.new ((w.alloc (.cells #[.string s] 9)).alloc (.cells #[.slice none 0 0] 34)) 3 (.int .i64 0)
  have bD := Boxed.new (((w.alloc (.cells #[.string s] 9)).alloc (.cells #[.slice none 0 0] 34)).alloc (.cells #[.int .i64 0] 3)) 9 (.string s)
  simp only [World.size_alloc] at bO bF bD
  have hB0 : Below w.heap.size w ((((w.alloc (.cells #[.string s] 9)).alloc (.cells #[.slice none 0 0] 34)).alloc (.cells #[.int .i64 0] 3)).alloc (.cells #[.string s] 9)) := ((((Below.refl _ w).alloc (Nat.le_refl _) _).alloc (by simp) _).alloc (by simp; omega) _).alloc (by simp; omega) _
  have hsz : ((((w.alloc (.cells #[.string s] 9)).alloc (.cells #[.slice none 0 0] 34)).alloc (.cells #[.int .i64 0] 3)).alloc (.cells #[.string s] 9)).heap.size = w.heap.size + 4 := by simp
  have bS3 := ((bS.alloc (.cells #[.slice none 0 0] 34)).alloc (.cells #[.int .i64 0] 3)).alloc (.cells #[.string s] 9)
  have bO3 := (bO.alloc (.cells #[.int .i64 0] 3)).alloc (.cells #[.string s] 9)
  have bF3 := bF.alloc (.cells #[.string s] 9)
  clear bS bO bF
  generalize ((((w.alloc (.cells #[.string s] 9)).alloc (.cells #[.slice none 0 0] 34)).alloc (.cells #[.int .i64 0] 3)).alloc (.cells #[.string s] 9)) = w4 at *
  have e2 : w.heap.size + 1 + 1 = w.heap.size + 2 := rfl
  have e3 : w.heap.size + 2 + 1 = w.heap.size + 3 := rfl
  rw [e2] at *
  rw [e3] at *
  clear e2 e3
  refine range_ok h1 (gf := 34) (lb := #[.pointer (some ⟨w.heap.size + 3, 0, none⟩)]) rfl (enters_of Try.func34 (by kernel_rfl) rfl)
    (ends_stops 4 (by omega) (w.heap.size + 3) s (by omega) _ bD) keeps_t (keeps_b (by omega)) (Below.refl _ _) (fun _ => rfl)
    (fun pre W => (∃ v, Boxed W (w.heap.size + 1) 34 v ∧ W.ownsRow (w.heap.size + 4) 9 1 v (pieces s.data.toList 0 pre).length ((pieces s.data.toList 0 pre).map piece) ∧ (v = .slice none 0 0 ↔ pre = [])) ∧ (Boxed W w.heap.size 9 (.string s) ∧ Boxed W (w.heap.size + 2) 3 (enc (last 0 pre)) ∧ w.heap.size + 4 ≤ W.heap.size) ∧ Below w.heap.size w W)
    (fun _ _ _ => False)
    (OwnFrom.and (Own.from (holdsRow_own (w.heap.size + 4) (w.heap.size + 1) 34 9 1 (fun pre : List Nat => (pieces s.data.toList 0 pre).length) (fun pre => (pieces s.data.toList 0 pre).map piece) (fun pre v => v = .slice none 0 0 ↔ pre = [])) _)
      (OwnFrom.and (OwnFrom.and (Own.from (boxed_own _ _ _) _) (OwnFrom.and (Own.from (boxed_own _ _ _) _) (fun _ _ _ _ hs hg _ => Nat.le_trans hs hg.size))) (ownFrom_below (Nat.le_refl _) (by omega))))
    (fun _ _ _ _ _ hs _ _ => hs)
    ⟨⟨_, bO3, World.ownsRow_nil _ _ _ _, by simp⟩, ⟨bS3, bF3, by omega⟩, hB0⟩
    (fun x => { tmps := #[.string s, .pointer (some ⟨w.heap.size, 0, none⟩), .slice none 0 0, .pointer (some ⟨w.heap.size + 1, 0, none⟩), .pointer (some ⟨w.heap.size + 2, 0, none⟩), .int .i64 (x : Nat), .string s, .func (.func 34) #[] #[.pointer (some ⟨w.heap.size + 3, 0, none⟩)], .int .i64 (x : Nat), undef, undef, undef, undef, undef, undef, undef, undef, undef], defers := [] }) ?assign ?body ?done ?stop
  case assign =>
    intro l x W K hK
    gi_wp2
    exact hK
  case body =>
    rintro l pre x W ⟨⟨v, hv, hrow, hnil⟩, ⟨hS, hF, hz⟩, hBl⟩ hpx
    have hlt : pre.length < (E s.data.toList).length := by have := hpx.length_le; simp at this; omega
    obtain ⟨suf, hsuf⟩ := hpx
    obtain ⟨b1, b2, b3⟩ := ends_bounds s.data.toList 0 0 0 (Nat.le_refl _) (by omega) pre x suf (by rw [List.append_assoc] at hsuf; exact hsuf.symm)
    rw [Nat.zero_add, Array.length_toList] at b2
    rw [pieces_length] at hrow
    have hc1 := hv.cell
    have hf1 := hv.frozen
    have hc2 := hS.cell
    have hc3 := hF.cell
    have hf3 := hF.frozen
    have hmix : Try.prog.follows .mixedOrders = true := by kernel_rfl
    generalize hfe : last 0 pre = f at *
    have hx1 : s.data.size = s.size := rfl
    rw [hx1] at b2
    obtain ⟨v', w1, hrun, hown', hgrow, _, hat⟩ := run_append_own_at (P := Try.prog) (W.alloc (.cells #[.string (s.extract f x)] 9)).drew (w.heap.size + 4) 34 34 9 i0 _ 1 16 Try.underlying34 hi hz0 hz1 hz2 rfl (by decide) v pre.length _ (hrow.alloc _) ⟨W.heap.size, 0, none⟩ 1 1 [.string (s.extract f x)] rfl (cell_one_new _ _ _) (by simp [Value.oneCell']) (by unfold maxLen; omega) (by omega) (by simp; omega)
    rw [appSem_eq] at hrun
    obtain ⟨g', cap', rfl⟩ := ownsRow_succ hown'
    have hne : ∀ k, k < w.heap.size + 4 → some k ≠ v.ownBlock := fun k hk e => by have := (hrow.lt k e.symm).1; omega
    have hne' : ∀ k, k < w.heap.size + 4 → some k ≠ (Value.slice (some ⟨g', 0, none⟩) (pre.length + 1) cap').ownBlock := fun k hk e => by have := (hown'.lt k e.symm).1; omega
    have hblk : ∀ k, k < w.heap.size + 4 → w1.heap[k]? = W.heap[k]? := fun k hk => (hgrow.block k (by simp; omega) (hne k hk)).trans (Below.heap_alloc W _ k (by omega))
    have hv1 : Boxed w1 (w.heap.size + 1) 34 v := (hblk _ (by omega)).trans hv
    have hF1 : Boxed w1 (w.heap.size + 2) 3 (enc f) := (hblk _ (by omega)).trans hF
    have hS1 : Boxed w1 w.heap.size 9 (.string s) := (hblk _ (by omega)).trans hS
    have hk1 : KeepsOthers W w1 := by
      refine ((KeepsOthers.alloc W (.cells #[.string (s.extract f x)] 9)).trans (KeepsOthers.drew _)).trans (KeepsOthers.of_grownBy hgrow fun j o ej hj => ?_)
      rcases (hrow.alloc (.cells #[.string (s.extract f x)] 9)).2 with ⟨rfl, _⟩ | ⟨g, cap, cur, rfl, _, hgb, _⟩
      · simp [Value.ownBlock] at ej
      · obtain rfl : g = j := by simpa [Value.ownBlock] using ej
        rw [show (W.alloc (.cells #[.string (s.extract f x)] 9)).drew.heap[g]? = (W.alloc (.cells #[.string (s.extract f x)] 9)).heap[g]? from rfl, hgb] at hj; cases hj; rfl
    have hsz1 : w.heap.size + 4 ≤ w1.heap.size := by have h := hgrow.size; simp at h; omega
    have hBl1 : Below w.heap.size w w1 := hBl.trans ⟨hgrow.os, hgrow.tape, hgrow.output, by have h := hgrow.size; simp at h; omega, fun k hk => hblk k (by omega)⟩
    obtain ⟨w5, hw5⟩ : ∃ w5, w5 = (w1.setCell ⟨w.heap.size + 1, 0, none⟩ (.slice (some ⟨g', 0, none⟩) (pre.length + 1) cap')).setCell ⟨w.heap.size + 2, 0, none⟩ (.int .i64 (x : Nat)) := ⟨_, rfl⟩
    have hpc : piece ((s.data.toList.drop f).take (x - f)) = .string (s.extract f x) := by
      unfold piece
      congr 1
      apply ByteArray.ext
      apply Array.toList_inj.1
      simp only [ByteArray.data_extract, Array.toList_extract, List.extract_eq_take_drop]
    have hfin : ownPostG w4.heap.size (Keeps (w.heap.size + 3)) (fun pre W => (∃ v, Boxed W (w.heap.size + 1) 34 v ∧ W.ownsRow (w.heap.size + 4) 9 1 v (pieces s.data.toList 0 pre).length ((pieces s.data.toList 0 pre).map piece) ∧ (v = .slice none 0 0 ↔ pre = [])) ∧ (Boxed W w.heap.size 9 (.string s) ∧ Boxed W (w.heap.size + 2) 3 (enc (last 0 pre)) ∧ w.heap.size + 4 ≤ W.heap.size) ∧ Below w.heap.size w W) (fun _ _ _ => False) (pre ++ [x]) W .normal { tmps := #[], defers := [] } w5 := by
      rw [hw5]
      have hvs := hv1.set (.slice (some ⟨g', 0, none⟩) (pre.length + 1) cap')
      refine ⟨((hk1.trans (KeepsOthers.setCell _ _ _)).trans (KeepsOthers.setCell _ _ _)).from _, ?_, ⟨⟨_, hvs.other (by omega) _, ?_, by simp⟩, ⟨(hS1.other (by omega) _).other (by omega) _, ?_, by simp [World.setCell]; omega⟩, (hBl1.setCell (p := ⟨w.heap.size + 1, 0, none⟩) (by simp) _).setCell (p := ⟨w.heap.size + 2, 0, none⟩) (by simp) _⟩⟩
      · exact ((Below.heap_setCell _ _ _ _ (by simp)).trans (Below.heap_setCell _ _ _ _ (by simp))).trans (hblk _ (by omega))
      · rw [pieces_snoc, hfe, List.map_append, List.map_cons, List.map_nil, hpc, List.length_append, pieces_length, List.length_singleton]
        exact (hown'.kept (grownBy_setCell' _ _ _) (.inr (hne' _ (by omega)).symm)).kept (grownBy_setCell' _ _ _) (.inr (hne' _ (by omega)).symm)
      · rw [last_snoc]
        exact (hF1.other (by omega) _).set _
    have HFIN := Lib.hid hfin
    have j1 := (hv.alloc (.cells #[.string (s.extract f x)] 9)).cell
    have k1 := hv1.cell
    have k2 := hv1.frozen
    have k3 := hF1.cell
    have k4 := hF1.frozen
    unfold enc at hc3 k3
    have hfx : (f : Int) ≤ (x : Int) := by omega
    have hxs : (x : Int) ≤ (s.size : Int) := by omega
    have HW5 := Lib.hid hw5
    clear hsuf hfe hx1 hat hnil bD hB0 bS3 bO3 bF3 hfin hne hne' hblk hk1 hBl1 hw5 hpc hown' hgrow hrow hS hF hv hS1 hF1 hv1 hBl hsz1
    gi_wp2_with fail
    gi_region_with_o (fail)
    all_goals
      gi_wp2_with fail
      rw [← HW5.out]
      exact HFIN.out
  case done =>
    rintro D ys W hD rfl ⟨⟨v, hv, hrow, hnil⟩, _, hBl⟩ hK
    have hc := hv.cell
    gi_wp2
    refine ⟨by simp, .inl ⟨_, _, rfl, run_takeDeferred hK, ?_⟩⟩
    rw [pieces_length] at hrow
    exact ⟨_, results_tmp rfl _ _ _, v, rfl, ownsRow_base (ownsRow_putObj hrow _ hK rfl) (by omega), hnil, hBl.trans (belowK_b (w := w) (Nat.le_refl _) W D _ _ (by omega) hK rfl rfl)⟩
  case stop =>
    rintro D c pre W _ _ h _
    exact h.elim

end Cut
end Go.Proofs.Ytiblljellcgjbaa
