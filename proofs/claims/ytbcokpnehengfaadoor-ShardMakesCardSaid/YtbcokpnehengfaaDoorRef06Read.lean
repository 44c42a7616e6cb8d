/-
  The walks of the document's package strongboxref06: Read.
-/
import Derived.Test.YtbcokpnehengfaaDoorRef06Make
namespace Go.Proofs.YtbcokpnehengfaaDoor
open Go.RowKit
namespace R6
open Shd

/-- the cell that holds the object's bytes -/
def Dat (n0 : Nat) (data : ByteArray) (W : World) : Prop := W.cell? ⟨n0, 1, none⟩ = some (.string data)
theorem Dat.ext {n0 : Nat} {data : ByteArray} {W W' : World} (h : Dat n0 data W) (hE : Stab.Ext W W') : Dat n0 data W' := hE.cell h

theorem getD_data (s : ByteArray) (i : Nat) (h : i < s.size) : s.data.toList.getD i 0 = s[i] := by
  rw [List.getD, List.getElem?_eq_getElem (by simpa using h), Option.getD_some]; rfl

theorem set_five {W : World} {g : Nat} {t : TypeId} {a b c d e : Value} (h : Blk W g t #[a, b, c, d, e]) (v x y z u : Value) :
    Blk (((((W.setCell ⟨g, 0, none⟩ v).setCell ⟨g, 1, none⟩ x).setCell ⟨g, 2, none⟩ y).setCell ⟨g, 3, none⟩ z).setCell ⟨g, 4, none⟩ u) g t #[v, x, y, z, u] := ((((h.set_ 0 v).set_ 1 x).set_ 2 y).set_ 3 z).set_ 4 u

set_option maxRecDepth 100000 in
set_option maxHeartbeats 8000000 in
theorem read_any (name data : ByteArray) (hds : data.size ≤ 1000000) (w : World) :
    Calls Tryd.prog 12 #[.agg #[.string name, .string data]] w fun e w' => ReadEnd name.data.toList data.data.toList e ∧ Below w.heap.size w w' := by
  have hdl : data.data.toList.length = data.size := by simp
  by_cases h75 : 75 ≤ data.size
  · have t0 : ¬ ((data.size : Int) < 75) := by omega
    have HL := Lib.hid hdl
    clear hdl
    go_enter Tryd.func12, Tryd.ntmps12
    go_wp2_with fail
    have hbx : Blk ((w.alloc (.cells #[.string name, .string data] 27)).alloc (.cells zeroC 33)) w.heap.size 27 #[.string name, .string data] := (Blk.new w _ _).alloc _
    have hrs : Blk ((w.alloc (.cells #[.string name, .string data] 27)).alloc (.cells zeroC 33)) (w.heap.size + 1) 33 zeroC := by
      have h := Blk.new (w.alloc (.cells #[.string name, .string data] 27)) 33 zeroC
      simpa using h
    have hb2 : Below w.heap.size w ((w.alloc (.cells #[.string name, .string data] 27)).alloc (.cells zeroC 33)) := ((Below.refl _ _).alloc (Nat.le_refl _) _).alloc (by simp) _
    unfold zeroC at hbx hrs hb2
    obtain ⟨n0, hn0⟩ : ∃ n, n = w.heap.size := ⟨_, rfl⟩
    rw [← hn0] at hbx hrs hb2 ⊢
    have HN0 := Lib.hid hn0
    clear hn0
    generalize (w.alloc (.cells #[.string name, .string data] 27)).alloc (.cells #[.int .i64 0, .int .i64 0, .string ⟨#[]⟩, .int .i64 0, .string ⟨#[]⟩] 33) = w2 at *
    have hdat : Dat n0 data w2 := hbx.cell 1
    have HBX := Lib.hid hbx
    have HRS := Lib.hid hrs
    have HB2 := Lib.hid hb2
    have HD := Lib.hid hdat
    obtain ⟨hl4, hl5, hl6⟩ : 4 < data.size ∧ 5 < data.size ∧ 6 < data.size := by omega
    have i4 : (4 : Int) < (data.size : Int) := by omega
    have i5 : (5 : Int) < (data.size : Int) := by omega
    have i6 : (6 : Int) < (data.size : Int) := by omega
    have i43 : (43 : Int) ≤ (data.size : Int) := by omega
    have q32 : IntKind.i64.wrap ((data.size : Int) - 32) = (data.size : Int) - 32 := by rw [IntKind.wrap_i64]; omega
    have q33 : ((data.size : Int) - 32).toNat = data.size - 32 := by omega
    have i32 : (43 : Int) ≤ (data.size : Int) - 32 := by omega
    have i33 : (data.size : Int) - 32 ≤ (data.size : Int) := by omega
    clear hbx hrs hb2 hdat
    have hx11 : (data.extract 11 43).data.toList = (data.data.toList.drop 11).take 32 := by rw [Lib.extract_data]
    have hx43 : (data.extract 43 (data.size - 32)).data.toList = (data.data.toList.drop 43).take (data.data.toList.length - 75) := by
      rw [Lib.extract_data, HL.out, show (data.size - 32) - 43 = data.size - 75 by omega]
    have hg4 : data.data.toList.getD 4 0 = data[4] := getD_data data 4 hl4
    have hg5 : data.data.toList.getD 5 0 = data[5] := getD_data data 5 hl5
    have hg6 : data.data.toList.getD 6 0 = data[6] := getD_data data 6 hl6
    have hrd : readS data.data.toList = toS (data[4].toNat : Int) (data[5].toNat : Int) (data.extract 11 43) (data[6].toNat : Int) (data.extract 43 (data.size - 32)) := by
      unfold readS toS
      rw [hx11, hx43, hg4, hg5, hg6]
    have b4 := data[4].toNat_lt
    have b5 := data[5].toNat_lt
    have b6 := data[6].toNat_lt
    have q4 : IntKind.i64.wrap (data[4].toNat : Int) = (data[4].toNat : Int) := by rw [IntKind.wrap_i64]; omega
    have q5 : IntKind.i64.wrap (data[5].toNat : Int) = (data[5].toNat : Int) := by rw [IntKind.wrap_i64]; omega
    have q6 : IntKind.i64.wrap (data[6].toNat : Int) = (data[6].toNat : Int) := by rw [IntKind.wrap_i64]; omega
    have hM := make_any (data[4].toNat : Int) (data[5].toNat : Int) (data[6].toNat : Int) (data.extract 11 43) (data.extract 43 (data.size - 32)) ⟨by omega, by omega⟩
    rw [← hrd] at hM
    have hsh : shV (readS data.data.toList) = .agg #[.int .i64 (data[4].toNat : Int), .int .i64 (data[5].toNat : Int), .string (data.extract 11 43), .int .i64 (data[6].toNat : Int), .string (data.extract 43 (data.size - 32))] := by
      rw [hrd]; unfold toS shV; simp only [mk_toList]
    have HM := Lib.hid hM
    have HSH := Lib.hid hsh
    clear hM hsh hrd hx11 hx43 hg4 hg5 hg6
    refine Stab.wp_region_stable 25 50 [some 12, some 13, some 14, some 15, some 16, some 17, some 18, some 19, some 20, some 21, some 22, some 23, some 24, some 25, some 26, some 27, some 28, some 29, some 30, some 31, some 32, some 33, some 34, some 35, some 4] [[], [0], [1], [2], [], [4], [5], [6], [3, 7], [], [9], [10], [], [12], [13], [14], [], [16], [], [18], [19], [20], [17, 21], [8, 11, 15, 22], []] [23, 24] (Dat n0 data) [Stab.eqv ?r3e0, Stab.eqv ?r3e1, Stab.eqv ?r3e2, Stab.eqv ?r3e3, Stab.eqv ?r3e4, Stab.eqv ?r3e5, Stab.eqv ?r3e6, Stab.eqv ?r3e7, Stab.eqv ?r3e8, Stab.eqv ?r3e9, Stab.eqv ?r3e10, Stab.eqv ?r3e11, Stab.eqv ?r3e12, Stab.eqv ?r3e13, Stab.eqv ?r3e14, Stab.eqv ?r3e15, Stab.eqv ?r3e16, Stab.eqv ?r3e17, Stab.eqv ?r3e18, Stab.eqv ?r3e19, Stab.eqv ?r3e20, Stab.eqv ?r3e21, Stab.eqv ?r3e22, Stab.eqv ?r3e23, Stab.newptr w2.heap.size 33 #[.int .i64 0, .int .i64 0, .string ⟨#[]⟩, .int .i64 0, .string ⟨#[]⟩]] (by kernel_rfl) rfl (by kernel_rfl) (by kernel_rfl) (fun us => by simp only [Stab.putAll, Act.put, List.setIfInBounds_toArray, List.set_cons_zero, List.set_cons_succ]; rfl) HD.out (fun _ _ h hE => h.ext hE) ?goals3 ?last3
    case goals3 =>
      simp only [List.take_succ_cons, List.take_zero]
      refine Stab.Goals.plain rfl rfl (fun us w K hE hS hp hK => ?_) ?_
      · go_simp
        refine hK _ _ ?_ (Stab.Ext.refl _)
        show _ = _
        with_reducible rfl
      refine Stab.Goals.plain rfl rfl (fun us w K hE hS hp hK => ?_) ?_
      · obtain ⟨h0, -⟩ := hp
        replace h0 : us 0 = _ := h0
        unfold Dat at hS
        go_simp
        refine hK _ _ ?_ (Stab.Ext.refl _)
        show _ = _
        with_reducible rfl
      refine Stab.Goals.plain rfl rfl (fun us w K hE hS hp hK => ?_) ?_
      · obtain ⟨h1, -⟩ := hp
        replace h1 : us 1 = _ := h1
        go_simp
        refine hK _ _ ?_ (Stab.Ext.refl _)
        show _ = _
        with_reducible rfl
      refine Stab.Goals.plain rfl rfl (fun us w K hE hS hp hK => ?_) ?_
      · obtain ⟨h2, -⟩ := hp
        replace h2 : us 2 = _ := h2
        go_simp
        refine hK _ _ ?_ (Stab.Ext.refl _)
        show _ = _
        with_reducible rfl
      refine Stab.Goals.plain rfl rfl (fun us w K hE hS hp hK => ?_) ?_
      · go_simp
        refine hK _ _ ?_ (Stab.Ext.refl _)
        show _ = _
        with_reducible rfl
      refine Stab.Goals.plain rfl rfl (fun us w K hE hS hp hK => ?_) ?_
      · obtain ⟨h4, -⟩ := hp
        replace h4 : us 4 = _ := h4
        unfold Dat at hS
        go_simp
        refine hK _ _ ?_ (Stab.Ext.refl _)
        show _ = _
        with_reducible rfl
      refine Stab.Goals.plain rfl rfl (fun us w K hE hS hp hK => ?_) ?_
      · obtain ⟨h5, -⟩ := hp
        replace h5 : us 5 = _ := h5
        go_simp
        refine hK _ _ ?_ (Stab.Ext.refl _)
        show _ = _
        with_reducible rfl
      refine Stab.Goals.plain rfl rfl (fun us w K hE hS hp hK => ?_) ?_
      · obtain ⟨h6, -⟩ := hp
        replace h6 : us 6 = _ := h6
        go_simp
        refine hK _ _ ?_ (Stab.Ext.refl _)
        show _ = _
        with_reducible rfl
      refine Stab.Goals.plain rfl rfl (fun us w K hE hS hp hK => ?_) ?_
      · obtain ⟨h3, h7, -⟩ := hp
        replace h3 : us 3 = _ := h3
        replace h7 : us 7 = _ := h7
        go_simp
        refine hK _ _ ?_ (Stab.Ext.refl _)
        show _ = _
        with_reducible rfl
      refine Stab.Goals.plain rfl rfl (fun us w K hE hS hp hK => ?_) ?_
      · go_simp
        refine hK _ _ ?_ (Stab.Ext.refl _)
        show _ = _
        with_reducible rfl
      refine Stab.Goals.plain rfl rfl (fun us w K hE hS hp hK => ?_) ?_
      · obtain ⟨h9, -⟩ := hp
        replace h9 : us 9 = _ := h9
        unfold Dat at hS
        go_simp
        refine hK _ _ ?_ (Stab.Ext.refl _)
        show _ = _
        with_reducible rfl
      refine Stab.Goals.plain rfl rfl (fun us w K hE hS hp hK => ?_) ?_
      · obtain ⟨h10, -⟩ := hp
        replace h10 : us 10 = _ := h10
        go_simp
        refine hK _ _ ?_ (Stab.Ext.refl _)
        show _ = _
        with_reducible rfl
      refine Stab.Goals.plain rfl rfl (fun us w K hE hS hp hK => ?_) ?_
      · go_simp
        refine hK _ _ ?_ (Stab.Ext.refl _)
        show _ = _
        with_reducible rfl
      refine Stab.Goals.plain rfl rfl (fun us w K hE hS hp hK => ?_) ?_
      · obtain ⟨h12, -⟩ := hp
        replace h12 : us 12 = _ := h12
        unfold Dat at hS
        go_simp
        refine hK _ _ ?_ (Stab.Ext.refl _)
        show _ = _
        with_reducible rfl
      refine Stab.Goals.plain rfl rfl (fun us w K hE hS hp hK => ?_) ?_
      · obtain ⟨h13, -⟩ := hp
        replace h13 : us 13 = _ := h13
        go_simp
        refine hK _ _ ?_ (Stab.Ext.refl _)
        show _ = _
        with_reducible rfl
      refine Stab.Goals.plain rfl rfl (fun us w K hE hS hp hK => ?_) ?_
      · obtain ⟨h14, -⟩ := hp
        replace h14 : us 14 = _ := h14
        go_simp
        refine hK _ _ ?_ (Stab.Ext.refl _)
        show _ = _
        with_reducible rfl
      refine Stab.Goals.plain rfl rfl (fun us w K hE hS hp hK => ?_) ?_
      · go_simp
        refine hK _ _ ?_ (Stab.Ext.refl _)
        show _ = _
        with_reducible rfl
      refine Stab.Goals.plain rfl rfl (fun us w K hE hS hp hK => ?_) ?_
      · obtain ⟨h16, -⟩ := hp
        replace h16 : us 16 = _ := h16
        unfold Dat at hS
        go_simp
        refine hK _ _ ?_ (Stab.Ext.refl _)
        show _ = _
        with_reducible rfl
      refine Stab.Goals.plain rfl rfl (fun us w K hE hS hp hK => ?_) ?_
      · go_simp
        refine hK _ _ ?_ (Stab.Ext.refl _)
        show _ = _
        with_reducible rfl
      refine Stab.Goals.plain rfl rfl (fun us w K hE hS hp hK => ?_) ?_
      · obtain ⟨h18, -⟩ := hp
        replace h18 : us 18 = _ := h18
        unfold Dat at hS
        go_simp
        refine hK _ _ ?_ (Stab.Ext.refl _)
        show _ = _
        with_reducible rfl
      refine Stab.Goals.plain rfl rfl (fun us w K hE hS hp hK => ?_) ?_
      · obtain ⟨h19, -⟩ := hp
        replace h19 : us 19 = _ := h19
        go_simp
        refine hK _ _ ?_ (Stab.Ext.refl _)
        show _ = _
        with_reducible rfl
      refine Stab.Goals.plain rfl rfl (fun us w K hE hS hp hK => ?_) ?_
      · obtain ⟨h20, -⟩ := hp
        replace h20 : us 20 = _ := h20
        go_simp
        refine hK _ _ ?_ (Stab.Ext.refl _)
        show _ = _
        with_reducible rfl
      refine Stab.Goals.plain rfl rfl (fun us w K hE hS hp hK => ?_) ?_
      · obtain ⟨h17, h21, -⟩ := hp
        replace h17 : us 17 = _ := h17
        replace h21 : us 21 = _ := h21
        go_simp
        refine hK _ _ ?_ (Stab.Ext.refl _)
        show _ = _
        with_reducible rfl
      refine Stab.Goals.plain rfl rfl (fun us w K hE hS hp hK => ?_) ?_
      · obtain ⟨h8, h11, h15, h22, -⟩ := hp
        replace h8 : us 8 = _ := h8
        replace h11 : us 11 = _ := h11
        replace h15 : us 15 = _ := h15
        replace h22 : us 22 = _ := h22
        go_simp
        refine hK _ _ ?_ (Stab.Ext.refl _)
        show _ = _
        with_reducible rfl
      refine Stab.Goals.plain rfl rfl (fun us w K hE hS hp hK => ?_) ?_
      · go_simp
        exact hK _ _ ⟨_, rfl, hE.size, Blk.new _ _ _⟩ (Stab.Ext.alloc _ _)
      exact Stab.Goals.nil
    case last3 =>
      intro us w' hE hS hp
      obtain ⟨h23, ⟨g, e24, hg, hbk⟩, -⟩ := hp
      replace h23 : us 23 = _ := h23
      simp only [List.drop_succ_cons, List.drop_zero, h23, e24]
      have z0 : w'.cell? ⟨g, 0, none⟩ = some (.int .i64 0) := hbk.cell 0
      have z1 : w'.cell? ⟨g, 1, none⟩ = some (.int .i64 0) := hbk.cell 1
      have z2 : w'.cell? ⟨g, 2, none⟩ = some (.string ⟨#[]⟩) := hbk.cell 2
      have z3 : w'.cell? ⟨g, 3, none⟩ = some (.int .i64 0) := hbk.cell 3
      have z4 : w'.cell? ⟨g, 4, none⟩ = some (.string ⟨#[]⟩) := hbk.cell 4
      have y0 := hbk.frozen 0
      have y1 := hbk.frozen 1
      have y2 := hbk.frozen 2
      have y3 := hbk.frozen 3
      have y4 := hbk.frozen 4
      have HBK := Lib.hid hbk
      have HX := Lib.hid ((Stab.Ext.drew w2).trans hE)
      clear h23 e24 hbk hS hE
      go_wp2_with fail
      have hbk := set_five HBK.out (.int .i64 (data[4].toNat : Int)) (.int .i64 (data[5].toNat : Int)) (.string (data.extract 11 43)) (.int .i64 (data[6].toNat : Int)) (.string (data.extract 43 (data.size - 32)))
      have hgn : n0 + 1 < g := by have := HRS.out.lt; omega
      have hbx3 : Blk (((((w'.setCell ⟨g, 0, none⟩ (.int .i64 (data[4].toNat : Int))).setCell ⟨g, 1, none⟩ (.int .i64 (data[5].toNat : Int))).setCell ⟨g, 2, none⟩ (.string (data.extract 11 43))).setCell ⟨g, 3, none⟩ (.int .i64 (data[6].toNat : Int))).setCell ⟨g, 4, none⟩ (.string (data.extract 43 (data.size - 32)))) n0 27 #[.string name, .string data] :=
        (((((HBX.out.below HX.out HBX.out.lt).far (by simp; omega) _).far (by simp; omega) _).far (by simp; omega) _).far (by simp; omega) _).far (by simp; omega) _
      have hrs3 : Blk (((((w'.setCell ⟨g, 0, none⟩ (.int .i64 (data[4].toNat : Int))).setCell ⟨g, 1, none⟩ (.int .i64 (data[5].toNat : Int))).setCell ⟨g, 2, none⟩ (.string (data.extract 11 43))).setCell ⟨g, 3, none⟩ (.int .i64 (data[6].toNat : Int))).setCell ⟨g, 4, none⟩ (.string (data.extract 43 (data.size - 32)))) (n0 + 1) 33 #[.int .i64 0, .int .i64 0, .string ⟨#[]⟩, .int .i64 0, .string ⟨#[]⟩] :=
        (((((HRS.out.below HX.out HRS.out.lt).far (by simp; omega) _).far (by simp; omega) _).far (by simp; omega) _).far (by simp; omega) _).far (by simp; omega) _
      have hb3 : Below n0 w (((((w'.setCell ⟨g, 0, none⟩ (.int .i64 (data[4].toNat : Int))).setCell ⟨g, 1, none⟩ (.int .i64 (data[5].toNat : Int))).setCell ⟨g, 2, none⟩ (.string (data.extract 11 43))).setCell ⟨g, 3, none⟩ (.int .i64 (data[6].toNat : Int))).setCell ⟨g, 4, none⟩ (.string (data.extract 43 (data.size - 32)))) :=
        (((((HB2.out.trans (Below.mono HX.out (Nat.le_of_lt HBX.out.lt))).setCell (by simp; omega) _).setCell (by simp; omega) _).setCell (by simp; omega) _).setCell (by simp; omega) _).setCell (by simp; omega) _
      generalize (((((w'.setCell ⟨g, 0, none⟩ (.int .i64 (data[4].toNat : Int))).setCell ⟨g, 1, none⟩ (.int .i64 (data[5].toNat : Int))).setCell ⟨g, 2, none⟩ (.string (data.extract 11 43))).setCell ⟨g, 3, none⟩ (.int .i64 (data[6].toNat : Int))).setCell ⟨g, 4, none⟩ (.string (data.extract 43 (data.size - 32)))) = w3 at *
      clear z0 z1 z2 z3 z4 y0 y1 y2 y3 y4 HBK HX
      refine (HM.out w3).mono ?_
      rintro e w4 ⟨hme, hb4⟩
      have hbk4 := hbk.below hb4 hbk.lt
      have hbx4 := hbx3.below hb4 hbx3.lt
      have hrs4 := hrs3.below hb4 hrs3.lt
      have hb04 : Below n0 w w4 := hb3.trans (hb4.mono (Nat.le_of_lt hbx3.lt))
      have HBK4 := Lib.hid hbk4
      have HBX4 := Lib.hid hbx4
      have HRS4 := Lib.hid hrs4
      have HB4 := Lib.hid hb04
      have l0 : n0 < w4.heap.size := hbx4.lt
      have l1 : n0 + 1 < w4.heap.size := hrs4.lt
      have l2 : g < w4.heap.size := hbk4.lt
      have p0 : w4.cell? ⟨n0 + 1, 0, none⟩ = some (.int .i64 0) := hrs4.cell 0
      have e0 : w4.frozen? ⟨n0 + 1, 0, none⟩ = false := hrs4.frozen 0
      have p1 : w4.cell? ⟨n0 + 1, 1, none⟩ = some (.int .i64 0) := hrs4.cell 1
      have e1 : w4.frozen? ⟨n0 + 1, 1, none⟩ = false := hrs4.frozen 1
      have p2 : w4.cell? ⟨n0 + 1, 2, none⟩ = some (.string ⟨#[]⟩) := hrs4.cell 2
      have e2 : w4.frozen? ⟨n0 + 1, 2, none⟩ = false := hrs4.frozen 2
      have p3 : w4.cell? ⟨n0 + 1, 3, none⟩ = some (.int .i64 0) := hrs4.cell 3
      have e3 : w4.frozen? ⟨n0 + 1, 3, none⟩ = false := hrs4.frozen 3
      have p4 : w4.cell? ⟨n0 + 1, 4, none⟩ = some (.string ⟨#[]⟩) := hrs4.cell 4
      have e4 : w4.frozen? ⟨n0 + 1, 4, none⟩ = false := hrs4.frozen 4
      have m0 : w4.cell? ⟨g, 0, none⟩ = some (.int .i64 (data[4].toNat : Int)) := hbk4.cell 0
      have m1 : w4.cell? ⟨g, 1, none⟩ = some (.int .i64 (data[5].toNat : Int)) := hbk4.cell 1
      have m2 : w4.cell? ⟨g, 2, none⟩ = some (.string (data.extract 11 43)) := hbk4.cell 2
      have m3 : w4.cell? ⟨g, 3, none⟩ = some (.int .i64 (data[6].toNat : Int)) := hbk4.cell 3
      have m4 : w4.cell? ⟨g, 4, none⟩ = some (.string (data.extract 43 (data.size - 32))) := hbk4.cell 4
      have n00 : w4.cell? ⟨n0, 0, none⟩ = some (.string name) := hbx4.cell 0
      have n01 : w4.cell? ⟨n0, 1, none⟩ = some (.string data) := hbx4.cell 1
      clear hbk hbx3 hrs3 hb3 hb4 hbk4 hbx4 hrs4 hb04
      have hdn : 75 ≤ data.data.toList.length := by rw [HL.out]; exact h75
      clear i4 i5 i6 i43 q32 q33 i32 i33 q4 q5 q6 b4 b5 b6 hg hgn hds
      rcases hme with ⟨hmay, hpl, rfl⟩ | ⟨hmay, hpl, rfl⟩ | ⟨hmay, rfl⟩
      · by_cases hlk : Looks sumL name.data.toList data.data.toList
        · obtain ⟨_, _, hda, hn⟩ := looks_sound hlk
          have HLK := Lib.hid hlk
          have t1 : (nameL (readS data.data.toList).dig (readS data.data.toList).idx == name.toList) = true := by rw [str_toList, ← hn]; simp
          have t2 : ((readS data.data.toList).data sumL == data.toList) = true := by rw [str_toList, ← hda]; simp
          clear hn hda hlk hmay hpl hdn
          generalize nameL (readS data.data.toList).dig (readS data.data.toList).idx = NM at *
          generalize (readS data.data.toList).data sumL = DA at *
          unfold objV
          go_wp2_with fail
          have hr := (set_five HRS4.out (.int .i64 (data[4].toNat : Int)) (.int .i64 (data[5].toNat : Int)) (.string (data.extract 11 43)) (.int .i64 (data[6].toNat : Int)) (.string (data.extract 43 (data.size - 32)))).alloc (.cells #[.string ⟨NM.toArray⟩, .string ⟨DA.toArray⟩] 27)
          have hb5 : Below n0 w ((((((w4.setCell ⟨n0 + 1, 0, none⟩ (.int .i64 (data[4].toNat : Int))).setCell ⟨n0 + 1, 1, none⟩ (.int .i64 (data[5].toNat : Int))).setCell ⟨n0 + 1, 2, none⟩ (.string (data.extract 11 43))).setCell ⟨n0 + 1, 3, none⟩ (.int .i64 (data[6].toNat : Int))).setCell ⟨n0 + 1, 4, none⟩ (.string (data.extract 43 (data.size - 32)))).alloc (.cells #[.string ⟨NM.toArray⟩, .string ⟨DA.toArray⟩] 27)) := (((((HB4.out.setCell (by simp) _).setCell (by simp) _).setCell (by simp) _).setCell (by simp) _).setCell (by simp) _).alloc (by simp; omega) _
          generalize ((((((w4.setCell ⟨n0 + 1, 0, none⟩ (.int .i64 (data[4].toNat : Int))).setCell ⟨n0 + 1, 1, none⟩ (.int .i64 (data[5].toNat : Int))).setCell ⟨n0 + 1, 2, none⟩ (.string (data.extract 11 43))).setCell ⟨n0 + 1, 3, none⟩ (.int .i64 (data[6].toNat : Int))).setCell ⟨n0 + 1, 4, none⟩ (.string (data.extract 43 (data.size - 32)))).alloc (.cells #[.string ⟨NM.toArray⟩, .string ⟨DA.toArray⟩] 27)) = w5 at *
          have q0 : w5.cell? ⟨n0 + 1, 0, none⟩ = some (.int .i64 (data[4].toNat : Int)) := hr.cell 0
          have q1 : w5.cell? ⟨n0 + 1, 1, none⟩ = some (.int .i64 (data[5].toNat : Int)) := hr.cell 1
          have q2 : w5.cell? ⟨n0 + 1, 2, none⟩ = some (.string (data.extract 11 43)) := hr.cell 2
          have q3 : w5.cell? ⟨n0 + 1, 3, none⟩ = some (.int .i64 (data[6].toNat : Int)) := hr.cell 3
          have q4 : w5.cell? ⟨n0 + 1, 4, none⟩ = some (.string (data.extract 43 (data.size - 32))) := hr.cell 4
          refine bodyPost_ret (v := .tuple #[.agg #[.int .i64 (data[4].toNat : Int), .int .i64 (data[5].toNat : Int), .string (data.extract 11 43), .int .i64 (data[6].toNat : Int), .string (data.extract 43 (data.size - 32))], .int .i64 0]) (by simp only [results, Tryd.results12, go_sem]; simp [go_sem, q0, q1, q2, q3, q4]) rfl ⟨.inl ⟨HLK.out, by rw [HSH.out]⟩, by have hh := HN0.out; rw [← hh]; exact hb5⟩
        · have HLK := Lib.hid hlk
          have hne : nameL (readS data.data.toList).dig (readS data.data.toList).idx = name.data.toList → (readS data.data.toList).data sumL ≠ data.data.toList := fun hn hda => hlk (sound_looks sumL_len ⟨hmay, hpl, hda.symm, hn.symm⟩)
          by_cases hn : nameL (readS data.data.toList).dig (readS data.data.toList).idx = name.data.toList
          · have hda := hne hn
            have t1 : (nameL (readS data.data.toList).dig (readS data.data.toList).idx == name.toList) = true := by rw [str_toList, hn]; simp
            have t2 : ((readS data.data.toList).data sumL == data.toList) = false := by rw [str_toList, beq_eq_false_iff_ne]; exact hda
            clear hn hda hne hlk hmay hpl hdn
            generalize nameL (readS data.data.toList).dig (readS data.data.toList).idx = NM at *
            generalize (readS data.data.toList).data sumL = DA at *
            unfold objV
            go_wp2_with fail
            have hr := (set_five HRS4.out (.int .i64 0) (.int .i64 0) (.string ⟨#[]⟩) (.int .i64 0) (.string ⟨#[]⟩)).alloc (.cells #[.string ⟨NM.toArray⟩, .string ⟨DA.toArray⟩] 27)
            have hb5 : Below n0 w ((((((w4.setCell ⟨n0 + 1, 0, none⟩ (.int .i64 0)).setCell ⟨n0 + 1, 1, none⟩ (.int .i64 0)).setCell ⟨n0 + 1, 2, none⟩ (.string ⟨#[]⟩)).setCell ⟨n0 + 1, 3, none⟩ (.int .i64 0)).setCell ⟨n0 + 1, 4, none⟩ (.string ⟨#[]⟩)).alloc (.cells #[.string ⟨NM.toArray⟩, .string ⟨DA.toArray⟩] 27)) := (((((HB4.out.setCell (by simp) _).setCell (by simp) _).setCell (by simp) _).setCell (by simp) _).setCell (by simp) _).alloc (by simp; omega) _
            generalize ((((((w4.setCell ⟨n0 + 1, 0, none⟩ (.int .i64 0)).setCell ⟨n0 + 1, 1, none⟩ (.int .i64 0)).setCell ⟨n0 + 1, 2, none⟩ (.string ⟨#[]⟩)).setCell ⟨n0 + 1, 3, none⟩ (.int .i64 0)).setCell ⟨n0 + 1, 4, none⟩ (.string ⟨#[]⟩)).alloc (.cells #[.string ⟨NM.toArray⟩, .string ⟨DA.toArray⟩] 27)) = w5 at *
            have q0 : w5.cell? ⟨n0 + 1, 0, none⟩ = some (.int .i64 0) := hr.cell 0
            have q1 : w5.cell? ⟨n0 + 1, 1, none⟩ = some (.int .i64 0) := hr.cell 1
            have q2 : w5.cell? ⟨n0 + 1, 2, none⟩ = some (.string ⟨#[]⟩) := hr.cell 2
            have q3 : w5.cell? ⟨n0 + 1, 3, none⟩ = some (.int .i64 0) := hr.cell 3
            have q4 : w5.cell? ⟨n0 + 1, 4, none⟩ = some (.string ⟨#[]⟩) := hr.cell 4
            refine bodyPost_ret (v := .tuple #[.agg #[.int .i64 0, .int .i64 0, .string ⟨#[]⟩, .int .i64 0, .string ⟨#[]⟩], .int .i64 4]) (by simp only [results, Tryd.results12, go_sem]; simp [go_sem, q0, q1, q2, q3, q4]) rfl ⟨.inr ⟨HLK.out, rfl⟩, by have hh := HN0.out; rw [← hh]; exact hb5⟩
          · have t1 : (nameL (readS data.data.toList).dig (readS data.data.toList).idx == name.toList) = false := by rw [str_toList, beq_eq_false_iff_ne]; exact hn
            clear hn hne hlk hmay hpl hdn
            generalize nameL (readS data.data.toList).dig (readS data.data.toList).idx = NM at *
            generalize (readS data.data.toList).data sumL = DA at *
            unfold objV
            go_wp2_with fail
            have hr := (set_five HRS4.out (.int .i64 0) (.int .i64 0) (.string ⟨#[]⟩) (.int .i64 0) (.string ⟨#[]⟩)).alloc (.cells #[.string ⟨NM.toArray⟩, .string ⟨DA.toArray⟩] 27)
            have hb5 : Below n0 w ((((((w4.setCell ⟨n0 + 1, 0, none⟩ (.int .i64 0)).setCell ⟨n0 + 1, 1, none⟩ (.int .i64 0)).setCell ⟨n0 + 1, 2, none⟩ (.string ⟨#[]⟩)).setCell ⟨n0 + 1, 3, none⟩ (.int .i64 0)).setCell ⟨n0 + 1, 4, none⟩ (.string ⟨#[]⟩)).alloc (.cells #[.string ⟨NM.toArray⟩, .string ⟨DA.toArray⟩] 27)) := (((((HB4.out.setCell (by simp) _).setCell (by simp) _).setCell (by simp) _).setCell (by simp) _).setCell (by simp) _).alloc (by simp; omega) _
            generalize ((((((w4.setCell ⟨n0 + 1, 0, none⟩ (.int .i64 0)).setCell ⟨n0 + 1, 1, none⟩ (.int .i64 0)).setCell ⟨n0 + 1, 2, none⟩ (.string ⟨#[]⟩)).setCell ⟨n0 + 1, 3, none⟩ (.int .i64 0)).setCell ⟨n0 + 1, 4, none⟩ (.string ⟨#[]⟩)).alloc (.cells #[.string ⟨NM.toArray⟩, .string ⟨DA.toArray⟩] 27)) = w5 at *
            have q0 : w5.cell? ⟨n0 + 1, 0, none⟩ = some (.int .i64 0) := hr.cell 0
            have q1 : w5.cell? ⟨n0 + 1, 1, none⟩ = some (.int .i64 0) := hr.cell 1
            have q2 : w5.cell? ⟨n0 + 1, 2, none⟩ = some (.string ⟨#[]⟩) := hr.cell 2
            have q3 : w5.cell? ⟨n0 + 1, 3, none⟩ = some (.int .i64 0) := hr.cell 3
            have q4 : w5.cell? ⟨n0 + 1, 4, none⟩ = some (.string ⟨#[]⟩) := hr.cell 4
            refine bodyPost_ret (v := .tuple #[.agg #[.int .i64 0, .int .i64 0, .string ⟨#[]⟩, .int .i64 0, .string ⟨#[]⟩], .int .i64 4]) (by simp only [results, Tryd.results12, go_sem]; simp [go_sem, q0, q1, q2, q3, q4]) rfl ⟨.inr ⟨HLK.out, rfl⟩, by have hh := HN0.out; rw [← hh]; exact hb5⟩
      · have HLK := Lib.hid (show ¬ Looks sumL name.data.toList data.data.toList from fun h => by have := (looks_sound h).2.1; omega)
        clear hmay hpl hdn
        unfold objV
        go_wp2_with fail
        have hr := (set_five HRS4.out (.int .i64 0) (.int .i64 0) (.string ⟨#[]⟩) (.int .i64 0) (.string ⟨#[]⟩)).alloc (.cells #[.string ⟨#[]⟩, .string ⟨#[]⟩] 27)
        have hb5 : Below n0 w ((((((w4.setCell ⟨n0 + 1, 0, none⟩ (.int .i64 0)).setCell ⟨n0 + 1, 1, none⟩ (.int .i64 0)).setCell ⟨n0 + 1, 2, none⟩ (.string ⟨#[]⟩)).setCell ⟨n0 + 1, 3, none⟩ (.int .i64 0)).setCell ⟨n0 + 1, 4, none⟩ (.string ⟨#[]⟩)).alloc (.cells #[.string ⟨#[]⟩, .string ⟨#[]⟩] 27)) := (((((HB4.out.setCell (by simp) _).setCell (by simp) _).setCell (by simp) _).setCell (by simp) _).setCell (by simp) _).alloc (by simp; omega) _
        generalize ((((((w4.setCell ⟨n0 + 1, 0, none⟩ (.int .i64 0)).setCell ⟨n0 + 1, 1, none⟩ (.int .i64 0)).setCell ⟨n0 + 1, 2, none⟩ (.string ⟨#[]⟩)).setCell ⟨n0 + 1, 3, none⟩ (.int .i64 0)).setCell ⟨n0 + 1, 4, none⟩ (.string ⟨#[]⟩)).alloc (.cells #[.string ⟨#[]⟩, .string ⟨#[]⟩] 27)) = w5 at *
        have q0 : w5.cell? ⟨n0 + 1, 0, none⟩ = some (.int .i64 0) := hr.cell 0
        have q1 : w5.cell? ⟨n0 + 1, 1, none⟩ = some (.int .i64 0) := hr.cell 1
        have q2 : w5.cell? ⟨n0 + 1, 2, none⟩ = some (.string ⟨#[]⟩) := hr.cell 2
        have q3 : w5.cell? ⟨n0 + 1, 3, none⟩ = some (.int .i64 0) := hr.cell 3
        have q4 : w5.cell? ⟨n0 + 1, 4, none⟩ = some (.string ⟨#[]⟩) := hr.cell 4
        refine bodyPost_ret (v := .tuple #[.agg #[.int .i64 0, .int .i64 0, .string ⟨#[]⟩, .int .i64 0, .string ⟨#[]⟩], .int .i64 4]) (by simp only [results, Tryd.results12, go_sem]; simp [go_sem, q0, q1, q2, q3, q4]) rfl ⟨.inr ⟨HLK.out, rfl⟩, by have hh := HN0.out; rw [← hh]; exact hb5⟩
      · have HLK := Lib.hid (show ¬ Looks sumL name.data.toList data.data.toList from fun h => hmay (looks_sound h).1)
        clear hmay hdn
        unfold objV
        go_wp2_with fail
        have hr := (set_five HRS4.out (.int .i64 0) (.int .i64 0) (.string ⟨#[]⟩) (.int .i64 0) (.string ⟨#[]⟩)).alloc (.cells #[.string ⟨#[]⟩, .string ⟨#[]⟩] 27)
        have hb5 : Below n0 w ((((((w4.setCell ⟨n0 + 1, 0, none⟩ (.int .i64 0)).setCell ⟨n0 + 1, 1, none⟩ (.int .i64 0)).setCell ⟨n0 + 1, 2, none⟩ (.string ⟨#[]⟩)).setCell ⟨n0 + 1, 3, none⟩ (.int .i64 0)).setCell ⟨n0 + 1, 4, none⟩ (.string ⟨#[]⟩)).alloc (.cells #[.string ⟨#[]⟩, .string ⟨#[]⟩] 27)) := (((((HB4.out.setCell (by simp) _).setCell (by simp) _).setCell (by simp) _).setCell (by simp) _).setCell (by simp) _).alloc (by simp; omega) _
        generalize ((((((w4.setCell ⟨n0 + 1, 0, none⟩ (.int .i64 0)).setCell ⟨n0 + 1, 1, none⟩ (.int .i64 0)).setCell ⟨n0 + 1, 2, none⟩ (.string ⟨#[]⟩)).setCell ⟨n0 + 1, 3, none⟩ (.int .i64 0)).setCell ⟨n0 + 1, 4, none⟩ (.string ⟨#[]⟩)).alloc (.cells #[.string ⟨#[]⟩, .string ⟨#[]⟩] 27)) = w5 at *
        have q0 : w5.cell? ⟨n0 + 1, 0, none⟩ = some (.int .i64 0) := hr.cell 0
        have q1 : w5.cell? ⟨n0 + 1, 1, none⟩ = some (.int .i64 0) := hr.cell 1
        have q2 : w5.cell? ⟨n0 + 1, 2, none⟩ = some (.string ⟨#[]⟩) := hr.cell 2
        have q3 : w5.cell? ⟨n0 + 1, 3, none⟩ = some (.int .i64 0) := hr.cell 3
        have q4 : w5.cell? ⟨n0 + 1, 4, none⟩ = some (.string ⟨#[]⟩) := hr.cell 4
        refine bodyPost_ret (v := .tuple #[.agg #[.int .i64 0, .int .i64 0, .string ⟨#[]⟩, .int .i64 0, .string ⟨#[]⟩], .int .i64 4]) (by simp only [results, Tryd.results12, go_sem]; simp [go_sem, q0, q1, q2, q3, q4]) rfl ⟨.inr ⟨HLK.out, rfl⟩, by have hh := HN0.out; rw [← hh]; exact hb5⟩
  · have t0 : ((data.size : Int) < 75) := by omega
    have HLK := Lib.hid (show ¬ Looks sumL name.data.toList data.data.toList from fun h => by have := h.1; omega)
    clear hdl
    go_enter Tryd.func12, Tryd.ntmps12
    go_wp2_with fail
    exact bodyPost_ret (v := .tuple #[.agg #[.int .i64 0, .int .i64 0, .string ⟨#[]⟩, .int .i64 0, .string ⟨#[]⟩], .int .i64 4]) (by simp [results, Tryd.results12, go_sem]) rfl ⟨.inr ⟨HLK.out, rfl⟩, ((Below.refl _ _).alloc (Nat.le_refl _) _).alloc (by simp) _⟩

end R6
end Go.Proofs.YtbcokpnehengfaaDoor
