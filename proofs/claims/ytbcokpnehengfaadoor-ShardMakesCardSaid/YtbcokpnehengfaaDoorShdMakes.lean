/-
  The walk of the statement ShardMakes.
-/
import Derived.Test.YtbcokpnehengfaaDoorRef06Read
import Derived.Test.YtbcokpnehengfaaDoorShdAwake
namespace Go.Proofs.YtbcokpnehengfaaDoor
open Go.RowKit
namespace Shd

theorem make_one {s : Shard} {e : Ending} (h : MakeEnd s e) : ∃ x y c, e = .returned (.tuple #[.agg #[.string x, .string y], .int .i64 c]) ∧ ∀ e', MakeEnd s e' → e' = .returned (.tuple #[.agg #[.string x, .string y], .int .i64 c]) := by
  rcases h with ⟨h1, h2, rfl⟩ | ⟨h1, h2, rfl⟩ | ⟨h1, rfl⟩
  · refine ⟨_, _, _, rfl, fun e' h' => ?_⟩
    rcases h' with ⟨k1, k2, rfl⟩ | ⟨k1, k2, rfl⟩ | ⟨k1, rfl⟩
    · rfl
    · omega
    · exact absurd h1 k1
  · refine ⟨_, _, _, rfl, fun e' h' => ?_⟩
    rcases h' with ⟨k1, k2, rfl⟩ | ⟨k1, k2, rfl⟩ | ⟨k1, rfl⟩
    · omega
    · rfl
    · exact absurd h1 k1
  · refine ⟨_, _, _, rfl, fun e' h' => ?_⟩
    rcases h' with ⟨k1, k2, rfl⟩ | ⟨k1, k2, rfl⟩ | ⟨k1, rfl⟩
    · exact absurd k1 h1
    · exact absurd k1 h1
    · rfl

theorem read_one {nm l : List UInt8} {e : Ending} (h : ReadEnd nm l e) : ∃ a b c d x y, e = .returned (.tuple #[.agg #[.int .i64 a, .int .i64 b, .string c, .int .i64 d, .string x], .int .i64 y]) ∧
    ∀ e', ReadEnd nm l e' → e' = .returned (.tuple #[.agg #[.int .i64 a, .int .i64 b, .string c, .int .i64 d, .string x], .int .i64 y]) := by
  rcases h with ⟨h1, rfl⟩ | ⟨h1, rfl⟩
  · refine ⟨_, _, _, _, _, _, rfl, fun e' h' => ?_⟩
    rcases h' with ⟨_, rfl⟩ | ⟨k1, rfl⟩
    · rfl
    · exact absurd h1 k1
  · refine ⟨_, _, _, _, _, _, rfl, fun e' h' => ?_⟩
    rcases h' with ⟨k1, rfl⟩ | ⟨_, rfl⟩
    · exact absurd k1 h1
    · rfl

theorem parse_one {l : List UInt8} {e : Ending} (h : ParseEnd l e) : ∃ x n b, e = .returned (.tuple #[.string x, .int .i64 n, .bool b]) ∧ ∀ e', ParseEnd l e' → e' = .returned (.tuple #[.string x, .int .i64 n, .bool b]) := by
  rcases h with ⟨d, n, h1, rfl⟩ | ⟨h1, rfl⟩
  · refine ⟨_, _, _, rfl, fun e' h' => ?_⟩
    rcases h' with ⟨d', n', k1, rfl⟩ | ⟨k1, rfl⟩
    · obtain ⟨rfl, rfl⟩ := k1.one h1; rfl
    · exact absurd h1 (k1 d n)
  · refine ⟨_, _, _, rfl, fun e' h' => ?_⟩
    rcases h' with ⟨d', n', k1, rfl⟩ | ⟨_, rfl⟩
    · exact absurd k1 (h1 d' n')
    · rfl

/-- what the last test reads -/
def Held5 (n0 : Nat) (K N : Int) (dig : ByteArray) (idx : Int) (W : World) : Prop := (W.cell? ⟨n0, 0, none⟩ = some (.int .i64 K) ∧ W.cell? ⟨n0, 1, none⟩ = some (.int .i64 N) ∧ W.cell? ⟨n0, 2, none⟩ = some (.string dig) ∧ W.cell? ⟨n0, 3, none⟩ = some (.int .i64 idx)) ∧ Vars W
theorem Held5.vars {n0 : Nat} {K N : Int} {dig : ByteArray} {idx : Int} {W : World} (h : Held5 n0 K N dig idx W) : Vars W := h.2
theorem Held5.ext {n0 : Nat} {K N : Int} {dig : ByteArray} {idx : Int} {W W' : World} (h : Held5 n0 K N dig idx W) (hE : Stab.Ext W W') : Held5 n0 K N dig idx W' := by
  obtain ⟨⟨h0, h1, h2, h3⟩, hv⟩ := h
  exact ⟨⟨hE.cell h0, hE.cell h1, hE.cell h2, hE.cell h3⟩, hv.below hE⟩

set_option maxRecDepth 100000 in
set_option maxHeartbeats 8000000 in
theorem makes_any (K N : Int) (dig : ByteArray) (idx : Int) (pay : ByteArray) (_hK : I64 K) (_hN : I64 N) (hI : I64 idx) (nm da : ByteArray) (s : ByteArray) (w : World) (hv : Vars w) :
    Calls Tryd.prog 3 #[.agg #[.int .i64 K, .int .i64 N, .string dig, .int .i64 idx, .string pay], .agg #[.string nm, .string da], .string s] w fun e w' => e = .returned (.bool true) ∧ Below w.heap.size w w' := by
  have HV := Lib.hid hv
  clear hv
  have hbx : Blk ((w.alloc (.cells #[.int .i64 K, .int .i64 N, .string dig, .int .i64 idx, .string pay] 25)).alloc (.cells #[.string nm, .string da] 27)) w.heap.size 25 #[.int .i64 K, .int .i64 N, .string dig, .int .i64 idx, .string pay] := (Blk.new w _ _).alloc _
  have hob : Blk ((w.alloc (.cells #[.int .i64 K, .int .i64 N, .string dig, .int .i64 idx, .string pay] 25)).alloc (.cells #[.string nm, .string da] 27)) (w.heap.size + 1) 27 #[.string nm, .string da] := by
    have h := Blk.new (w.alloc (.cells #[.int .i64 K, .int .i64 N, .string dig, .int .i64 idx, .string pay] 25)) 27 #[.string nm, .string da]
    simpa using h
  have hb2 : Below w.heap.size w ((w.alloc (.cells #[.int .i64 K, .int .i64 N, .string dig, .int .i64 idx, .string pay] 25)).alloc (.cells #[.string nm, .string da] 27)) := ((Below.refl _ _).alloc (Nat.le_refl _) _).alloc (by simp) _
  by_cases hs : pay.size ≤ 70000 ∧ dig.size ≤ 100 ∧ da.size ≤ 70000 ∧ nm.size ≤ 300 ∧ s.size ≤ 300
  · obtain ⟨s1, s2, s3, s4, s5⟩ := hs
    have t1 : ¬ ((70000 : Int) < (pay.size : Int)) := by omega
    have t2 : ¬ ((100 : Int) < (dig.size : Int)) := by omega
    have t3 : ¬ ((70000 : Int) < (da.size : Int)) := by omega
    have t4 : ¬ ((300 : Int) < (nm.size : Int)) := by omega
    have t5 : ¬ ((300 : Int) < (s.size : Int)) := by omega
    have HS := Lib.hid (And.intro s1 (And.intro s2 (And.intro s3 (And.intro s4 s5))))
    clear s1 s2 s3 s4 s5
    go_enter Tryd.func3, Tryd.ntmps3
    go_wp2_with fail
    clear t1 t2 t3 t4 t5
    obtain ⟨n0, hn0⟩ : ∃ n, n = w.heap.size := ⟨_, rfl⟩
    rw [← hn0] at hbx hob hb2 ⊢
    have hv2 : Vars ((w.alloc (.cells #[.int .i64 K, .int .i64 N, .string dig, .int .i64 idx, .string pay] 25)).alloc (.cells #[.string nm, .string da] 27)) := (HV.out.alloc _).alloc _
    have HN0 := Lib.hid hn0
    clear hn0
    generalize (w.alloc (.cells #[.int .i64 K, .int .i64 N, .string dig, .int .i64 idx, .string pay] 25)).alloc (.cells #[.string nm, .string da] 27) = w2 at *
    -- the program's Make
    refine (make_any K N idx dig pay hI w2 hv2).mono ?_
    rintro e w3 ⟨hm1, hb3⟩
    obtain ⟨x, y, c, rfl, hone⟩ := make_one hm1
    have HM := Lib.hid hone
    have hbx3 := hbx.below hb3 hbx.lt
    have hob3 := hob.below hb3 hob.lt
    have hb03 : Below n0 w w3 := hb2.trans (hb3.mono (Nat.le_of_lt hbx.lt))
    have hv3 := hv2.below hb3
    clear hm1 hone hbx hob hb2 hb3 hv2
    have c0 : w3.cell? ⟨n0, 0, none⟩ = some (.int .i64 K) := hbx3.cell 0
    have c1 : w3.cell? ⟨n0, 1, none⟩ = some (.int .i64 N) := hbx3.cell 1
    have c2 : w3.cell? ⟨n0, 2, none⟩ = some (.string dig) := hbx3.cell 2
    have c3 : w3.cell? ⟨n0, 3, none⟩ = some (.int .i64 idx) := hbx3.cell 3
    have c4 : w3.cell? ⟨n0, 4, none⟩ = some (.string pay) := hbx3.cell 4
    have l0 : n0 < w3.heap.size := hbx3.lt
    have l1 : n0 + 1 < w3.heap.size := hob3.lt
    have HBX3 := Lib.hid hbx3
    have HOB3 := Lib.hid hob3
    have HB3 := Lib.hid hb03
    have HV3 := Lib.hid hv3
    clear hbx3 hob3 hb03 hv3
    go_wp2_with fail
    clear c0 c1 c2 c3 c4
    have ha : Blk (w3.alloc (.cells #[.string x, .string y] 27)) w3.heap.size 27 #[.string x, .string y] := Blk.new _ _ _
    have hbx := HBX3.out.alloc (.cells #[.string x, .string y] 27)
    have hob := HOB3.out.alloc (.cells #[.string x, .string y] 27)
    have hb0 : Below n0 w (w3.alloc (.cells #[.string x, .string y] 27)) := HB3.out.alloc (Nat.le_of_lt l0) _
    have hv := HV3.out.alloc (.cells #[.string x, .string y] 27)
    have m1 : n0 + 1 < w3.heap.size := l1
    clear l0 l1
    generalize w3.alloc (.cells #[.string x, .string y] 27) = w4 at *
    generalize w3.heap.size = na at *
    clear HBX3 HOB3 HB3 HV3
    -- the document's Make
    refine (R6.make_any K N idx dig pay hI w4).mono ?_
    rintro e w5 ⟨hm2, hb5⟩
    obtain rfl := HM.out _ hm2
    have ha5 := ha.below hb5 ha.lt
    have hbx5 := hbx.below hb5 hbx.lt
    have hob5 := hob.below hb5 hob.lt
    have hb05 : Below n0 w w5 := hb0.trans (hb5.mono (Nat.le_of_lt hbx.lt))
    have hv5 := hv.below hb5
    clear hm2 ha hbx hob hb0 hv hb5 HM
    have o0 : w5.cell? ⟨n0 + 1, 0, none⟩ = some (.string nm) := hob5.cell 0
    have o1 : w5.cell? ⟨n0 + 1, 1, none⟩ = some (.string da) := hob5.cell 1
    have l0 : n0 < w5.heap.size := hbx5.lt
    have l1 : n0 + 1 < w5.heap.size := hob5.lt
    have l2 : na < w5.heap.size := ha5.lt
    have HA5 := Lib.hid ha5
    have HBX5 := Lib.hid hbx5
    have HOB5 := Lib.hid hob5
    have HB5 := Lib.hid hb05
    have HV5 := Lib.hid hv5
    clear ha5 hbx5 hob5 hb05 hv5
    go_wp2_with fail
    clear o0 o1
    have ha := HA5.out.alloc (.cells #[.string x, .string y] 27)
    have hbb : Blk (w5.alloc (.cells #[.string x, .string y] 27)) w5.heap.size 27 #[.string x, .string y] := Blk.new _ _ _
    have hbx := HBX5.out.alloc (.cells #[.string x, .string y] 27)
    have hob := HOB5.out.alloc (.cells #[.string x, .string y] 27)
    have hb0 : Below n0 w (w5.alloc (.cells #[.string x, .string y] 27)) := HB5.out.alloc (Nat.le_of_lt l0) _
    have hv := HV5.out.alloc (.cells #[.string x, .string y] 27)
    have m2 : na < w5.heap.size := l2
    clear l0 l1 l2
    generalize w5.alloc (.cells #[.string x, .string y] 27) = w6 at *
    generalize w5.heap.size = nb at *
    clear HA5 HBX5 HOB5 HB5 HV5
    -- the program's Read
    refine (read_any nm da w6 hv).mono ?_
    rintro e w7 ⟨hr1, hb7⟩
    obtain ⟨ra, rb, rc, rd, rx, ry, rfl, hone⟩ := read_one hr1
    have HR := Lib.hid hone
    have ha7 := ha.below hb7 ha.lt
    have hbb7 := hbb.below hb7 hbb.lt
    have hbx7 := hbx.below hb7 hbx.lt
    have hob7 := hob.below hb7 hob.lt
    have hb07 : Below n0 w w7 := hb0.trans (hb7.mono (Nat.le_of_lt hbx.lt))
    have hv7 := hv.below hb7
    clear hr1 hone ha hbb hbx hob hb0 hv hb7
    have o0 : w7.cell? ⟨n0 + 1, 0, none⟩ = some (.string nm) := hob7.cell 0
    have o1 : w7.cell? ⟨n0 + 1, 1, none⟩ = some (.string da) := hob7.cell 1
    have l0 : n0 < w7.heap.size := hbx7.lt
    have l1 : n0 + 1 < w7.heap.size := hob7.lt
    have l2 : na < w7.heap.size := ha7.lt
    have l3 : nb < w7.heap.size := hbb7.lt
    have HA7 := Lib.hid ha7
    have HBB7 := Lib.hid hbb7
    have HBX7 := Lib.hid hbx7
    have HB7 := Lib.hid hb07
    have HV7 := Lib.hid hv7
    clear ha7 hbb7 hbx7 hob7 hb07 hv7
    go_wp2_with fail
    clear o0 o1
    have ha := HA7.out.alloc (.cells #[.int .i64 ra, .int .i64 rb, .string rc, .int .i64 rd, .string rx] 25)
    have hbb := HBB7.out.alloc (.cells #[.int .i64 ra, .int .i64 rb, .string rc, .int .i64 rd, .string rx] 25)
    have hcc : Blk (w7.alloc (.cells #[.int .i64 ra, .int .i64 rb, .string rc, .int .i64 rd, .string rx] 25)) w7.heap.size 25 #[.int .i64 ra, .int .i64 rb, .string rc, .int .i64 rd, .string rx] := Blk.new _ _ _
    have hbx := HBX7.out.alloc (.cells #[.int .i64 ra, .int .i64 rb, .string rc, .int .i64 rd, .string rx] 25)
    have hb0 : Below n0 w (w7.alloc (.cells #[.int .i64 ra, .int .i64 rb, .string rc, .int .i64 rd, .string rx] 25)) := HB7.out.alloc (Nat.le_of_lt l0) _
    have hv := HV7.out.alloc (.cells #[.int .i64 ra, .int .i64 rb, .string rc, .int .i64 rd, .string rx] 25)
    clear l0 l1 l2 l3
    generalize w7.alloc (.cells #[.int .i64 ra, .int .i64 rb, .string rc, .int .i64 rd, .string rx] 25) = w8 at *
    generalize w7.heap.size = nc at *
    clear HA7 HBB7 HBX7 HB7 HV7
    -- the document's Read
    refine (R6.read_any nm da (by have := HS.out; omega) w8).mono ?_
    rintro e w9 ⟨hr2, hb9⟩
    obtain rfl := HR.out _ hr2
    have ha9 := ha.below hb9 ha.lt
    have hbb9 := hbb.below hb9 hbb.lt
    have hcc9 := hcc.below hb9 hcc.lt
    have hbx9 := hbx.below hb9 hbx.lt
    have hb09 : Below n0 w w9 := hb0.trans (hb9.mono (Nat.le_of_lt hbx.lt))
    have hv9 := hv.below hb9
    clear hr2 ha hbb hcc hbx hb0 hv hb9 HR
    have a0 : w9.cell? ⟨na, 0, none⟩ = some (.string x) := ha9.cell 0
    have a1 : w9.cell? ⟨na, 1, none⟩ = some (.string y) := ha9.cell 1
    have b0 : w9.cell? ⟨nb, 0, none⟩ = some (.string x) := hbb9.cell 0
    have b1 : w9.cell? ⟨nb, 1, none⟩ = some (.string y) := hbb9.cell 1
    have d0 : w9.cell? ⟨nc, 0, none⟩ = some (.int .i64 ra) := hcc9.cell 0
    have d1 : w9.cell? ⟨nc, 1, none⟩ = some (.int .i64 rb) := hcc9.cell 1
    have d2 : w9.cell? ⟨nc, 2, none⟩ = some (.string rc) := hcc9.cell 2
    have d3 : w9.cell? ⟨nc, 3, none⟩ = some (.int .i64 rd) := hcc9.cell 3
    have d4 : w9.cell? ⟨nc, 4, none⟩ = some (.string rx) := hcc9.cell 4
    have l0 : n0 < w9.heap.size := hbx9.lt
    have l2 : na < w9.heap.size := ha9.lt
    have l3 : nb < w9.heap.size := hbb9.lt
    have l4 : nc < w9.heap.size := hcc9.lt
    have HBX9 := Lib.hid hbx9
    have HB9 := Lib.hid hb09
    have HV9 := Lib.hid hv9
    clear ha9 hbb9 hcc9 hbx9 hb09 hv9
    go_wp2_with fail
    clear a0 a1 b0 b1 d0 d1 d2 d3 d4 m1 m2 l2 l3 l4
    have hbx := HBX9.out.alloc (.cells #[.int .i64 ra, .int .i64 rb, .string rc, .int .i64 rd, .string rx] 33)
    have hb0 : Below n0 w (w9.alloc (.cells #[.int .i64 ra, .int .i64 rb, .string rc, .int .i64 rd, .string rx] 33)) := HB9.out.alloc (Nat.le_of_lt l0) _
    have hv := HV9.out.alloc (.cells #[.int .i64 ra, .int .i64 rb, .string rc, .int .i64 rd, .string rx] 33)
    clear l0
    generalize w9.alloc (.cells #[.int .i64 ra, .int .i64 rb, .string rc, .int .i64 rd, .string rx] 33) = w10 at *
    clear HBX9 HB9 HV9
    refine (parse_any s (by have := HS.out; omega) w10 hv).mono ?_
    rintro e w11 ⟨hp1, hb11⟩
    obtain ⟨px, pn, pb, rfl, hone⟩ := parse_one hp1
    have HP := Lib.hid hone
    have hbx11 := hbx.below hb11 hbx.lt
    have hb011 : Below n0 w w11 := hb0.trans (hb11.mono (Nat.le_of_lt hbx.lt))
    have HBX11 := Lib.hid hbx11
    have HB11 := Lib.hid hb011
    have HV11 := Lib.hid (hv.below hb11)
    clear hp1 hone hbx hb0 hv hb11 hbx11 hb011
    go_wp2_with fail
    refine (R6.parse_any s (by have := HS.out; omega) w11).mono ?_
    rintro e w12 ⟨hp2, hb12⟩
    obtain rfl := HP.out _ hp2
    have hbx12 := HBX11.out.below hb12 HBX11.out.lt
    have hb012 : Below n0 w w12 := HB11.out.trans (hb12.mono (Nat.le_of_lt HBX11.out.lt))
    have hv12 := HV11.out.below hb12
    have hheld : Held5 n0 K N dig idx w12.drew := ⟨⟨hbx12.cell 0, hbx12.cell 1, hbx12.cell 2, hbx12.cell 3⟩, hv12.below ((Below.refl _ _).drew)⟩
    have HH := Lib.hid hheld
    have HB12 := Lib.hid hb012
    have hl12 : n0 ≤ w12.heap.size := Nat.le_of_lt hbx12.lt
    have HL12 := Lib.hid hl12
    have HD1 := Lib.hid (fun W hv => name_any dig (by have := HS.out; omega) idx hI W hv)
    have HD2 := Lib.hid (fun W => R6.name_any dig (by have := HS.out; omega) idx hI W)
    clear hp2 hb12 hbx12 hb012 hv12 hheld hl12 HBX11 HB11 HV11 HP
    go_wp2_with fail
    refine Stab.wp_region_stable 39 137 [some 99, some 100, some 101, some 102, some 103, some 104, some 105, some 106, some 107, some 108, some 109, some 110, some 111, some 112, some 113, some 114, some 115, some 116, some 117, some 118, some 119, some 120, some 121, some 122, some 123, some 124, some 125, some 126, some 127, some 128, some 129, some 130, some 131, some 132, some 133, some 134, some 135, some 136, some 6] [[], [], [0, 1], [2], [3], [3], [4, 5, 3], [3, 6], [7], [8], [8], [9, 10, 8], [8, 11], [12], [13], [14, 13], [13], [16, 13], [15, 17, 13], [13], [19, 13], [13], [21, 13], [20, 22, 13], [18, 23, 13], [13, 24], [25], [26], [27, 26], [28, 26], [26], [30, 26], [31, 26], [29, 32, 26], [26, 33], [34], [35], [35, 36], [37]] [38] (Held5 n0 K N dig idx) [Stab.eqv ?r11e0, Stab.eqv ?r11e1, Stab.eqv ?r11e2, Stab.eqv ?r11e3, Stab.eqv ?r11e4, Stab.eqv ?r11e5, Stab.eqv ?r11e6, Stab.eqv ?r11e7, Stab.eqv ?r11e8, Stab.eqv ?r11e9, Stab.eqv ?r11e10, Stab.eqv ?r11e11, Stab.eqv ?r11e12, Stab.eqv ?r11e13, Stab.eqv ?r11e14, Stab.eqv ?r11e15, Stab.eqv ?r11e16, Stab.eqv ?r11e17, Stab.eqv ?r11e18, Stab.eqv ?r11e19, Stab.eqv ?r11e20, Stab.eqv ?r11e21, Stab.eqv ?r11e22, Stab.eqv ?r11e23, Stab.eqv ?r11e24, Stab.eqv ?r11e25, Stab.eqv ?r11e26, Stab.eqv ?r11e27, Stab.eqv ?r11e28, Stab.eqv ?r11e29, Stab.eqv ?r11e30, Stab.eqv ?r11e31, Stab.eqv ?r11e32, Stab.eqv ?r11e33, Stab.eqv ?r11e34, Stab.eqv ?r11e35, Stab.eqv ?r11e36, Stab.eqv ?r11e37, Stab.eqv ?r11e38] (by kernel_rfl) rfl (by kernel_rfl) (by kernel_rfl) (fun us => by simp only [Stab.putAll, Act.put, List.setIfInBounds_toArray, List.set_cons_zero, List.set_cons_succ]; rfl) HH.out (fun _ _ h hE => h.ext hE) ?goals11 ?last11
    case goals11 =>
      simp only [List.take_succ_cons, List.take_zero]
      refine Stab.Goals.plain rfl rfl (fun us w cK hE hS hp hK => ?_) ?_
      · go_simp
        refine hK _ _ ?_ (Stab.Ext.refl _)
        show _ = _
        with_reducible rfl
      refine Stab.Goals.plain rfl rfl (fun us w cK hE hS hp hK => ?_) ?_
      · go_simp
        refine hK _ _ ?_ (Stab.Ext.refl _)
        show _ = _
        with_reducible rfl
      refine Stab.Goals.plain rfl rfl (fun us w cK hE hS hp hK => ?_) ?_
      · obtain ⟨h0, h1, -⟩ := hp
        replace h0 : us 0 = _ := h0
        replace h1 : us 1 = _ := h1
        go_simp
        refine hK _ _ ?_ (Stab.Ext.refl _)
        show _ = _
        with_reducible rfl
      refine Stab.Goals.plain rfl rfl (fun us w cK hE hS hp hK => ?_) ?_
      · obtain ⟨h2, -⟩ := hp
        replace h2 : us 2 = _ := h2
        go_simp
        refine hK _ _ ?_ (Stab.Ext.refl _)
        show _ = _
        with_reducible rfl
      refine Stab.Goals.guarded rfl rfl (fun us w cK hE hS hp hK => ?_) ?_
      · obtain ⟨h3, -⟩ := hp
        replace h3 : us 3 = _ := h3
        refine ⟨_, h3, fun _ => ?_, fun h => absurd rfl h⟩
        go_simp
        refine hK _ _ ?_ (Stab.Ext.refl _)
        show _ = _
        with_reducible rfl
      refine Stab.Goals.guarded rfl rfl (fun us w cK hE hS hp hK => ?_) ?_
      · obtain ⟨h3, -⟩ := hp
        replace h3 : us 3 = _ := h3
        refine ⟨_, h3, fun _ => ?_, fun h => absurd rfl h⟩
        go_simp
        refine hK _ _ ?_ (Stab.Ext.refl _)
        show _ = _
        with_reducible rfl
      refine Stab.Goals.guarded rfl rfl (fun us w cK hE hS hp hK => ?_) ?_
      · obtain ⟨h4, h5, h3, -⟩ := hp
        replace h4 : us 4 = _ := h4
        replace h5 : us 5 = _ := h5
        replace h3 : us 3 = _ := h3
        refine ⟨_, h3, fun _ => ?_, fun h => absurd rfl h⟩
        go_simp
        refine hK _ _ ?_ (Stab.Ext.refl _)
        show _ = _
        with_reducible rfl
      refine Stab.Goals.plain rfl rfl (fun us w cK hE hS hp hK => ?_) ?_
      · obtain ⟨h3, h6, -⟩ := hp
        replace h3 : us 3 = _ := h3
        replace h6 : us 6 = _ := h6
        go_simp
        refine hK _ _ ?_ (Stab.Ext.refl _)
        show _ = _
        with_reducible rfl
      refine Stab.Goals.plain rfl rfl (fun us w cK hE hS hp hK => ?_) ?_
      · obtain ⟨h7, -⟩ := hp
        replace h7 : us 7 = _ := h7
        go_simp
        refine hK _ _ ?_ (Stab.Ext.refl _)
        show _ = _
        with_reducible rfl
      refine Stab.Goals.guarded rfl rfl (fun us w cK hE hS hp hK => ?_) ?_
      · obtain ⟨h8, -⟩ := hp
        replace h8 : us 8 = _ := h8
        refine ⟨_, h8, fun _ => ?_, fun h => absurd rfl h⟩
        go_simp
        refine hK _ _ ?_ (Stab.Ext.refl _)
        show _ = _
        with_reducible rfl
      refine Stab.Goals.guarded rfl rfl (fun us w cK hE hS hp hK => ?_) ?_
      · obtain ⟨h8, -⟩ := hp
        replace h8 : us 8 = _ := h8
        refine ⟨_, h8, fun _ => ?_, fun h => absurd rfl h⟩
        go_simp
        refine hK _ _ ?_ (Stab.Ext.refl _)
        show _ = _
        with_reducible rfl
      refine Stab.Goals.guarded rfl rfl (fun us w cK hE hS hp hK => ?_) ?_
      · obtain ⟨h9, h10, h8, -⟩ := hp
        replace h9 : us 9 = _ := h9
        replace h10 : us 10 = _ := h10
        replace h8 : us 8 = _ := h8
        refine ⟨_, h8, fun _ => ?_, fun h => absurd rfl h⟩
        go_simp
        refine hK _ _ ?_ (Stab.Ext.refl _)
        show _ = _
        with_reducible rfl
      refine Stab.Goals.plain rfl rfl (fun us w cK hE hS hp hK => ?_) ?_
      · obtain ⟨h8, h11, -⟩ := hp
        replace h8 : us 8 = _ := h8
        replace h11 : us 11 = _ := h11
        go_simp
        refine hK _ _ ?_ (Stab.Ext.refl _)
        show _ = _
        with_reducible rfl
      refine Stab.Goals.plain rfl rfl (fun us w cK hE hS hp hK => ?_) ?_
      · obtain ⟨h12, -⟩ := hp
        replace h12 : us 12 = _ := h12
        go_simp
        refine hK _ _ ?_ (Stab.Ext.refl _)
        show _ = _
        with_reducible rfl
      refine Stab.Goals.guarded rfl rfl (fun us w cK hE hS hp hK => ?_) ?_
      · obtain ⟨h13, -⟩ := hp
        replace h13 : us 13 = _ := h13
        refine ⟨_, h13, fun _ => ?_, fun h => absurd rfl h⟩
        go_simp
        refine hK _ _ ?_ (Stab.Ext.refl _)
        show _ = _
        with_reducible rfl
      refine Stab.Goals.guarded rfl rfl (fun us w cK hE hS hp hK => ?_) ?_
      · obtain ⟨h14, h13, -⟩ := hp
        replace h14 : us 14 = _ := h14
        replace h13 : us 13 = _ := h13
        refine ⟨_, h13, fun _ => ?_, fun h => absurd rfl h⟩
        obtain ⟨⟨s0, s1, s2, s3⟩, _⟩ := hS
        go_simp
        refine hK _ _ ?_ (Stab.Ext.refl _)
        show _ = _
        with_reducible rfl
      refine Stab.Goals.guarded rfl rfl (fun us w cK hE hS hp hK => ?_) ?_
      · obtain ⟨h13, -⟩ := hp
        replace h13 : us 13 = _ := h13
        refine ⟨_, h13, fun _ => ?_, fun h => absurd rfl h⟩
        go_simp
        refine hK _ _ ?_ (Stab.Ext.refl _)
        show _ = _
        with_reducible rfl
      refine Stab.Goals.guarded rfl rfl (fun us w cK hE hS hp hK => ?_) ?_
      · obtain ⟨h16, h13, -⟩ := hp
        replace h16 : us 16 = _ := h16
        replace h13 : us 13 = _ := h13
        refine ⟨_, h13, fun _ => ?_, fun h => absurd rfl h⟩
        obtain ⟨⟨s0, s1, s2, s3⟩, _⟩ := hS
        go_simp
        refine hK _ _ ?_ (Stab.Ext.refl _)
        show _ = _
        with_reducible rfl
      refine Stab.Goals.guarded rfl rfl (fun us w cK hE hS hp hK => ?_) ?_
      · obtain ⟨h15, h17, h13, -⟩ := hp
        replace h15 : us 15 = _ := h15
        replace h17 : us 17 = _ := h17
        replace h13 : us 13 = _ := h13
        refine ⟨_, h13, fun _ => ?_, fun h => absurd rfl h⟩
        go_simp
        go_wp2_with (go_at_call 15; ((with_reducible refine (HD1.out _ hS.vars).mono ?_); rintro e w1 ⟨rfl, hb⟩))
        refine hK _ _ ?_ hb
        show _ = _
        with_reducible rfl
      refine Stab.Goals.guarded rfl rfl (fun us w cK hE hS hp hK => ?_) ?_
      · obtain ⟨h13, -⟩ := hp
        replace h13 : us 13 = _ := h13
        refine ⟨_, h13, fun _ => ?_, fun h => absurd rfl h⟩
        go_simp
        refine hK _ _ ?_ (Stab.Ext.refl _)
        show _ = _
        with_reducible rfl
      refine Stab.Goals.guarded rfl rfl (fun us w cK hE hS hp hK => ?_) ?_
      · obtain ⟨h19, h13, -⟩ := hp
        replace h19 : us 19 = _ := h19
        replace h13 : us 13 = _ := h13
        refine ⟨_, h13, fun _ => ?_, fun h => absurd rfl h⟩
        obtain ⟨⟨s0, s1, s2, s3⟩, _⟩ := hS
        go_simp
        refine hK _ _ ?_ (Stab.Ext.refl _)
        show _ = _
        with_reducible rfl
      refine Stab.Goals.guarded rfl rfl (fun us w cK hE hS hp hK => ?_) ?_
      · obtain ⟨h13, -⟩ := hp
        replace h13 : us 13 = _ := h13
        refine ⟨_, h13, fun _ => ?_, fun h => absurd rfl h⟩
        go_simp
        refine hK _ _ ?_ (Stab.Ext.refl _)
        show _ = _
        with_reducible rfl
      refine Stab.Goals.guarded rfl rfl (fun us w cK hE hS hp hK => ?_) ?_
      · obtain ⟨h21, h13, -⟩ := hp
        replace h21 : us 21 = _ := h21
        replace h13 : us 13 = _ := h13
        refine ⟨_, h13, fun _ => ?_, fun h => absurd rfl h⟩
        obtain ⟨⟨s0, s1, s2, s3⟩, _⟩ := hS
        go_simp
        refine hK _ _ ?_ (Stab.Ext.refl _)
        show _ = _
        with_reducible rfl
      refine Stab.Goals.guarded rfl rfl (fun us w cK hE hS hp hK => ?_) ?_
      · obtain ⟨h20, h22, h13, -⟩ := hp
        replace h20 : us 20 = _ := h20
        replace h22 : us 22 = _ := h22
        replace h13 : us 13 = _ := h13
        refine ⟨_, h13, fun _ => ?_, fun h => absurd rfl h⟩
        go_simp
        go_wp2_with (go_at_call 16; ((with_reducible refine (HD2.out _).mono ?_); rintro e w1 ⟨rfl, hb⟩))
        refine hK _ _ ?_ hb
        show _ = _
        with_reducible rfl
      refine Stab.Goals.guarded rfl rfl (fun us w cK hE hS hp hK => ?_) ?_
      · obtain ⟨h18, h23, h13, -⟩ := hp
        replace h18 : us 18 = _ := h18
        replace h23 : us 23 = _ := h23
        replace h13 : us 13 = _ := h13
        refine ⟨_, h13, fun _ => ?_, fun h => absurd rfl h⟩
        go_simp
        refine hK _ _ ?_ (Stab.Ext.refl _)
        show _ = _
        with_reducible rfl
      refine Stab.Goals.plain rfl rfl (fun us w cK hE hS hp hK => ?_) ?_
      · obtain ⟨h13, h24, -⟩ := hp
        replace h13 : us 13 = _ := h13
        replace h24 : us 24 = _ := h24
        go_simp
        refine hK _ _ ?_ (Stab.Ext.refl _)
        show _ = _
        with_reducible rfl
      refine Stab.Goals.plain rfl rfl (fun us w cK hE hS hp hK => ?_) ?_
      · obtain ⟨h25, -⟩ := hp
        replace h25 : us 25 = _ := h25
        go_simp
        refine hK _ _ ?_ (Stab.Ext.refl _)
        show _ = _
        with_reducible rfl
      refine Stab.Goals.guarded rfl rfl (fun us w cK hE hS hp hK => ?_) ?_
      · obtain ⟨h26, -⟩ := hp
        replace h26 : us 26 = _ := h26
        refine ⟨_, h26, fun _ => ?_, fun h => absurd rfl h⟩
        go_simp
        refine hK _ _ ?_ (Stab.Ext.refl _)
        show _ = _
        with_reducible rfl
      refine Stab.Goals.guarded rfl rfl (fun us w cK hE hS hp hK => ?_) ?_
      · obtain ⟨h27, h26, -⟩ := hp
        replace h27 : us 27 = _ := h27
        replace h26 : us 26 = _ := h26
        refine ⟨_, h26, fun _ => ?_, fun h => absurd rfl h⟩
        obtain ⟨⟨s0, s1, s2, s3⟩, _⟩ := hS
        go_simp
        refine hK _ _ ?_ (Stab.Ext.refl _)
        show _ = _
        with_reducible rfl
      refine Stab.Goals.guarded rfl rfl (fun us w cK hE hS hp hK => ?_) ?_
      · obtain ⟨h28, h26, -⟩ := hp
        replace h28 : us 28 = _ := h28
        replace h26 : us 26 = _ := h26
        refine ⟨_, h26, fun _ => ?_, fun h => absurd rfl h⟩
        go_simp
        go_wp2_with (go_at_call 17; ((with_reducible refine (code_any K N _).mono ?_); rintro e w1 ⟨rfl, hb⟩))
        refine hK _ _ ?_ hb
        show _ = _
        with_reducible rfl
      refine Stab.Goals.guarded rfl rfl (fun us w cK hE hS hp hK => ?_) ?_
      · obtain ⟨h26, -⟩ := hp
        replace h26 : us 26 = _ := h26
        refine ⟨_, h26, fun _ => ?_, fun h => absurd rfl h⟩
        go_simp
        refine hK _ _ ?_ (Stab.Ext.refl _)
        show _ = _
        with_reducible rfl
      refine Stab.Goals.guarded rfl rfl (fun us w cK hE hS hp hK => ?_) ?_
      · obtain ⟨h30, h26, -⟩ := hp
        replace h30 : us 30 = _ := h30
        replace h26 : us 26 = _ := h26
        refine ⟨_, h26, fun _ => ?_, fun h => absurd rfl h⟩
        obtain ⟨⟨s0, s1, s2, s3⟩, _⟩ := hS
        go_simp
        refine hK _ _ ?_ (Stab.Ext.refl _)
        show _ = _
        with_reducible rfl
      refine Stab.Goals.guarded rfl rfl (fun us w cK hE hS hp hK => ?_) ?_
      · obtain ⟨h31, h26, -⟩ := hp
        replace h31 : us 31 = _ := h31
        replace h26 : us 26 = _ := h26
        refine ⟨_, h26, fun _ => ?_, fun h => absurd rfl h⟩
        go_simp
        go_wp2_with (go_at_call 18; ((with_reducible refine (R6.code_any K N _).mono ?_); rintro e w1 ⟨rfl, hb⟩))
        refine hK _ _ ?_ hb
        show _ = _
        with_reducible rfl
      refine Stab.Goals.guarded rfl rfl (fun us w cK hE hS hp hK => ?_) ?_
      · obtain ⟨h29, h32, h26, -⟩ := hp
        replace h29 : us 29 = _ := h29
        replace h32 : us 32 = _ := h32
        replace h26 : us 26 = _ := h26
        refine ⟨_, h26, fun _ => ?_, fun h => absurd rfl h⟩
        go_simp
        refine hK _ _ ?_ (Stab.Ext.refl _)
        show _ = _
        with_reducible rfl
      refine Stab.Goals.plain rfl rfl (fun us w cK hE hS hp hK => ?_) ?_
      · obtain ⟨h26, h33, -⟩ := hp
        replace h26 : us 26 = _ := h26
        replace h33 : us 33 = _ := h33
        go_simp
        refine hK _ _ ?_ (Stab.Ext.refl _)
        show _ = _
        with_reducible rfl
      refine Stab.Goals.plain rfl rfl (fun us w cK hE hS hp hK => ?_) ?_
      · obtain ⟨h34, -⟩ := hp
        replace h34 : us 34 = _ := h34
        go_simp
        refine hK _ _ ?_ (Stab.Ext.refl _)
        show _ = _
        with_reducible rfl
      refine Stab.Goals.guarded rfl rfl (fun us w cK hE hS hp hK => ?_) ?_
      · obtain ⟨h35, -⟩ := hp
        replace h35 : us 35 = _ := h35
        refine ⟨_, h35, fun _ => ?_, fun h => absurd rfl h⟩
        go_simp
        go_wp2_with (go_at_call 8; ((with_reducible refine (awake_any _ hS.vars).mono ?_); rintro e w1 ⟨rfl, hb⟩))
        refine hK _ _ ?_ hb
        show _ = _
        with_reducible rfl
      refine Stab.Goals.plain rfl rfl (fun us w cK hE hS hp hK => ?_) ?_
      · obtain ⟨h35, h36, -⟩ := hp
        replace h35 : us 35 = _ := h35
        replace h36 : us 36 = _ := h36
        go_simp
        refine hK _ _ ?_ (Stab.Ext.refl _)
        show _ = _
        with_reducible rfl
      refine Stab.Goals.plain rfl rfl (fun us w cK hE hS hp hK => ?_) ?_
      · obtain ⟨h37, -⟩ := hp
        replace h37 : us 37 = _ := h37
        go_simp
        refine hK _ _ ?_ (Stab.Ext.refl _)
        show _ = _
        with_reducible rfl
      exact Stab.Goals.nil
    case last11 =>
      intro us w' hE hS hp
      obtain ⟨h38, -⟩ := hp
      replace h38 : us 38 = _ := h38
      simp only [List.drop_succ_cons, List.drop_zero, h38]
      have hbf : Below n0 w w' := HB12.out.trans (Below.mono ((Stab.Ext.drew w12).trans hE) HL12.out)
      clear hS h38 hE
      refine wpList_nil ?_
      go_wp2_with fail
      go_ret
      exact ⟨rfl, by have hh := HN0.out; rw [← hh]; exact hbf⟩
  · have hbx' := hbx
    clear hbx hob hb2 hbx'
    have HAW := Lib.hid (fun W hv => awake_any W hv)
    have HV2 := Lib.hid (((HV.out.alloc (.cells #[.int .i64 K, .int .i64 N, .string dig, .int .i64 idx, .string pay] 25)).alloc (.cells #[.string nm, .string da] 27)))
    have HB2 := Lib.hid (show Below w.heap.size w ((w.alloc (.cells #[.int .i64 K, .int .i64 N, .string dig, .int .i64 idx, .string pay] 25)).alloc (.cells #[.string nm, .string da] 27)) from ((Below.refl _ _).alloc (Nat.le_refl _) _).alloc (by simp) _)
    have hc : 70000 < pay.size ∨ (pay.size ≤ 70000 ∧ (100 < dig.size ∨ (dig.size ≤ 100 ∧ (70000 < da.size ∨ (da.size ≤ 70000 ∧ (300 < nm.size ∨ (nm.size ≤ 300 ∧ 300 < s.size))))))) := by omega
    clear hs
    rcases hc with h1 | ⟨h1, h2 | ⟨h2, h3 | ⟨h3, h4 | ⟨h4, h5⟩⟩⟩⟩
    · have t1 : (70000 : Int) < (pay.size : Int) := by omega
      go_enter Tryd.func3, Tryd.ntmps3
      go_wp2_with (go_at_call 8; ((with_reducible refine (HAW.out _ HV2.out).mono ?_); rintro e w' ⟨rfl, hb⟩))
      go_ret
      exact ⟨rfl, HB2.out.trans (hb.mono HB2.out.size)⟩
    · have t1 : ¬ (70000 : Int) < (pay.size : Int) := by omega
      have t2 : (100 : Int) < (dig.size : Int) := by omega
      go_enter Tryd.func3, Tryd.ntmps3
      go_wp2_with (go_at_call 8; ((with_reducible refine (HAW.out _ HV2.out).mono ?_); rintro e w' ⟨rfl, hb⟩))
      go_ret
      exact ⟨rfl, HB2.out.trans (hb.mono HB2.out.size)⟩
    · have t1 : ¬ (70000 : Int) < (pay.size : Int) := by omega
      have t2 : ¬ (100 : Int) < (dig.size : Int) := by omega
      have t3 : (70000 : Int) < (da.size : Int) := by omega
      go_enter Tryd.func3, Tryd.ntmps3
      go_wp2_with (go_at_call 8; ((with_reducible refine (HAW.out _ HV2.out).mono ?_); rintro e w' ⟨rfl, hb⟩))
      go_ret
      exact ⟨rfl, HB2.out.trans (hb.mono HB2.out.size)⟩
    · have t1 : ¬ (70000 : Int) < (pay.size : Int) := by omega
      have t2 : ¬ (100 : Int) < (dig.size : Int) := by omega
      have t3 : ¬ (70000 : Int) < (da.size : Int) := by omega
      have t4 : (300 : Int) < (nm.size : Int) := by omega
      go_enter Tryd.func3, Tryd.ntmps3
      go_wp2_with (go_at_call 8; ((with_reducible refine (HAW.out _ HV2.out).mono ?_); rintro e w' ⟨rfl, hb⟩))
      go_ret
      exact ⟨rfl, HB2.out.trans (hb.mono HB2.out.size)⟩
    · have t1 : ¬ (70000 : Int) < (pay.size : Int) := by omega
      have t2 : ¬ (100 : Int) < (dig.size : Int) := by omega
      have t3 : ¬ (70000 : Int) < (da.size : Int) := by omega
      have t4 : ¬ (300 : Int) < (nm.size : Int) := by omega
      have t5 : (300 : Int) < (s.size : Int) := by omega
      go_enter Tryd.func3, Tryd.ntmps3
      go_wp2_with (go_at_call 8; ((with_reducible refine (HAW.out _ HV2.out).mono ?_); rintro e w' ⟨rfl, hb⟩))
      go_ret
      exact ⟨rfl, HB2.out.trans (hb.mono HB2.out.size)⟩

end Shd
end Go.Proofs.YtbcokpnehengfaaDoor
