/-
 The walks of package shard: Read.
-/
import Derived.Test.YtnbkhdbligjifaaGreatDoorShdMake
import Derived.Laws.ByValue
import Derived.RegionTactic
import Derived.BigRegion
import Derived.Deep.RegionWith
import Derived.Deep.DeepCutAuto
import Derived.Deep.RegionHeld3
import Derived.Test.YtnbkhdbligjifaaGreatDoorRegion
set_option linter.unusedVariables false
set_option linter.unusedSimpArgs false
set_option maxRecDepth 100000
set_option maxHeartbeats 40000000
namespace Go.Proofs.YtnbkhdbligjifaaGreatDoor
open Go.RowKit
namespace Shd
theorem take_any (n : Nat) (g : Nat) (s : ByteArray) (hn : n ≤ s.size) (w : World) (hg : Blk w g 9 #[.string s]) :
 Calls Tryz.prog 98 #[.int .i64 (n : Int), .pointer (some ⟨g, 0, none⟩)] w fun e w' =>
  e = .returned (.string (s.extract 0 n)) ∧ w.setCell ⟨g, 0, none⟩ (.string (s.extract n s.size)) = w' := by
 have c0 : w.cell? ⟨g, 0, none⟩ = some (.string s) := hg.cell 0
 have f0 := hg.frozen 0
 have hd : (n : Int) ≤ (s.size : Int) := by omega
 go_enter Tryz.func98, Tryz.ntmps98
 go_wp2_with fail
 go_ret
 exact ⟨rfl, rfl⟩
theorem takeL_any (n : Nat) (g : Nat) (l : List UInt8) (hn : n ≤ l.length) (w : World) (hg : Blk w g 9 #[.string ⟨l.toArray⟩]) :
 Calls Tryz.prog 98 #[.int .i64 (n : Int), .pointer (some ⟨g, 0, none⟩)] w fun e w' =>
  e = .returned (.string ⟨(l.take n).toArray⟩) ∧ w.setCell ⟨g, 0, none⟩ (.string ⟨(l.drop n).toArray⟩) = w' := by
 have h1 : (⟨l.toArray⟩ : ByteArray).extract 0 n = ⟨(l.take n).toArray⟩ := by
  apply ByteArray.ext; apply Array.toList_inj.1; simp
 have h2 : (⟨l.toArray⟩ : ByteArray).extract n (⟨l.toArray⟩ : ByteArray).size = ⟨(l.drop n).toArray⟩ := by
  apply ByteArray.ext; apply Array.toList_inj.1
  show _ = l.drop n
  have hs : (⟨l.toArray⟩ : ByteArray).size = l.length := rfl
  rw [hs]
  simp [List.take_of_length_le]
 have h := take_any n g ⟨l.toArray⟩ hn w hg
 rw [h1, h2] at h
 exact h
def shV (s : Shard) : Value := .agg #[.int .i64 s.K, .int .i64 s.N, .string ⟨s.dig.toArray⟩, .int .i64 s.idx, .string ⟨s.pay.toArray⟩]
def zeroC : Array Value := #[.int .i64 0, .int .i64 0, .string ⟨#[]⟩, .int .i64 0, .string ⟨#[]⟩]
def ReadEnd (name l : List UInt8) (e : Ending) : Prop :=
 (Looks sumL name l ∧ e = .returned (.tuple #[shV (readS l), .int .i64 0])) ∨ (¬ Looks sumL name l ∧ e = .returned (.tuple #[shV ⟨0, 0, 0, [], []⟩, .int .i64 4]))
theorem mk_toList (s : ByteArray) : (⟨s.data.toList.toArray⟩ : ByteArray) = s := by
 apply ByteArray.ext; simp
theorem run_bin {g : Nat} {W : World} {a b c d : Int} (h : Blk W g 5 (nums (binL a b c d))) :
 (convert 136 9 (.slice (some ⟨g, 0, none⟩) 7 7)).run Tryz.prog W = .ok (.string ⟨(binL a b c d).toArray⟩) W :=
 run_text (P := Tryz.prog) (src := 136) (e := 5) (dst := 9) (cap := 7) (r := #[]) (l := binL a b c d) Tryz.underlying136 Tryz.underlying5 Tryz.underlying9 (by simpa using h)
def Seen (nm l : List UInt8) (n0 sb : Nat) (cs : Array Value) (w : World) (s : Value) (W : World) : Prop :=
 ∃ b : Bool, s = .bool b ∧ (b = false ↔ Looks sumL nm l) ∧ Blk W sb 84 cs ∧ Blk W (n0 + 1) 84 zeroC ∧ Below n0 w W
theorem set_five {W : World} {g : Nat} {t : TypeId} {a b c d e : Value} (h : Blk W g t #[a, b, c, d, e]) (x y z u v : Value) :
 Blk (((((W.setCell ⟨g, 0, none⟩ x).setCell ⟨g, 1, none⟩ y).setCell ⟨g, 2, none⟩ z).setCell ⟨g, 3, none⟩ u).setCell ⟨g, 4, none⟩ v) g t #[x, y, z, u, v] := ((((h.set_ 0 x).set_ 1 y).set_ 2 z).set_ 3 u).set_ 4 v
theorem below_five {w W : World} {n : Nat} (h : Below n w W) (x y z u v : Value) :
 Below n w (((((W.setCell ⟨n + 1, 0, none⟩ x).setCell ⟨n + 1, 1, none⟩ y).setCell ⟨n + 1, 2, none⟩ z).setCell ⟨n + 1, 3, none⟩ u).setCell ⟨n + 1, 4, none⟩ v) :=
 ((((h.setCell (p := ⟨n + 1, 0, none⟩) (by simp) _).setCell (p := ⟨n + 1, 1, none⟩) (by simp) _).setCell (p := ⟨n + 1, 2, none⟩) (by simp) _).setCell (p := ⟨n + 1, 3, none⟩) (by simp) _).setCell (p := ⟨n + 1, 4, none⟩) (by simp) _
structure IffB (p : Prop) (q : Prop) : Prop where
 out : p ↔ q
theorem IffB.no {p q : Prop} (h : IffB p q) (k : ¬ q) : (true = false ↔ p) := ⟨fun e => (by cases e), fun hp => absurd (h.out.1 hp) k⟩
theorem IffB.yes {p q : Prop} (h : IffB p q) (k : q) : (false = false ↔ p) := ⟨fun _ => h.out.2 k, fun _ => rfl⟩
theorem looks_iff {nm l : List UInt8} {k0 k1 k2 : Int} {D P T hd : List UInt8} {c : Nat} (h75 : 75 ≤ l.length) (hmx : l.length ≤ 65536) (hmark : l.take 4 = markL) (hhd : (l.drop 4).take 7 = hd)
 (hRS : readS l = ⟨k0, k1, k2, D, P⟩) (hT : T = l.drop (l.length - 32)) (hc : l.length = c + 32) :
 IffB (Looks sumL nm l) (hd = binL k0 k1 k2 (P.length : Int) ∧ codeB k0 k1 = true ∧ k2 < k1 ∧ T = sumL (l.take c) ∧ nm = nameL D k2) := by
 refine ⟨?_⟩
 unfold Looks
 rw [hRS, hhd, ← hT, show l.length - 32 = c by omega]
 exact ⟨fun ⟨_, _, _, h1, h2, h3, h4, h5⟩ => ⟨h1, h2, h3, h4, h5⟩, fun ⟨h1, h2, h3, h4, h5⟩ => ⟨h75, hmx, hmark, h1, h2, h3, h4, h5⟩⟩
theorem seen_mk {nm l : List UInt8} {n0 sb : Nat} {cs : Array Value} {w W W' : World} {b : Bool} (hsb : Blk W sb 84 cs) (hrs : Blk W (n0 + 1) 84 zeroC) (hb : Below n0 w W) (h : Below W.drew.heap.size W.drew W')
 (hb' : b = false ↔ Looks sumL nm l) : Seen nm l n0 sb cs w (.bool b) W' := by
 have h2 : Below W.heap.size W W' := ((Below.refl _ _).drew).trans h
 exact ⟨b, rfl, hb', hsb.below h2 hsb.lt, hrs.below h2 hrs.lt, hb.trans (h2.mono (Nat.le_of_lt (Nat.lt_of_succ_lt hrs.lt)))⟩
def Hold8 (n0 r sb : Nat) (k0 k1 k2 : Int) (D P T nm l : List UInt8) (W : World) : Prop :=
 W.cell? ⟨sb, 0, none⟩ = some (.int .i64 k0) ∧ W.cell? ⟨sb, 1, none⟩ = some (.int .i64 k1) ∧ W.cell? ⟨sb, 2, none⟩ = some (.string ⟨D.toArray⟩) ∧ W.cell? ⟨sb, 3, none⟩ = some (.int .i64 k2) ∧
 W.cell? ⟨sb, 4, none⟩ = some (.string ⟨P.toArray⟩) ∧ W.cell? ⟨r, 0, none⟩ = some (.string ⟨T.toArray⟩) ∧ W.cell? ⟨n0, 0, none⟩ = some (.string ⟨nm.toArray⟩) ∧ W.cell? ⟨n0, 1, none⟩ = some (.string ⟨l.toArray⟩)
theorem Hold8.keep {n0 r sb : Nat} {k0 k1 k2 : Int} {D P T nm l : List UInt8} {W W' : World} (h : Hold8 n0 r sb k0 k1 k2 D P T nm l W) (hb : Below W.heap.size W W') : Hold8 n0 r sb k0 k1 k2 D P T nm l W' := by
 obtain ⟨h0, h1, h2, h3, h4, h5, h6, h7⟩ := h
 exact ⟨(hb.cell (Lib.lt_of_cell h0)).trans h0, (hb.cell (Lib.lt_of_cell h1)).trans h1, (hb.cell (Lib.lt_of_cell h2)).trans h2, (hb.cell (Lib.lt_of_cell h3)).trans h3,
  (hb.cell (Lib.lt_of_cell h4)).trans h4, (hb.cell (Lib.lt_of_cell h5)).trans h5, (hb.cell (Lib.lt_of_cell h6)).trans h6, (hb.cell (Lib.lt_of_cell h7)).trans h7⟩
def Mid (n0 r : Nat) (nm l : List UInt8) (w W : World) : Prop :=
 Blk W n0 45 #[.string ⟨nm.toArray⟩, .string ⟨l.toArray⟩] ∧ Blk W (n0 + 1) 84 zeroC ∧ Blk W r 9 #[.string ⟨(l.drop 43).toArray⟩] ∧ Below n0 w W
theorem mid_mk {w w5 : World} {n0 r : Nat} {nm l : List UInt8} (cs : Array Value) (hnr : n0 + 1 < r) (hbx : Blk w5 n0 45 #[.string ⟨nm.toArray⟩, .string ⟨l.toArray⟩]) (hrs : Blk w5 (n0 + 1) 84 zeroC)
 (hre : Blk w5 r 9 #[.string ⟨(l.drop (4 + 7)).toArray⟩]) (hb : Below n0 w w5) :
 Mid n0 r nm l w ((w5.setCell ⟨r, 0, none⟩ (.string ⟨(l.drop 43).toArray⟩)).alloc (.cells cs 84)).drew ∧ ((w5.setCell ⟨r, 0, none⟩ (.string ⟨(l.drop 43).toArray⟩)).alloc (.cells cs 84)).drew.heap.size = w5.heap.size + 1 ∧
  Blk ((w5.setCell ⟨r, 0, none⟩ (.string ⟨(l.drop 43).toArray⟩)).alloc (.cells cs 84)).drew w5.heap.size 84 cs := by
 have hsz : (w5.setCell ⟨r, 0, none⟩ (.string ⟨(l.drop 43).toArray⟩)).heap.size = w5.heap.size := by simp
 have hlt := hre.lt
 refine ⟨⟨((hbx.far (p := ⟨r, 0, none⟩) (by show n0 ≠ r; omega) _).alloc _).drew, ((hrs.far (p := ⟨r, 0, none⟩) (by show n0 + 1 ≠ r; omega) _).alloc _).drew, ((hre.set_ 0 (.string ⟨(l.drop 43).toArray⟩)).alloc _).drew, ?_⟩, ?_, ?_⟩
 ·exact ((hb.setCell (p := ⟨r, 0, none⟩) (by show n0 ≤ r; omega) _).alloc (by rw [hsz]; omega) _).drew
 ·show (World.alloc _ _).heap.size = _
  simp
 ·have h := Blk.new (w5.setCell ⟨r, 0, none⟩ (.string ⟨(l.drop 43).toArray⟩)) 84 cs
  rw [hsz] at h
  exact h.drew
theorem byte_wrap (b : UInt8) : IntKind.i64.wrap (b.toNat : Int) = (b.toNat : Int) := IntWalk.i64_in _ (by have := b.toNat_lt; omega)
theorem read_start (w : World) (nm l : List UInt8) :
 Blk (((w.alloc (.cells #[.string ⟨nm.toArray⟩, .string ⟨l.toArray⟩] 45)).alloc (.cells #[.int .i64 0, .int .i64 0, .string ⟨#[]⟩, .int .i64 0, .string ⟨#[]⟩] 84)).alloc (.cells #[.string ⟨l.toArray⟩] 9)) w.heap.size 45 #[.string ⟨nm.toArray⟩, .string ⟨l.toArray⟩] ∧ Blk (((w.alloc (.cells #[.string ⟨nm.toArray⟩, .string ⟨l.toArray⟩] 45)).alloc (.cells #[.int .i64 0, .int .i64 0, .string ⟨#[]⟩, .int .i64 0, .string ⟨#[]⟩] 84)).alloc (.cells #[.string ⟨l.toArray⟩] 9)) (w.heap.size + 1) 84 zeroC ∧
  Blk (((w.alloc (.cells #[.string ⟨nm.toArray⟩, .string ⟨l.toArray⟩] 45)).alloc (.cells #[.int .i64 0, .int .i64 0, .string ⟨#[]⟩, .int .i64 0, .string ⟨#[]⟩] 84)).alloc (.cells #[.string ⟨l.toArray⟩] 9)) (w.heap.size + 1 + 1) 9 #[.string ⟨l.toArray⟩] ∧ Below w.heap.size w (((w.alloc (.cells #[.string ⟨nm.toArray⟩, .string ⟨l.toArray⟩] 45)).alloc (.cells #[.int .i64 0, .int .i64 0, .string ⟨#[]⟩, .int .i64 0, .string ⟨#[]⟩] 84)).alloc (.cells #[.string ⟨l.toArray⟩] 9)) := by
 refine ⟨((Blk.new w _ _).alloc _).alloc _, ?_, ?_, (((Below.refl _ _).alloc (Nat.le_refl _) _).alloc (by simp) _).alloc (by simp; omega) _⟩
 ·have h := Blk.new (w.alloc (.cells #[.string ⟨nm.toArray⟩, .string ⟨l.toArray⟩] 45)) 84 zeroC
  have h2 : (w.alloc (.cells #[.string ⟨nm.toArray⟩, .string ⟨l.toArray⟩] 45)).heap.size = w.heap.size + 1 := by simp
  rw [h2] at h
  exact h.alloc _
 ·have h := Blk.new ((w.alloc (.cells #[.string ⟨nm.toArray⟩, .string ⟨l.toArray⟩] 45)).alloc (.cells zeroC 84)) 9 #[.string ⟨l.toArray⟩]
  have h2 : ((w.alloc (.cells #[.string ⟨nm.toArray⟩, .string ⟨l.toArray⟩] 45)).alloc (.cells zeroC 84)).heap.size = w.heap.size + 1 + 1 := by simp
  rw [h2] at h
  exact h
theorem readL_any (nm l : List UInt8) (w : World) (hv : Vars w) :
 Calls Tryz.prog 65 #[.agg #[.string ⟨nm.toArray⟩, .string ⟨l.toArray⟩]] w fun e w' => ReadEnd nm l e ∧ Below w.heap.size w w' := by
 have HV := Lib.hid hv
 clear hv
 by_cases h75 : l.length < 75
 ·have hd : (l.length : Int) < 75 := by omega
  go_enter Tryz.func65, Tryz.ntmps65
  go_wp2_with fail
  obtain ⟨_, hrs, _, hb3⟩ := read_start w nm l
  generalize (((w.alloc (.cells #[.string ⟨nm.toArray⟩, .string ⟨l.toArray⟩] 45)).alloc (.cells #[.int .i64 0, .int .i64 0, .string ⟨#[]⟩, .int .i64 0, .string ⟨#[]⟩] 84)).alloc (.cells #[.string ⟨l.toArray⟩] 9)) = W3 at *
  have q0 : W3.cell? ⟨w.heap.size + 1, 0, none⟩ = some (.int .i64 0) := hrs.cell 0
  have q1 : W3.cell? ⟨w.heap.size + 1, 1, none⟩ = some (.int .i64 0) := hrs.cell 1
  have q2 : W3.cell? ⟨w.heap.size + 1, 2, none⟩ = some (.string ⟨#[]⟩) := hrs.cell 2
  have q3 : W3.cell? ⟨w.heap.size + 1, 3, none⟩ = some (.int .i64 0) := hrs.cell 3
  have q4 : W3.cell? ⟨w.heap.size + 1, 4, none⟩ = some (.string ⟨#[]⟩) := hrs.cell 4
  refine bodyPost_ret (v := .tuple #[.agg #[.int .i64 0, .int .i64 0, .string ⟨#[]⟩, .int .i64 0, .string ⟨#[]⟩], .int .i64 4]) (by simp [results, Tryz.results65, go_sem, q0, q1, q2, q3, q4]) rfl ⟨.inr ⟨(fun h => by have := h.1; omega), rfl⟩, hb3⟩
 by_cases hmx : 65536 < l.length
 ·have hd : (65536 : Int) < (l.length : Int) := by omega
  go_enter Tryz.func65, Tryz.ntmps65
  go_wp2_with fail
  obtain ⟨_, hrs, _, hb3⟩ := read_start w nm l
  generalize (((w.alloc (.cells #[.string ⟨nm.toArray⟩, .string ⟨l.toArray⟩] 45)).alloc (.cells #[.int .i64 0, .int .i64 0, .string ⟨#[]⟩, .int .i64 0, .string ⟨#[]⟩] 84)).alloc (.cells #[.string ⟨l.toArray⟩] 9)) = W3 at *
  have q0 : W3.cell? ⟨w.heap.size + 1, 0, none⟩ = some (.int .i64 0) := hrs.cell 0
  have q1 : W3.cell? ⟨w.heap.size + 1, 1, none⟩ = some (.int .i64 0) := hrs.cell 1
  have q2 : W3.cell? ⟨w.heap.size + 1, 2, none⟩ = some (.string ⟨#[]⟩) := hrs.cell 2
  have q3 : W3.cell? ⟨w.heap.size + 1, 3, none⟩ = some (.int .i64 0) := hrs.cell 3
  have q4 : W3.cell? ⟨w.heap.size + 1, 4, none⟩ = some (.string ⟨#[]⟩) := hrs.cell 4
  refine bodyPost_ret (v := .tuple #[.agg #[.int .i64 0, .int .i64 0, .string ⟨#[]⟩, .int .i64 0, .string ⟨#[]⟩], .int .i64 4]) (by simp [results, Tryz.results65, go_sem, q0, q1, q2, q3, q4]) rfl ⟨.inr ⟨(fun h => by have := h.2.1; omega), rfl⟩, hb3⟩
 have d75 : ¬ ((l.length : Int) < 75) := by omega
 have dmx : ¬ ((65536 : Int) < (l.length : Int)) := by omega
 go_enter Tryz.func65, Tryz.ntmps65
 go_wp2_with fail
 obtain ⟨hbx, hrs, hre, hb3⟩ := read_start w nm l
 generalize (((w.alloc (.cells #[.string ⟨nm.toArray⟩, .string ⟨l.toArray⟩] 45)).alloc (.cells #[.int .i64 0, .int .i64 0, .string ⟨#[]⟩, .int .i64 0, .string ⟨#[]⟩] 84)).alloc (.cells #[.string ⟨l.toArray⟩] 9)) = W3 at *
 obtain ⟨n0, hn0⟩ : ∃ n, n = w.heap.size := ⟨_, rfl⟩
 rw [← hn0] at hbx hrs hre hb3 ⊢
 have HN0 := Lib.hid hn0
 clear hn0
 obtain ⟨r, hr⟩ : ∃ r, r = n0 + 1 + 1 := ⟨_, rfl⟩
 rw [← hr] at hre ⊢
 have hnr : n0 + 1 < r := by omega
 clear hr
 refine (takeL_any 4 r l (by omega) W3 hre).mono ?_
 rintro e w' ⟨rfl, rfl⟩
 have hbx4 := hbx.far (p := ⟨r, 0, none⟩) (by show n0 ≠ r; omega) (.string ⟨(l.drop 4).toArray⟩)
 have hrs4 := hrs.far (p := ⟨r, 0, none⟩) (by show n0 + 1 ≠ r; omega) (.string ⟨(l.drop 4).toArray⟩)
 have hre4 : Blk (W3.setCell ⟨r, 0, none⟩ (.string ⟨(l.drop 4).toArray⟩)) r 9 #[.string ⟨(l.drop 4).toArray⟩] := hre.set_ 0 _
 have hb4 : Below n0 w (W3.setCell ⟨r, 0, none⟩ (.string ⟨(l.drop 4).toArray⟩)) := hb3.setCell (p := ⟨r, 0, none⟩) (by show n0 ≤ r; omega) _
 clear hbx hrs hre hb3
 generalize W3.setCell ⟨r, 0, none⟩ (.string ⟨(l.drop 4).toArray⟩) = w4 at *
 by_cases hmark : l.take 4 = markL
 ·rw [hmark]
  have HMK := Lib.hid hmark
  clear hmark
  unfold markL
  go_wp2_with fail
  have hl7 : 7 ≤ (l.drop 4).length := by rw [List.length_drop]; omega
  refine (takeL_any 7 r (l.drop 4) hl7 w4 hre4).mono ?_
  rintro e w' ⟨rfl, rfl⟩
  rw [List.drop_drop]
  have hbx5 := hbx4.far (p := ⟨r, 0, none⟩) (by show n0 ≠ r; omega) (.string ⟨(l.drop (4 + 7)).toArray⟩)
  have hrs5 := hrs4.far (p := ⟨r, 0, none⟩) (by show n0 + 1 ≠ r; omega) (.string ⟨(l.drop (4 + 7)).toArray⟩)
  have hre5 : Blk (w4.setCell ⟨r, 0, none⟩ (.string ⟨(l.drop (4 + 7)).toArray⟩)) r 9 #[.string ⟨(l.drop (4 + 7)).toArray⟩] := hre4.set_ 0 _
  have hb5 : Below n0 w (w4.setCell ⟨r, 0, none⟩ (.string ⟨(l.drop (4 + 7)).toArray⟩)) := hb4.setCell (p := ⟨r, 0, none⟩) (by show n0 ≤ r; omega) _
  generalize w4.setCell ⟨r, 0, none⟩ (.string ⟨(l.drop (4 + 7)).toArray⟩) = w5 at *
  clear hbx4 hrs4 hre4 hb4 hl7
  obtain ⟨a0, a1, a2, a3, a4, a5, a6, hh⟩ : ∃ a0 a1 a2 a3 a4 a5 a6, (l.drop 4).take 7 = [a0, a1, a2, a3, a4, a5, a6] := by
   have hx : ((l.drop 4).take 7).length = 7 := by rw [List.length_take, List.length_drop]; omega
   match (l.drop 4).take 7, hx with
   | [a0, a1, a2, a3, a4, a5, a6], _ => exact ⟨_, _, _, _, _, _, _, rfl⟩
  rw [hh]
  have HHD := Lib.hid hh
  clear hh
  obtain ⟨hs, hhs⟩ : ∃ b : ByteArray, b = ⟨[a0, a1, a2, a3, a4, a5, a6].toArray⟩ := ⟨_, rfl⟩
  rw [← hhs]
  have hsz : hs.size = 7 := by rw [hhs]; rfl
  have hx0 : ∀ h, hs[0]'h = a0 := by subst hhs; intro _; rfl
  have hx1 : ∀ h, hs[1]'h = a1 := by subst hhs; intro _; rfl
  have hx2 : ∀ h, hs[2]'h = a2 := by subst hhs; intro _; rfl
  have HX0 := Lib.hid hx0
  have HX1 := Lib.hid hx1
  have HX2 := Lib.hid hx2
  have HHS := Lib.hid hhs
  clear hhs hx0 hx1 hx2
  go_wp2_with fail
  have hlx : 32 ≤ (l.drop (4 + 7)).length := by rw [List.length_drop]; omega
  have HT := Lib.hid (takeL_any 32 r (l.drop (4 + 7)) hlx)
  have hrlt := hre5.lt
  have hrne : ¬ (r = w5.heap.size) := by omega
  have hrne' : ¬ (w5.heap.size = r) := by omega
  have HRE5 := Lib.hid hre5
  clear hlx hre5
  go_cut [7] (fun s7 wx => s7 = .pointer (some ⟨w5.heap.size, 0, none⟩) ∧ Mid n0 r nm l w wx ∧ wx.heap.size = w5.heap.size + 1 ∧ Blk wx w5.heap.size 84 #[.int .i64 (a0.toNat : Int), .int .i64 (a1.toNat : Int), .string ⟨((l.drop (4 + 7)).take 32).toArray⟩, .int .i64 (a2.toNat : Int), .string ⟨#[]⟩])
  case first =>
   refine wp_region_any (by kernel_rfl) ?_
   try (change wpAny _ _ _ _ _ _ _ (World.drew _))
   refine wpAny_take (i := 0) (v := ?_) rfl (by kernel_rfl) (by kernel_rfl) (by kernel_rfl) (fun _ _ _ h => h) (Or.inl ⟨by rfl, ?_⟩) ?_
   rotate_left
   ·intro w; go_simp; try with_reducible rfl
   refine wpAny_take (i := 1) (v := ?_) rfl (by kernel_rfl) (by kernel_rfl) (by kernel_rfl) (fun _ _ _ h => h) (Or.inl ⟨by rfl, ?_⟩) ?_
   rotate_left
   ·intro w; go_simp; try with_reducible rfl
   refine wpAny_take (i := 2) (v := ?_) rfl (by kernel_rfl) (by kernel_rfl) (by kernel_rfl) (fun _ _ _ h => h) (Or.inl ⟨by rfl, ?_⟩) ?_
   rotate_left
   ·intro w; go_simp; try with_reducible rfl
   refine wpAny_take (i := 3) (v := ?_) rfl (by kernel_rfl) (by kernel_rfl) (by kernel_rfl) (fun _ _ _ h => h) (Or.inl ⟨by rfl, ?_⟩) ?_
   rotate_left
   ·intro w; go_simp; try with_reducible rfl
   refine wpAny_take (i := 4) (v := ?_) rfl (by kernel_rfl) (by kernel_rfl) (by kernel_rfl) (fun _ _ _ h => h) (Or.inl ⟨by rfl, ?_⟩) ?_
   rotate_left
   ·intro w; go_simp; try with_reducible rfl
   refine wpAny_take (i := 5) (v := ?_) rfl (by kernel_rfl) (by kernel_rfl) (by kernel_rfl) (fun _ _ _ h => h) (Or.inl ⟨by rfl, ?_⟩) ?_
   rotate_left
   ·intro w; go_simp; try with_reducible rfl
   refine wpAny_take (i := 6) (v := ?_) rfl (by kernel_rfl) (by kernel_rfl) (by kernel_rfl) (fun _ _ _ h => h) (Or.inl ⟨by rfl, ?_⟩) ?_
   rotate_left
   ·intro w; go_simp; try with_reducible rfl
   refine wpAny_take (i := 7) (v := ?_) rfl (by kernel_rfl) (by kernel_rfl) (by kernel_rfl) (fun _ _ _ h => h) (Or.inl ⟨by rfl, ?_⟩) ?_
   rotate_left
   ·intro w; go_simp; try with_reducible rfl
   refine wpAny_take (i := 8) (v := ?_) rfl (by kernel_rfl) (by kernel_rfl) (by kernel_rfl) (fun _ _ _ h => h) (Or.inl ⟨by rfl, ?_⟩) ?_
   rotate_left
   ·intro w; go_simp; try with_reducible rfl
   refine wpAny_take (i := 9) (v := ?_) rfl (by kernel_rfl) (by kernel_rfl) (by kernel_rfl) (fun _ _ _ h => h) (Or.inl ⟨by rfl, ?_⟩) ?_
   rotate_left
   ·intro w; go_simp; try with_reducible rfl
   refine wpAny_take (i := 10) (v := ?_) rfl (by kernel_rfl) (by kernel_rfl) (by kernel_rfl) (fun _ _ _ h => h) (Or.inl ⟨by rfl, ?_⟩) ?_
   rotate_left
   ·intro w; go_simp; try with_reducible rfl
   refine wpAny_ready (rs := [11, 13]) (by kernel_rfl) (by simp) ?_
   refine AllReady.cons rfl (fun K hK => ?_) (AllReady.cons rfl (fun K hK => ?_) AllReady.nil)
   ·go_simp
    go_wp2_with (go_at_call 98; refine (HT.out _ HRE5.out.drew).mono ?_; rintro e w' ⟨rfl, rfl⟩)
    refine wpAny_take (i := 12) (v := ?_) rfl (by kernel_rfl) (by kernel_rfl) (by kernel_rfl) (fun _ _ _ h => h) (Or.inl ⟨by rfl, ?_⟩) ?_
    rotate_left
    ·intro w; go_simp; try with_reducible rfl
    refine wpAny_ready (rs := [13]) (by kernel_rfl) (by simp) ?_
    refine AllReady.cons rfl (fun K hK => ?_) AllReady.nil
    go_simp
    refine hK _ _ ?_
    clear hK K
    refine wpAny_ready (rs := [14]) (by kernel_rfl) (by simp) ?_
    refine AllReady.cons rfl (fun K hK => ?_) AllReady.nil
    go_simp
    refine hK _ _ ?_
    clear hK K
    refine wpAny_done (by kernel_rfl) ?_ _
    go_wp2_with fail
    go_meet
    rw [byte_wrap, byte_wrap, byte_wrap, HX0.out, HX1.out, HX2.out]
    exact ⟨rfl, mid_mk _ hnr hbx5 hrs5 HRE5.out hb5⟩
   ·go_simp
    refine hK _ _ ?_
    clear hK K
    refine wpAny_ready (rs := [11]) (by kernel_rfl) (by simp) ?_
    refine AllReady.cons rfl (fun K hK => ?_) AllReady.nil
    go_simp
    go_wp2_with (go_at_call 98; refine (HT.out _ (HRE5.out.drew.alloc _)).mono ?_; rintro e w' ⟨rfl, rfl⟩)
    refine wpAny_take (i := 12) (v := ?_) rfl (by kernel_rfl) (by kernel_rfl) (by kernel_rfl) (fun _ _ _ h => h) (Or.inl ⟨by rfl, ?_⟩) ?_
    rotate_left
    ·intro w; go_simp; try with_reducible rfl
    refine wpAny_ready (rs := [14]) (by kernel_rfl) (by simp) ?_
    refine AllReady.cons rfl (fun K hK => ?_) AllReady.nil
    go_simp
    refine hK _ _ ?_
    clear hK K
    refine wpAny_done (by kernel_rfl) ?_ _
    go_wp2_with fail
    go_meet
    rw [byte_wrap, byte_wrap, byte_wrap, HX0.out, HX1.out, HX2.out]
    exact ⟨rfl, mid_mk _ hnr hbx5 hrs5 HRE5.out hb5⟩
  case rest =>
   obtain ⟨rfl, hmid, hsz6, hsb⟩ := hcut
   obtain ⟨hbx6, hrs6, hre6, hb6⟩ := hmid
   clear hbx5 hrs5 hb5 HRE5 HT HX0 HX1 HX2 hsz
   obtain ⟨sb, hsbe⟩ : ∃ sb, sb = w5.heap.size := ⟨_, rfl⟩
   rw [← hsbe] at hsb hrlt ⊢
   clear hrne hrne' hsz6 hsbe
   obtain ⟨m, hm⟩ : ∃ m, l.length = m + 75 := ⟨l.length - 75, by omega⟩
   have hrl : (l.drop 43).length = m + 32 := by rw [List.length_drop]; omega
   have c0 : wc.cell? ⟨r, 0, none⟩ = some (.string ⟨(l.drop 43).toArray⟩) := hre6.cell 0
   have HT := Lib.hid (takeL_any m r (l.drop 43) (by omega) wc hre6)
   obtain ⟨R, hR⟩ : ∃ R, R = l.drop 43 := ⟨_, rfl⟩
   rw [← hR] at hrl c0 HT hre6
   have HR := Lib.hid hR
   have HM := Lib.hid hm
   have HBX6 := Lib.hid hbx6
   have HRS6 := Lib.hid hrs6
   have HRE6 := Lib.hid hre6
   have HSB6 := Lib.hid hsb
   have hml : m ≤ 65461 := by omega
   clear hm hR hbx6 hrs6 hre6 hsb d75 dmx h75 hmx
   go_wp2_with fail
   refine HT.out.mono ?_
   rintro e w' ⟨rfl, rfl⟩
   have hbx7 := (HBX6.out.far (p := ⟨r, 0, none⟩) (by show n0 ≠ r; omega) (.string ⟨(R.drop m).toArray⟩)).far (p := ⟨sb, 4, none⟩) (by show n0 ≠ sb; omega) (.string ⟨(R.take m).toArray⟩)
   have hrs7 := (HRS6.out.far (p := ⟨r, 0, none⟩) (by show n0 + 1 ≠ r; omega) (.string ⟨(R.drop m).toArray⟩)).far (p := ⟨sb, 4, none⟩) (by show n0 + 1 ≠ sb; omega) (.string ⟨(R.take m).toArray⟩)
   have hre7 : Blk ((wc.setCell ⟨r, 0, none⟩ (.string ⟨(R.drop m).toArray⟩)).setCell ⟨sb, 4, none⟩ (.string ⟨(R.take m).toArray⟩)) r 9 #[.string ⟨(R.drop m).toArray⟩] := (HRE6.out.set_ 0 (.string ⟨(R.drop m).toArray⟩)).far (p := ⟨sb, 4, none⟩) (by show r ≠ sb; omega) (.string ⟨(R.take m).toArray⟩)
   have hsb7 : Blk ((wc.setCell ⟨r, 0, none⟩ (.string ⟨(R.drop m).toArray⟩)).setCell ⟨sb, 4, none⟩ (.string ⟨(R.take m).toArray⟩)) sb 84 #[.int .i64 (a0.toNat : Int), .int .i64 (a1.toNat : Int), .string ⟨((l.drop (4 + 7)).take 32).toArray⟩, .int .i64 (a2.toNat : Int), .string ⟨(R.take m).toArray⟩] := (HSB6.out.far (p := ⟨r, 0, none⟩) (by show sb ≠ r; omega) (.string ⟨(R.drop m).toArray⟩)).set_ 4 (.string ⟨(R.take m).toArray⟩)
   have hb7 : Below n0 w ((wc.setCell ⟨r, 0, none⟩ (.string ⟨(R.drop m).toArray⟩)).setCell ⟨sb, 4, none⟩ (.string ⟨(R.take m).toArray⟩)) := (hb6.setCell (p := ⟨r, 0, none⟩) (by show n0 ≤ r; omega) _).setCell (p := ⟨sb, 4, none⟩) (by show n0 ≤ sb; omega) _
   have hq4 : (wc.setCell ⟨r, 0, none⟩ (.string ⟨(R.drop m).toArray⟩)).cell? ⟨sb, 4, none⟩ = some (.string ⟨#[]⟩) := (HSB6.out.far (p := ⟨r, 0, none⟩) (by show sb ≠ r; omega) (.string ⟨(R.drop m).toArray⟩)).cell 4
   have hf4 := (HSB6.out.far (p := ⟨r, 0, none⟩) (by show sb ≠ r; omega) (.string ⟨(R.drop m).toArray⟩)).frozen 4
   have HBX7 := Lib.hid hbx7
   have HRS7 := Lib.hid hrs7
   have HRE7 := Lib.hid hre7
   have HSB7 := Lib.hid hsb7
   have HB7 := Lib.hid hb7
   clear hbx7 hrs7 hre7 hsb7 hb7 HBX6 HRS6 HRE6 HSB6 HT c0
   generalize wc.setCell ⟨r, 0, none⟩ (.string ⟨(R.drop m).toArray⟩) = w6 at *
   go_wp2_with fail
   clear hq4 hf4
   generalize w6.setCell ⟨sb, 4, none⟩ (.string ⟨(R.take m).toArray⟩) = w7 at *
   obtain ⟨k0, hk0⟩ : ∃ k, k = (a0.toNat : Int) := ⟨_, rfl⟩
   obtain ⟨k1, hk1⟩ : ∃ k, k = (a1.toNat : Int) := ⟨_, rfl⟩
   obtain ⟨k2, hk2⟩ : ∃ k, k = (a2.toNat : Int) := ⟨_, rfl⟩
   have hB0 : 0 ≤ k0 ∧ k0 < 256 := by have := a0.toNat_lt; omega
   have hB1 : 0 ≤ k1 ∧ k1 < 256 := by have := a1.toNat_lt; omega
   have hB2 : 0 ≤ k2 ∧ k2 < 256 := by have := a2.toNat_lt; omega
   rw [← hk0, ← hk1, ← hk2] at HSB7
   obtain ⟨D, hD⟩ : ∃ D, D = (l.drop (4 + 7)).take 32 := ⟨_, rfl⟩
   obtain ⟨P, hP⟩ : ∃ P, P = R.take m := ⟨_, rfl⟩
   obtain ⟨T, hT⟩ : ∃ T, T = R.drop m := ⟨_, rfl⟩
   rw [← hD, ← hP] at HSB7
   rw [← hT] at HRE7
   have hPl : P.length = m := by rw [hP, List.length_take]; omega
   -- what the bytes say
   have hRS : readS l = ⟨k0, k1, k2, D, P⟩ := by
    obtain ⟨g4, g5, g6⟩ := getD_of_head HHD.out
    unfold readS
    rw [g4, g5, g6, hk0, hk1, hk2, hD, hP, HR.out, HM.out]
    rfl
   have hTs : T = l.drop (l.length - 32) := by
    rw [hT, HR.out, HM.out, List.drop_drop]; congr 1; omega
   have HRS := Lib.hid hRS
   have HTS := Lib.hid hTs
   have HPL := Lib.hid hPl
   clear hk0 hk1 hk2 hD hP hT hRS hTs hPl
   have c0 : w7.cell? ⟨sb, 0, none⟩ = some (.int .i64 k0) := HSB7.out.cell 0
   have c1 : w7.cell? ⟨sb, 1, none⟩ = some (.int .i64 k1) := HSB7.out.cell 1
   have c2 : w7.cell? ⟨sb, 2, none⟩ = some (.string ⟨D.toArray⟩) := HSB7.out.cell 2
   have c3 : w7.cell? ⟨sb, 3, none⟩ = some (.int .i64 k2) := HSB7.out.cell 3
   have c4 : w7.cell? ⟨sb, 4, none⟩ = some (.string ⟨P.toArray⟩) := HSB7.out.cell 4
   have c5 : w7.cell? ⟨r, 0, none⟩ = some (.string ⟨T.toArray⟩) := HRE7.out.cell 0
   have c6 : w7.cell? ⟨n0, 0, none⟩ = some (.string ⟨nm.toArray⟩) := HBX7.out.cell 0
   have c7 : w7.cell? ⟨n0, 1, none⟩ = some (.string ⟨l.toArray⟩) := HBX7.out.cell 1
   have h8 : Hold8 n0 r sb k0 k1 k2 D P T nm l w7 := ⟨c0, c1, c2, c3, c4, c5, c6, c7⟩
   have H8 := Lib.hid h8
   clear h8 c0 c1 c2 c3 c4 c5 c6 c7
   go_cut [96] (fun s96 wx => Seen nm l n0 sb #[.int .i64 k0, .int .i64 k1, .string ⟨D.toArray⟩, .int .i64 k2, .string ⟨P.toArray⟩] w s96 wx)
   case first =>
    obtain ⟨c, hc⟩ : ∃ c, l.length = c + 32 := ⟨l.length - 32, by have := HM.out; omega⟩
    have hcl : (c : Int) ≤ (l.length : Int) := by omega
    have hcw : IntKind.i64.wrap ((l.length : Int) - 32) = (c : Int) := by rw [IntWalk.i64_in _ (by have := HM.out; omega)]; omega
    have LI := Lib.hid (looks_iff (nm := nm) (by have := HM.out; omega) (by have := HM.out; omega) HMK.out HHD.out HRS.out HTS.out hc)
    have hsum : ∀ W, Calls Tryz.prog 33 #[.string ((⟨l.toArray⟩ : ByteArray).extract 0 c)] W fun e w' => e = .returned (.string ⟨(sumL (l.take c)).toArray⟩) ∧ Below W.heap.size W w' := by
     intro W
     have h1 : (⟨l.toArray⟩ : ByteArray).extract 0 c = ⟨(l.take c).toArray⟩ := by
      apply ByteArray.ext; apply Array.toList_inj.1; simp
     rw [h1]
     exact Sha.sum_any ⟨(l.take c).toArray⟩ (show (l.take c).length ≤ 70368744177664 by rw [List.length_take]; have := HM.out; omega) W
    have HSUM := Lib.hid hsum
    have hDl : D.length ≤ 1000000 := by
     have hD : D = (readS l).dig := by rw [HRS.out]
     rw [hD]; show ((l.drop 11).take 32).length ≤ _; rw [List.length_take]; omega
    have hname : ∀ W, Vars W → Calls Tryz.prog 19 #[.string ⟨D.toArray⟩, .int .i64 k2] W fun e w' => e = .returned (.string ⟨(nameL D k2).toArray⟩) ∧ Below W.heap.size W w' := fun W hv => name_any ⟨D.toArray⟩ hDl k2 ⟨by omega, by omega⟩ W hv
    have HNAME := Lib.hid hname
    have hv7 : Vars w7.drew := HV.out.below (by have hh := HN0.out; rw [← hh]; exact HB7.out.drew)
    have HV7 := Lib.hid hv7
    have HC := Lib.hid hc
    have hlb : hs.toList = [a0, a1, a2, a3, a4, a5, a6] := by rw [str_toList, HHS.out]
    clear hsum hname hv7 hc hDl
    by_cases e1 : [a0, a1, a2, a3, a4, a5, a6] = binL k0 k1 k2 (P.length : Int)
    ·have hcmp : (hs.toList == binL k0 k1 k2 (P.length : Int)) = true := by rw [hlb]; simpa using e1
     have E1 := Lib.hid e1
     clear hlb e1
     cases e2 : codeB k0 k1 with
     | false =>
       have E2 := Lib.hid e2
       refine startT (S := Hold8 n0 r sb k0 k1 k2 D P T nm l) H8.out (fun hS => ?_)
       iterate 12
        refine takeT (v := ?_) ?_ ?_
        rotate_left
        ·(intro w hSw; obtain ⟨s0, s1, s2, s3, s4, s5, s6, s7⟩ := hSw; go_simp; try with_reducible rfl)
        simp only [Act.put, List.setIfInBounds_toArray, List.set_cons_zero, List.set_cons_succ, Nat.reduceAdd]
       refine oneT (fun K hK => ?_)
       go_simp
       go_wp2_with (go_at_call 76; refine (binary_any _ _ _ _ _).mono ?_; rintro e w8 ⟨rfl, hbin, hb⟩; have hcv := run_bin (g := w7.heap.size) hbin)
       refine hK.out _ _ (Hold8.keep (by assumption) hb) (fun hS => ?_)
       clear hK K
       refine oneT (fun K hK => ?_)
       go_simp
       refine hK.out _ _ (by assumption) (fun hS => ?_)
       clear hK K
       iterate 4
        refine takeT (v := ?_) ?_ ?_
        rotate_left
        ·(intro w hSw; obtain ⟨s0, s1, s2, s3, s4, s5, s6, s7⟩ := hSw; go_simp; try with_reducible rfl)
        simp only [Act.put, List.setIfInBounds_toArray, List.set_cons_zero, List.set_cons_succ, Nat.reduceAdd]
       refine oneT (fun K hK => ?_)
       go_simp
       go_wp2_with (go_at_call 73; refine (code_any _ _ _).mono ?_; rintro e w9 ⟨rfl, hb9⟩)
       refine hK.out _ _ (Hold8.keep (by assumption) hb9) (fun hS => ?_)
       clear hK K
       iterate 3
        refine takeT (v := ?_) ?_ ?_
        rotate_left
        ·(intro w hSw; obtain ⟨s0, s1, s2, s3, s4, s5, s6, s7⟩ := hSw; go_simp; try with_reducible rfl)
        simp only [Act.put, List.setIfInBounds_toArray, List.set_cons_zero, List.set_cons_succ, Nat.reduceAdd]
       iterate 6
        refine passT ?_
        simp only [Act.put, List.setIfInBounds_toArray, List.set_cons_zero, List.set_cons_succ, Nat.reduceAdd]
       iterate 2
        refine takeT (v := ?_) ?_ ?_
        rotate_left
        ·(intro w hSw; obtain ⟨s0, s1, s2, s3, s4, s5, s6, s7⟩ := hSw; go_simp; try with_reducible rfl)
        simp only [Act.put, List.setIfInBounds_toArray, List.set_cons_zero, List.set_cons_succ, Nat.reduceAdd]
       iterate 10
        refine passT ?_
        simp only [Act.put, List.setIfInBounds_toArray, List.set_cons_zero, List.set_cons_succ, Nat.reduceAdd]
       iterate 2
        refine takeT (v := ?_) ?_ ?_
        rotate_left
        ·(intro w hSw; obtain ⟨s0, s1, s2, s3, s4, s5, s6, s7⟩ := hSw; go_simp; try with_reducible rfl)
        simp only [Act.put, List.setIfInBounds_toArray, List.set_cons_zero, List.set_cons_succ, Nat.reduceAdd]
       iterate 8
        refine passT ?_
        simp only [Act.put, List.setIfInBounds_toArray, List.set_cons_zero, List.set_cons_succ, Nat.reduceAdd]
       iterate 1
        refine takeT (v := ?_) ?_ ?_
        rotate_left
        ·(intro w hSw; obtain ⟨s0, s1, s2, s3, s4, s5, s6, s7⟩ := hSw; go_simp; try with_reducible rfl)
        simp only [Act.put, List.setIfInBounds_toArray, List.set_cons_zero, List.set_cons_succ, Nat.reduceAdd]
       refine doneT ?_
       go_wp2_with fail
       go_meet
       exact seen_mk HSB7.out HRS7.out HB7.out (hb.trans (hb9.mono hb.size)) (LI.out.no fun h => by rw [E2.out] at h; cases h.2.1)
     | true =>
       have E2 := Lib.hid e2
       by_cases e3 : k2 < k1
       ·have e3' : decide (k1 ≤ k2) = false := by simpa using e3
        have E3 := Lib.hid e3
        clear e3
        by_cases e4 : T = sumL (l.take c)
        ·have hcmp4 : (T == sumL (l.take c)) = true := by simpa using e4
         have E4 := Lib.hid e4
         clear e4
         by_cases e5 : nm = nameL D k2
         ·have hcmp5 : (nm == nameL D k2) = true := by simpa using e5
          have E5 := Lib.hid e5
          clear e5
          refine startT (S := Hold8 n0 r sb k0 k1 k2 D P T nm l) H8.out (fun hS => ?_)
          iterate 12
           refine takeT (v := ?_) ?_ ?_
           rotate_left
           ·(intro w hSw; obtain ⟨s0, s1, s2, s3, s4, s5, s6, s7⟩ := hSw; go_simp; try with_reducible rfl)
           simp only [Act.put, List.setIfInBounds_toArray, List.set_cons_zero, List.set_cons_succ, Nat.reduceAdd]
          refine oneT (fun K hK => ?_)
          go_simp
          go_wp2_with (go_at_call 76; refine (binary_any _ _ _ _ _).mono ?_; rintro e w8 ⟨rfl, hbin, hb⟩; have hcv := run_bin (g := w7.heap.size) hbin)
          refine hK.out _ _ (Hold8.keep (by assumption) hb) (fun hS => ?_)
          clear hK K
          refine oneT (fun K hK => ?_)
          go_simp
          refine hK.out _ _ (by assumption) (fun hS => ?_)
          clear hK K
          iterate 4
           refine takeT (v := ?_) ?_ ?_
           rotate_left
           ·(intro w hSw; obtain ⟨s0, s1, s2, s3, s4, s5, s6, s7⟩ := hSw; go_simp; try with_reducible rfl)
           simp only [Act.put, List.setIfInBounds_toArray, List.set_cons_zero, List.set_cons_succ, Nat.reduceAdd]
          refine oneT (fun K hK => ?_)
          go_simp
          go_wp2_with (go_at_call 73; refine (code_any _ _ _).mono ?_; rintro e w9 ⟨rfl, hb9⟩)
          refine hK.out _ _ (Hold8.keep (by assumption) hb9) (fun hS => ?_)
          clear hK K
          iterate 19
           refine takeT (v := ?_) ?_ ?_
           rotate_left
           ·(intro w hSw; obtain ⟨s0, s1, s2, s3, s4, s5, s6, s7⟩ := hSw; go_simp; try with_reducible rfl)
           simp only [Act.put, List.setIfInBounds_toArray, List.set_cons_zero, List.set_cons_succ, Nat.reduceAdd]
          refine oneT (fun K hK => ?_)
          go_simp
          go_wp2_with (go_at_call 33; refine (HSUM.out _).mono ?_; rintro e w10 ⟨rfl, hb10⟩)
          refine hK.out _ _ (Hold8.keep (by assumption) hb10) (fun hS => ?_)
          clear hK K
          iterate 9
           refine takeT (v := ?_) ?_ ?_
           rotate_left
           ·(intro w hSw; obtain ⟨s0, s1, s2, s3, s4, s5, s6, s7⟩ := hSw; go_simp; try with_reducible rfl)
           simp only [Act.put, List.setIfInBounds_toArray, List.set_cons_zero, List.set_cons_succ, Nat.reduceAdd]
          refine oneT (fun K hK => ?_)
          go_simp
          go_wp2_with (go_at_call 19; refine (HNAME.out _ (((HV7.out.below hb).below hb9).below hb10)).mono ?_; rintro e w11 ⟨rfl, hb11⟩)
          refine hK.out _ _ (Hold8.keep (by assumption) hb11) (fun hS => ?_)
          clear hK K
          iterate 2
           refine takeT (v := ?_) ?_ ?_
           rotate_left
           ·(intro w hSw; obtain ⟨s0, s1, s2, s3, s4, s5, s6, s7⟩ := hSw; go_simp; try with_reducible rfl)
           simp only [Act.put, List.setIfInBounds_toArray, List.set_cons_zero, List.set_cons_succ, Nat.reduceAdd]
          refine doneT ?_
          go_wp2_with fail
          go_meet
          exact seen_mk HSB7.out HRS7.out HB7.out (((hb.trans (hb9.mono hb.size)).trans (hb10.mono (Nat.le_trans hb.size hb9.size))).trans (hb11.mono (Nat.le_trans (Nat.le_trans hb.size hb9.size) hb10.size))) (LI.out.yes ⟨E1.out, E2.out, E3.out, E4.out, E5.out⟩)
         ·have hcmp5 : (nm == nameL D k2) = false := by simpa using e5
          have E5 := Lib.hid e5
          clear e5
          refine startT (S := Hold8 n0 r sb k0 k1 k2 D P T nm l) H8.out (fun hS => ?_)
          iterate 12
           refine takeT (v := ?_) ?_ ?_
           rotate_left
           ·(intro w hSw; obtain ⟨s0, s1, s2, s3, s4, s5, s6, s7⟩ := hSw; go_simp; try with_reducible rfl)
           simp only [Act.put, List.setIfInBounds_toArray, List.set_cons_zero, List.set_cons_succ, Nat.reduceAdd]
          refine oneT (fun K hK => ?_)
          go_simp
          go_wp2_with (go_at_call 76; refine (binary_any _ _ _ _ _).mono ?_; rintro e w8 ⟨rfl, hbin, hb⟩; have hcv := run_bin (g := w7.heap.size) hbin)
          refine hK.out _ _ (Hold8.keep (by assumption) hb) (fun hS => ?_)
          clear hK K
          refine oneT (fun K hK => ?_)
          go_simp
          refine hK.out _ _ (by assumption) (fun hS => ?_)
          clear hK K
          iterate 4
           refine takeT (v := ?_) ?_ ?_
           rotate_left
           ·(intro w hSw; obtain ⟨s0, s1, s2, s3, s4, s5, s6, s7⟩ := hSw; go_simp; try with_reducible rfl)
           simp only [Act.put, List.setIfInBounds_toArray, List.set_cons_zero, List.set_cons_succ, Nat.reduceAdd]
          refine oneT (fun K hK => ?_)
          go_simp
          go_wp2_with (go_at_call 73; refine (code_any _ _ _).mono ?_; rintro e w9 ⟨rfl, hb9⟩)
          refine hK.out _ _ (Hold8.keep (by assumption) hb9) (fun hS => ?_)
          clear hK K
          iterate 19
           refine takeT (v := ?_) ?_ ?_
           rotate_left
           ·(intro w hSw; obtain ⟨s0, s1, s2, s3, s4, s5, s6, s7⟩ := hSw; go_simp; try with_reducible rfl)
           simp only [Act.put, List.setIfInBounds_toArray, List.set_cons_zero, List.set_cons_succ, Nat.reduceAdd]
          refine oneT (fun K hK => ?_)
          go_simp
          go_wp2_with (go_at_call 33; refine (HSUM.out _).mono ?_; rintro e w10 ⟨rfl, hb10⟩)
          refine hK.out _ _ (Hold8.keep (by assumption) hb10) (fun hS => ?_)
          clear hK K
          iterate 9
           refine takeT (v := ?_) ?_ ?_
           rotate_left
           ·(intro w hSw; obtain ⟨s0, s1, s2, s3, s4, s5, s6, s7⟩ := hSw; go_simp; try with_reducible rfl)
           simp only [Act.put, List.setIfInBounds_toArray, List.set_cons_zero, List.set_cons_succ, Nat.reduceAdd]
          refine oneT (fun K hK => ?_)
          go_simp
          go_wp2_with (go_at_call 19; refine (HNAME.out _ (((HV7.out.below hb).below hb9).below hb10)).mono ?_; rintro e w11 ⟨rfl, hb11⟩)
          refine hK.out _ _ (Hold8.keep (by assumption) hb11) (fun hS => ?_)
          clear hK K
          iterate 2
           refine takeT (v := ?_) ?_ ?_
           rotate_left
           ·(intro w hSw; obtain ⟨s0, s1, s2, s3, s4, s5, s6, s7⟩ := hSw; go_simp; try with_reducible rfl)
           simp only [Act.put, List.setIfInBounds_toArray, List.set_cons_zero, List.set_cons_succ, Nat.reduceAdd]
          refine doneT ?_
          go_wp2_with fail
          go_meet
          exact seen_mk HSB7.out HRS7.out HB7.out (((hb.trans (hb9.mono hb.size)).trans (hb10.mono (Nat.le_trans hb.size hb9.size))).trans (hb11.mono (Nat.le_trans (Nat.le_trans hb.size hb9.size) hb10.size))) (LI.out.no fun h => E5.out h.2.2.2.2)
        ·have hcmp4 : (T == sumL (l.take c)) = false := by simpa using e4
         have E4 := Lib.hid e4
         clear e4
         refine startT (S := Hold8 n0 r sb k0 k1 k2 D P T nm l) H8.out (fun hS => ?_)
         iterate 12
          refine takeT (v := ?_) ?_ ?_
          rotate_left
          ·(intro w hSw; obtain ⟨s0, s1, s2, s3, s4, s5, s6, s7⟩ := hSw; go_simp; try with_reducible rfl)
          simp only [Act.put, List.setIfInBounds_toArray, List.set_cons_zero, List.set_cons_succ, Nat.reduceAdd]
         refine oneT (fun K hK => ?_)
         go_simp
         go_wp2_with (go_at_call 76; refine (binary_any _ _ _ _ _).mono ?_; rintro e w8 ⟨rfl, hbin, hb⟩; have hcv := run_bin (g := w7.heap.size) hbin)
         refine hK.out _ _ (Hold8.keep (by assumption) hb) (fun hS => ?_)
         clear hK K
         refine oneT (fun K hK => ?_)
         go_simp
         refine hK.out _ _ (by assumption) (fun hS => ?_)
         clear hK K
         iterate 4
          refine takeT (v := ?_) ?_ ?_
          rotate_left
          ·(intro w hSw; obtain ⟨s0, s1, s2, s3, s4, s5, s6, s7⟩ := hSw; go_simp; try with_reducible rfl)
          simp only [Act.put, List.setIfInBounds_toArray, List.set_cons_zero, List.set_cons_succ, Nat.reduceAdd]
         refine oneT (fun K hK => ?_)
         go_simp
         go_wp2_with (go_at_call 73; refine (code_any _ _ _).mono ?_; rintro e w9 ⟨rfl, hb9⟩)
         refine hK.out _ _ (Hold8.keep (by assumption) hb9) (fun hS => ?_)
         clear hK K
         iterate 19
          refine takeT (v := ?_) ?_ ?_
          rotate_left
          ·(intro w hSw; obtain ⟨s0, s1, s2, s3, s4, s5, s6, s7⟩ := hSw; go_simp; try with_reducible rfl)
          simp only [Act.put, List.setIfInBounds_toArray, List.set_cons_zero, List.set_cons_succ, Nat.reduceAdd]
         refine oneT (fun K hK => ?_)
         go_simp
         go_wp2_with (go_at_call 33; refine (HSUM.out _).mono ?_; rintro e w10 ⟨rfl, hb10⟩)
         refine hK.out _ _ (Hold8.keep (by assumption) hb10) (fun hS => ?_)
         clear hK K
         iterate 3
          refine takeT (v := ?_) ?_ ?_
          rotate_left
          ·(intro w hSw; obtain ⟨s0, s1, s2, s3, s4, s5, s6, s7⟩ := hSw; go_simp; try with_reducible rfl)
          simp only [Act.put, List.setIfInBounds_toArray, List.set_cons_zero, List.set_cons_succ, Nat.reduceAdd]
         iterate 8
          refine passT ?_
          simp only [Act.put, List.setIfInBounds_toArray, List.set_cons_zero, List.set_cons_succ, Nat.reduceAdd]
         iterate 1
          refine takeT (v := ?_) ?_ ?_
          rotate_left
          ·(intro w hSw; obtain ⟨s0, s1, s2, s3, s4, s5, s6, s7⟩ := hSw; go_simp; try with_reducible rfl)
          simp only [Act.put, List.setIfInBounds_toArray, List.set_cons_zero, List.set_cons_succ, Nat.reduceAdd]
         refine doneT ?_
         go_wp2_with fail
         go_meet
         exact seen_mk HSB7.out HRS7.out HB7.out ((hb.trans (hb9.mono hb.size)).trans (hb10.mono (Nat.le_trans hb.size hb9.size))) (LI.out.no fun h => E4.out h.2.2.2.1)
       ·have e3' : decide (k1 ≤ k2) = true := by simpa using e3
        have E3 := Lib.hid e3
        clear e3
        refine startT (S := Hold8 n0 r sb k0 k1 k2 D P T nm l) H8.out (fun hS => ?_)
        iterate 12
         refine takeT (v := ?_) ?_ ?_
         rotate_left
         ·(intro w hSw; obtain ⟨s0, s1, s2, s3, s4, s5, s6, s7⟩ := hSw; go_simp; try with_reducible rfl)
         simp only [Act.put, List.setIfInBounds_toArray, List.set_cons_zero, List.set_cons_succ, Nat.reduceAdd]
        refine oneT (fun K hK => ?_)
        go_simp
        go_wp2_with (go_at_call 76; refine (binary_any _ _ _ _ _).mono ?_; rintro e w8 ⟨rfl, hbin, hb⟩; have hcv := run_bin (g := w7.heap.size) hbin)
        refine hK.out _ _ (Hold8.keep (by assumption) hb) (fun hS => ?_)
        clear hK K
        refine oneT (fun K hK => ?_)
        go_simp
        refine hK.out _ _ (by assumption) (fun hS => ?_)
        clear hK K
        iterate 4
         refine takeT (v := ?_) ?_ ?_
         rotate_left
         ·(intro w hSw; obtain ⟨s0, s1, s2, s3, s4, s5, s6, s7⟩ := hSw; go_simp; try with_reducible rfl)
         simp only [Act.put, List.setIfInBounds_toArray, List.set_cons_zero, List.set_cons_succ, Nat.reduceAdd]
        refine oneT (fun K hK => ?_)
        go_simp
        go_wp2_with (go_at_call 73; refine (code_any _ _ _).mono ?_; rintro e w9 ⟨rfl, hb9⟩)
        refine hK.out _ _ (Hold8.keep (by assumption) hb9) (fun hS => ?_)
        clear hK K
        iterate 11
         refine takeT (v := ?_) ?_ ?_
         rotate_left
         ·(intro w hSw; obtain ⟨s0, s1, s2, s3, s4, s5, s6, s7⟩ := hSw; go_simp; try with_reducible rfl)
         simp only [Act.put, List.setIfInBounds_toArray, List.set_cons_zero, List.set_cons_succ, Nat.reduceAdd]
        iterate 10
         refine passT ?_
         simp only [Act.put, List.setIfInBounds_toArray, List.set_cons_zero, List.set_cons_succ, Nat.reduceAdd]
        iterate 2
         refine takeT (v := ?_) ?_ ?_
         rotate_left
         ·(intro w hSw; obtain ⟨s0, s1, s2, s3, s4, s5, s6, s7⟩ := hSw; go_simp; try with_reducible rfl)
         simp only [Act.put, List.setIfInBounds_toArray, List.set_cons_zero, List.set_cons_succ, Nat.reduceAdd]
        iterate 8
         refine passT ?_
         simp only [Act.put, List.setIfInBounds_toArray, List.set_cons_zero, List.set_cons_succ, Nat.reduceAdd]
        iterate 1
         refine takeT (v := ?_) ?_ ?_
         rotate_left
         ·(intro w hSw; obtain ⟨s0, s1, s2, s3, s4, s5, s6, s7⟩ := hSw; go_simp; try with_reducible rfl)
         simp only [Act.put, List.setIfInBounds_toArray, List.set_cons_zero, List.set_cons_succ, Nat.reduceAdd]
        refine doneT ?_
        go_wp2_with fail
        go_meet
        exact seen_mk HSB7.out HRS7.out HB7.out (hb.trans (hb9.mono hb.size)) (LI.out.no fun h => by have h1 := E3.out; have h2 := h.2.2.1; omega)
    ·have hcmp : (hs.toList == binL k0 k1 k2 (P.length : Int)) = false := by rw [hlb]; simpa using e1
     have E1 := Lib.hid e1
     clear hlb e1
     refine startT (S := Hold8 n0 r sb k0 k1 k2 D P T nm l) H8.out (fun hS => ?_)
     iterate 12
      refine takeT (v := ?_) ?_ ?_
      rotate_left
      ·(intro w hSw; obtain ⟨s0, s1, s2, s3, s4, s5, s6, s7⟩ := hSw; go_simp; try with_reducible rfl)
      simp only [Act.put, List.setIfInBounds_toArray, List.set_cons_zero, List.set_cons_succ, Nat.reduceAdd]
     refine oneT (fun K hK => ?_)
     go_simp
     go_wp2_with (go_at_call 76; refine (binary_any _ _ _ _ _).mono ?_; rintro e w8 ⟨rfl, hbin, hb⟩; have hcv := run_bin (g := w7.heap.size) hbin)
     refine hK.out _ _ (Hold8.keep (by assumption) hb) (fun hS => ?_)
     clear hK K
     refine oneT (fun K hK => ?_)
     go_simp
     refine hK.out _ _ (by assumption) (fun hS => ?_)
     clear hK K
     iterate 2
      refine takeT (v := ?_) ?_ ?_
      rotate_left
      ·(intro w hSw; obtain ⟨s0, s1, s2, s3, s4, s5, s6, s7⟩ := hSw; go_simp; try with_reducible rfl)
      simp only [Act.put, List.setIfInBounds_toArray, List.set_cons_zero, List.set_cons_succ, Nat.reduceAdd]
     iterate 4
      refine passT ?_
      simp only [Act.put, List.setIfInBounds_toArray, List.set_cons_zero, List.set_cons_succ, Nat.reduceAdd]
     iterate 2
      refine takeT (v := ?_) ?_ ?_
      rotate_left
      ·(intro w hSw; obtain ⟨s0, s1, s2, s3, s4, s5, s6, s7⟩ := hSw; go_simp; try with_reducible rfl)
      simp only [Act.put, List.setIfInBounds_toArray, List.set_cons_zero, List.set_cons_succ, Nat.reduceAdd]
     iterate 6
      refine passT ?_
      simp only [Act.put, List.setIfInBounds_toArray, List.set_cons_zero, List.set_cons_succ, Nat.reduceAdd]
     iterate 2
      refine takeT (v := ?_) ?_ ?_
      rotate_left
      ·(intro w hSw; obtain ⟨s0, s1, s2, s3, s4, s5, s6, s7⟩ := hSw; go_simp; try with_reducible rfl)
      simp only [Act.put, List.setIfInBounds_toArray, List.set_cons_zero, List.set_cons_succ, Nat.reduceAdd]
     iterate 10
      refine passT ?_
      simp only [Act.put, List.setIfInBounds_toArray, List.set_cons_zero, List.set_cons_succ, Nat.reduceAdd]
     iterate 2
      refine takeT (v := ?_) ?_ ?_
      rotate_left
      ·(intro w hSw; obtain ⟨s0, s1, s2, s3, s4, s5, s6, s7⟩ := hSw; go_simp; try with_reducible rfl)
      simp only [Act.put, List.setIfInBounds_toArray, List.set_cons_zero, List.set_cons_succ, Nat.reduceAdd]
     iterate 8
      refine passT ?_
      simp only [Act.put, List.setIfInBounds_toArray, List.set_cons_zero, List.set_cons_succ, Nat.reduceAdd]
     iterate 1
      refine takeT (v := ?_) ?_ ?_
      rotate_left
      ·(intro w hSw; obtain ⟨s0, s1, s2, s3, s4, s5, s6, s7⟩ := hSw; go_simp; try with_reducible rfl)
      simp only [Act.put, List.setIfInBounds_toArray, List.set_cons_zero, List.set_cons_succ, Nat.reduceAdd]
     refine doneT ?_
     go_wp2_with fail
     go_meet
     exact seen_mk HSB7.out HRS7.out HB7.out hb (LI.out.no fun h => E1.out h.1)
   case rest =>
    obtain ⟨b, rfl, hiff, hsb8, hrs8, hb8⟩ := hcut
    have r0 : wc.cell? ⟨n0 + 1, 0, none⟩ = some (.int .i64 0) := hrs8.cell 0
    have r1 : wc.cell? ⟨n0 + 1, 1, none⟩ = some (.int .i64 0) := hrs8.cell 1
    have r2 : wc.cell? ⟨n0 + 1, 2, none⟩ = some (.string ⟨#[]⟩) := hrs8.cell 2
    have r3 : wc.cell? ⟨n0 + 1, 3, none⟩ = some (.int .i64 0) := hrs8.cell 3
    have r4 : wc.cell? ⟨n0 + 1, 4, none⟩ = some (.string ⟨#[]⟩) := hrs8.cell 4
    have s0 : wc.cell? ⟨sb, 0, none⟩ = some (.int .i64 k0) := hsb8.cell 0
    have s1 : wc.cell? ⟨sb, 1, none⟩ = some (.int .i64 k1) := hsb8.cell 1
    have s2 : wc.cell? ⟨sb, 2, none⟩ = some (.string ⟨D.toArray⟩) := hsb8.cell 2
    have s3 : wc.cell? ⟨sb, 3, none⟩ = some (.int .i64 k2) := hsb8.cell 3
    have s4 : wc.cell? ⟨sb, 4, none⟩ = some (.string ⟨P.toArray⟩) := hsb8.cell 4
    have f0 := hrs8.frozen 0
    have f1 := hrs8.frozen 1
    have f2 := hrs8.frozen 2
    have f3 := hrs8.frozen 3
    have f4 := hrs8.frozen 4
    have HIF := Lib.hid hiff
    have HRS8 := Lib.hid hrs8
    clear hiff hrs8 hsb8
    cases b with
    | true =>
      go_wp2_with fail
      have hr := set_five HRS8.out (.int .i64 0) (.int .i64 0) (.string ⟨#[]⟩) (.int .i64 0) (.string ⟨#[]⟩)
      have hbf := below_five hb8 (.int .i64 0) (.int .i64 0) (.string ⟨#[]⟩) (.int .i64 0) (.string ⟨#[]⟩)
      generalize ((((wc.setCell ⟨n0 + 1, 0, none⟩ (.int .i64 0)).setCell ⟨n0 + 1, 1, none⟩ (.int .i64 0)).setCell ⟨n0 + 1, 2, none⟩ (.string ⟨#[]⟩)).setCell ⟨n0 + 1, 3, none⟩ (.int .i64 0)).setCell ⟨n0 + 1, 4, none⟩ (.string ⟨#[]⟩) = wf at *
      have q0 : wf.cell? ⟨n0 + 1, 0, none⟩ = some (.int .i64 0) := hr.cell 0
      have q1 : wf.cell? ⟨n0 + 1, 1, none⟩ = some (.int .i64 0) := hr.cell 1
      have q2 : wf.cell? ⟨n0 + 1, 2, none⟩ = some (.string ⟨#[]⟩) := hr.cell 2
      have q3 : wf.cell? ⟨n0 + 1, 3, none⟩ = some (.int .i64 0) := hr.cell 3
      have q4 : wf.cell? ⟨n0 + 1, 4, none⟩ = some (.string ⟨#[]⟩) := hr.cell 4
      refine bodyPost_ret (v := .tuple #[.agg #[.int .i64 0, .int .i64 0, .string ⟨#[]⟩, .int .i64 0, .string ⟨#[]⟩], .int .i64 4]) (by simp [results, Tryz.results65, go_sem, q0, q1, q2, q3, q4]) rfl ⟨.inr ⟨(fun h => by have h1 := HIF.out; simp [h] at h1), rfl⟩, by have hh := HN0.out; rw [← hh]; exact hbf⟩
    | false =>
      go_wp2_with fail
      have hr := set_five HRS8.out (.int .i64 k0) (.int .i64 k1) (.string ⟨D.toArray⟩) (.int .i64 k2) (.string ⟨P.toArray⟩)
      have hbf := below_five hb8 (.int .i64 k0) (.int .i64 k1) (.string ⟨D.toArray⟩) (.int .i64 k2) (.string ⟨P.toArray⟩)
      generalize ((((wc.setCell ⟨n0 + 1, 0, none⟩ (.int .i64 k0)).setCell ⟨n0 + 1, 1, none⟩ (.int .i64 k1)).setCell ⟨n0 + 1, 2, none⟩ (.string ⟨D.toArray⟩)).setCell ⟨n0 + 1, 3, none⟩ (.int .i64 k2)).setCell ⟨n0 + 1, 4, none⟩ (.string ⟨P.toArray⟩) = wf at *
      have q0 : wf.cell? ⟨n0 + 1, 0, none⟩ = some (.int .i64 k0) := hr.cell 0
      have q1 : wf.cell? ⟨n0 + 1, 1, none⟩ = some (.int .i64 k1) := hr.cell 1
      have q2 : wf.cell? ⟨n0 + 1, 2, none⟩ = some (.string ⟨D.toArray⟩) := hr.cell 2
      have q3 : wf.cell? ⟨n0 + 1, 3, none⟩ = some (.int .i64 k2) := hr.cell 3
      have q4 : wf.cell? ⟨n0 + 1, 4, none⟩ = some (.string ⟨P.toArray⟩) := hr.cell 4
      refine bodyPost_ret (v := .tuple #[.agg #[.int .i64 k0, .int .i64 k1, .string ⟨D.toArray⟩, .int .i64 k2, .string ⟨P.toArray⟩], .int .i64 0]) (by simp [results, Tryz.results65, go_sem, q0, q1, q2, q3, q4]) rfl ⟨.inl ⟨(by have h1 := HIF.out; simpa using h1), by rw [HRS.out]; rfl⟩, by have hh := HN0.out; rw [← hh]; exact hbf⟩
 ·have hmm : (l.take 4 == [115, 104, 100, 49]) = false := by
   simpa [markL] using hmark
  have r0 : w4.cell? ⟨n0 + 1, 0, none⟩ = some (.int .i64 0) := hrs4.cell 0
  have r1 : w4.cell? ⟨n0 + 1, 1, none⟩ = some (.int .i64 0) := hrs4.cell 1
  have r2 : w4.cell? ⟨n0 + 1, 2, none⟩ = some (.string ⟨#[]⟩) := hrs4.cell 2
  have r3 : w4.cell? ⟨n0 + 1, 3, none⟩ = some (.int .i64 0) := hrs4.cell 3
  have r4 : w4.cell? ⟨n0 + 1, 4, none⟩ = some (.string ⟨#[]⟩) := hrs4.cell 4
  have f0 := hrs4.frozen 0
  have f1 := hrs4.frozen 1
  have f2 := hrs4.frozen 2
  have f3 := hrs4.frozen 3
  have f4 := hrs4.frozen 4
  have HRS4 := Lib.hid hrs4
  have HMK := Lib.hid hmark
  clear hrs4 hmark
  go_wp2_with fail
  have hr := set_five HRS4.out (.int .i64 0) (.int .i64 0) (.string ⟨#[]⟩) (.int .i64 0) (.string ⟨#[]⟩)
  have hbf := below_five hb4 (.int .i64 0) (.int .i64 0) (.string ⟨#[]⟩) (.int .i64 0) (.string ⟨#[]⟩)
  generalize ((((w4.setCell ⟨n0 + 1, 0, none⟩ (.int .i64 0)).setCell ⟨n0 + 1, 1, none⟩ (.int .i64 0)).setCell ⟨n0 + 1, 2, none⟩ (.string ⟨#[]⟩)).setCell ⟨n0 + 1, 3, none⟩ (.int .i64 0)).setCell ⟨n0 + 1, 4, none⟩ (.string ⟨#[]⟩) = wf at *
  have q0 : wf.cell? ⟨n0 + 1, 0, none⟩ = some (.int .i64 0) := hr.cell 0
  have q1 : wf.cell? ⟨n0 + 1, 1, none⟩ = some (.int .i64 0) := hr.cell 1
  have q2 : wf.cell? ⟨n0 + 1, 2, none⟩ = some (.string ⟨#[]⟩) := hr.cell 2
  have q3 : wf.cell? ⟨n0 + 1, 3, none⟩ = some (.int .i64 0) := hr.cell 3
  have q4 : wf.cell? ⟨n0 + 1, 4, none⟩ = some (.string ⟨#[]⟩) := hr.cell 4
  refine bodyPost_ret (v := .tuple #[.agg #[.int .i64 0, .int .i64 0, .string ⟨#[]⟩, .int .i64 0, .string ⟨#[]⟩], .int .i64 4]) (by simp [results, Tryz.results65, go_sem, q0, q1, q2, q3, q4]) rfl ⟨.inr ⟨(fun h => HMK.out h.2.2.1), rfl⟩, by have hh := HN0.out; rw [← hh]; exact hbf⟩
theorem read_any (name data : ByteArray) (w : World) (hv : Vars w) :
 Calls Tryz.prog 65 #[.agg #[.string name, .string data]] w fun e w' => ReadEnd name.data.toList data.data.toList e ∧ Below w.heap.size w w' := by
 have h := readL_any name.data.toList data.data.toList w hv
 rw [mk_toList, mk_toList] at h
 exact h
end Shd
end Go.Proofs.YtnbkhdbligjifaaGreatDoor
