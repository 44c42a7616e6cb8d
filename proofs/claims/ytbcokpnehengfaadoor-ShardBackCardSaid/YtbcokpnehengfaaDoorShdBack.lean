/-
  The walk of ShardBack.
-/
import Derived.Test.YtbcokpnehengfaaDoorShdApart
import Derived.Test.YtbcokpnehengfaaDoorShdBackPlain
import Derived.Test.YtbcokpnehengfaaDoorRegionTwo
namespace Go.Proofs.YtbcokpnehengfaaDoor
open Go.RowKit
namespace Shd

theorem back_start (w : World) (K N : Int) (dl : List UInt8) (i : Int) (pl nm da : List UInt8) :
    Blk ((w.alloc (.cells #[.int .i64 K, .int .i64 N, .string ⟨dl.toArray⟩, .int .i64 i, .string ⟨pl.toArray⟩] 25)).alloc (.cells #[.string ⟨nm.toArray⟩, .string ⟨da.toArray⟩] 27)) w.heap.size 25 #[.int .i64 K, .int .i64 N, .string ⟨dl.toArray⟩, .int .i64 i, .string ⟨pl.toArray⟩] ∧
      Blk ((w.alloc (.cells #[.int .i64 K, .int .i64 N, .string ⟨dl.toArray⟩, .int .i64 i, .string ⟨pl.toArray⟩] 25)).alloc (.cells #[.string ⟨nm.toArray⟩, .string ⟨da.toArray⟩] 27)) (w.heap.size + 1) 27 #[.string ⟨nm.toArray⟩, .string ⟨da.toArray⟩] ∧
      Below w.heap.size w ((w.alloc (.cells #[.int .i64 K, .int .i64 N, .string ⟨dl.toArray⟩, .int .i64 i, .string ⟨pl.toArray⟩] 25)).alloc (.cells #[.string ⟨nm.toArray⟩, .string ⟨da.toArray⟩] 27)) := by
  refine ⟨(Blk.new w _ _).alloc _, ?_, ((Below.refl _ _).alloc (Nat.le_refl _) _).alloc (by simp) _⟩
  have h := Blk.new (w.alloc (.cells #[.int .i64 K, .int .i64 N, .string ⟨dl.toArray⟩, .int .i64 i, .string ⟨pl.toArray⟩] 25)) 27 #[.string ⟨nm.toArray⟩, .string ⟨da.toArray⟩]
  simpa using h

/-- what stands while ShardBack looks at both -/
def BackIn (n0 n1 : Nat) (K N : Int) (dl : List UInt8) (i : Int) (pl nm da : List UInt8) (w W : World) : Prop :=
  Blk W n0 25 #[.int .i64 K, .int .i64 N, .string ⟨dl.toArray⟩, .int .i64 i, .string ⟨pl.toArray⟩] ∧ Blk W n1 27 #[.string ⟨nm.toArray⟩, .string ⟨da.toArray⟩] ∧ Below w.heap.size w W

theorem back_keep {n0 n1 : Nat} {K N : Int} {dl : List UInt8} {i : Int} {pl nm da : List UInt8} {w W W' : World} (h : BackIn n0 n1 K N dl i pl nm da w W) (hb : Below W.heap.size W W') : BackIn n0 n1 K N dl i pl nm da w W' :=
  ⟨h.1.below hb h.1.lt, h.2.1.below hb h.2.1.lt, h.2.2.trans (hb.mono h.2.2.size)⟩
theorem back_alloc {n0 n1 : Nat} {K N : Int} {dl : List UInt8} {i : Int} {pl nm da : List UInt8} {w W : World} (h : BackIn n0 n1 K N dl i pl nm da w W) (o : Obj) : BackIn n0 n1 K N dl i pl nm da w (W.alloc o) := back_keep h ((Below.refl _ _).alloc (Nat.le_refl _) _)

/-- a row whose frozen range is `fz` -/
def FBlk (w : World) (g : Nat) (t : TypeId) (cs : Array Value) (fz : Nat × Nat) : Prop := w.heap[g]? = some (.cells cs t fz)
section
variable {w w' : World} {g : Nat} {t : TypeId} {cs : Array Value} {fz : Nat × Nat}
theorem FBlk.lt (h : FBlk w g t cs fz) : g < w.heap.size := by
  rcases Nat.lt_or_ge g w.heap.size with hlt | hge
  · exact hlt
  · unfold FBlk at h; rw [Array.getElem?_eq_none hge] at h; cases h
theorem FBlk.cell (h : FBlk w g t cs fz) (i : Nat) : w.cell? ⟨g, i, none⟩ = cs[i]? := cell_of_row w g i cs t fz h
theorem FBlk.frozen (h : FBlk w g t cs fz) (i : Nat) (hi : i < fz.1) : w.frozen? ⟨g, i, none⟩ = false := by
  unfold FBlk at h
  simp [World.frozen?, h]
  intro h1; omega
theorem FBlk.alloc (h : FBlk w g t cs fz) (o : Obj) : FBlk (w.alloc o) g t cs fz := (Below.heap_alloc w o g h.lt).trans h
theorem FBlk.set_ (h : FBlk w g t cs fz) (i : Nat) (u : Value) : FBlk (w.setCell ⟨g, i, none⟩ u) g t (cs.setIfInBounds i u) fz := by
  unfold FBlk at h ⊢
  simp [World.setCell, Array.getElem?_modify, h]
theorem FBlk.below {B : Nat} (h : FBlk w g t cs fz) (hb : Below B w w') (hg : g < B) : FBlk w' g t cs fz := (hb.block g hg).trans h
end

theorem run_text' {P : Program} {w : World} {src e dst : TypeId} (hs : P.underlying src = some (.slice e)) (he : P.underlying e = some (.int .u8)) (hd : P.underlying dst = some .string) {g cap : Nat} {t : TypeId} {l : List UInt8} {r : Array Value} {fz : Nat × Nat} (h : FBlk w g t (nums l ++ r) fz) :
    (convert src dst (.slice (some ⟨g, 0, none⟩) l.length cap)).run P w = .ok (.string ⟨l.toArray⟩) w := by
  refine run_convert_bytes_back w src dst e ⟨g, 0, none⟩ cap l hs he hd (fun j hj => ?_)
  have hp : (⟨g, 0, none⟩ : Addr).add j = ⟨g, j, none⟩ := by unfold Addr.add; split <;> simp_all
  rw [hp, h.cell j, Array.getElem?_append_left (by rw [nums_size]; exact hj), nums_get l j hj]

theorem ba_append' (a : List UInt8) (b : Array UInt8) : (⟨a.toArray⟩ : ByteArray) ++ ⟨b⟩ = ⟨(a ++ b.toList).toArray⟩ := by
  apply ByteArray.ext
  simp

theorem bytes_blk (w : World) (D : List UInt8) : ∃ r fz, FBlk (Lib.bytesWorld w 5 ⟨D.toArray⟩) w.heap.size 5 (nums D ++ r) fz ∧ D.length ≤ fz.1 := by
  have h := Lib.bytesWorld_at_new w 5 ⟨D.toArray⟩
  have e : Lib.bytesCells w 5 ⟨D.toArray⟩ = nums D ++ Array.replicate (grownCap w (⟨D.toArray⟩ : ByteArray).size 0 5 - (⟨D.toArray⟩ : ByteArray).size) (.int .u8 0) := by
    unfold Lib.bytesCells nums
    congr 1
    apply Array.toList_inj.1
    simp
  rw [e] at h
  exact ⟨_, _, h, by show D.length ≤ (nums D ++ Array.replicate _ _).size; rw [Array.size_append, nums_size]; omega⟩

/-- the object that is turned -/
def HoldX (tx : Nat) (X D : List UInt8) (W : World) : Prop := W.cell? ⟨tx, 0, none⟩ = some (.string ⟨X.toArray⟩) ∧ W.cell? ⟨tx, 1, none⟩ = some (.string ⟨D.toArray⟩)
theorem HoldX.keep {tx : Nat} {X D : List UInt8} {W W' : World} (h : HoldX tx X D W) (hb : Below W.heap.size W W') : HoldX tx X D W' :=
  ⟨(hb.cell (Lib.lt_of_cell h.1)).trans h.1, (hb.cell (Lib.lt_of_cell h.2)).trans h.2⟩

section
variable {W : World} {b g : Nat} {T : TypeId} {cs : Array Value} {fz : Nat × Nat}
theorem FBlk.far (h : FBlk W b T cs fz) {p : Addr} (hp : b ≠ p.block) (u : Value) : FBlk (W.setCell p u) b T cs fz := (Below.heap_setCell W p u b hp).trans h
theorem blk_five (hne : b ≠ g) (h : Blk W b T cs) (v0 v1 v2 v3 v4 : Value) : Blk (((((W.setCell ⟨g, 0, none⟩ v0).setCell ⟨g, 1, none⟩ v1).setCell ⟨g, 2, none⟩ v2).setCell ⟨g, 3, none⟩ v3).setCell ⟨g, 4, none⟩ v4) b T cs :=
  ((((h.far (p := ⟨g, 0, none⟩) hne _).far (p := ⟨g, 1, none⟩) hne _).far (p := ⟨g, 2, none⟩) hne _).far (p := ⟨g, 3, none⟩) hne _).far (p := ⟨g, 4, none⟩) hne _
theorem fblk_five (hne : b ≠ g) (h : FBlk W b T cs fz) (v0 v1 v2 v3 v4 : Value) : FBlk (((((W.setCell ⟨g, 0, none⟩ v0).setCell ⟨g, 1, none⟩ v1).setCell ⟨g, 2, none⟩ v2).setCell ⟨g, 3, none⟩ v3).setCell ⟨g, 4, none⟩ v4) b T cs fz :=
  ((((h.far (p := ⟨g, 0, none⟩) hne _).far (p := ⟨g, 1, none⟩) hne _).far (p := ⟨g, 2, none⟩) hne _).far (p := ⟨g, 3, none⟩) hne _).far (p := ⟨g, 4, none⟩) hne _
theorem below5 {B : Nat} {w : World} (h : Below B w W) (hg : B ≤ g) (v0 v1 v2 v3 v4 : Value) : Below B w (((((W.setCell ⟨g, 0, none⟩ v0).setCell ⟨g, 1, none⟩ v1).setCell ⟨g, 2, none⟩ v2).setCell ⟨g, 3, none⟩ v3).setCell ⟨g, 4, none⟩ v4) :=
  ((((h.setCell (p := ⟨g, 0, none⟩) hg _).setCell (p := ⟨g, 1, none⟩) hg _).setCell (p := ⟨g, 2, none⟩) hg _).setCell (p := ⟨g, 3, none⟩) hg _).setCell (p := ⟨g, 4, none⟩) hg _
theorem back_five {n0 n1 : Nat} {K N : Int} {dl : List UInt8} {i : Int} {pl nm da : List UInt8} {w : World} (h : BackIn n0 n1 K N dl i pl nm da w W) (h0 : n0 ≠ g) (h1 : n1 ≠ g) (hg : w.heap.size ≤ g) (v0 v1 v2 v3 v4 : Value) : BackIn n0 n1 K N dl i pl nm da w (((((W.setCell ⟨g, 0, none⟩ v0).setCell ⟨g, 1, none⟩ v1).setCell ⟨g, 2, none⟩ v2).setCell ⟨g, 3, none⟩ v3).setCell ⟨g, 4, none⟩ v4) :=
  ⟨blk_five h0 h.1 _ _ _ _ _, blk_five h1 h.2.1 _ _ _ _ _, below5 h.2.2 hg _ _ _ _ _⟩
end

/-- what stands while the turned objects are read -/
def TurnIn (n0 n1 : Nat) (K N : Int) (dl : List UInt8) (i : Int) (pl nm da : List UInt8) (w : World) (tx : Nat) (X D : List UInt8) (bb : Nat) (cs : Array Value) (fz : Nat × Nat) (W : World) : Prop :=
  BackIn n0 n1 K N dl i pl nm da w W ∧ Blk W tx 27 #[.string ⟨X.toArray⟩, .string ⟨D.toArray⟩] ∧ FBlk W bb 5 cs fz
section
variable {n0 n1 : Nat} {K N : Int} {dl : List UInt8} {i : Int} {pl nm da : List UInt8} {w W W' : World} {tx : Nat} {X D : List UInt8} {bb : Nat} {cs : Array Value} {fz : Nat × Nat}
theorem TurnIn.keep (h : TurnIn n0 n1 K N dl i pl nm da w tx X D bb cs fz W) (hb : Below W.heap.size W W') : TurnIn n0 n1 K N dl i pl nm da w tx X D bb cs fz W' :=
  ⟨back_keep h.1 hb, h.2.1.below hb h.2.1.lt, h.2.2.below hb h.2.2.lt⟩
theorem TurnIn.alloc (h : TurnIn n0 n1 K N dl i pl nm da w tx X D bb cs fz W) (o : Obj) : TurnIn n0 n1 K N dl i pl nm da w tx X D bb cs fz (W.alloc o) := h.keep ((Below.refl _ _).alloc (Nat.le_refl _) _)
theorem TurnIn.drew (h : TurnIn n0 n1 K N dl i pl nm da w tx X D bb cs fz W) : TurnIn n0 n1 K N dl i pl nm da w tx X D bb cs fz W.drew := h.keep ((Below.refl _ _).drew)
theorem TurnIn.five (h : TurnIn n0 n1 K N dl i pl nm da w tx X D bb cs fz W) {g : Nat} (h0 : n0 < g) (h1 : n1 < g) (hx : tx < g) (hb : bb < g) (hg : w.heap.size ≤ g) (v0 v1 v2 v3 v4 : Value) : TurnIn n0 n1 K N dl i pl nm da w tx X D bb cs fz (((((W.setCell ⟨g, 0, none⟩ v0).setCell ⟨g, 1, none⟩ v1).setCell ⟨g, 2, none⟩ v2).setCell ⟨g, 3, none⟩ v3).setCell ⟨g, 4, none⟩ v4) :=
  ⟨back_five h.1 (by omega) (by omega) hg _ _ _ _ _, blk_five (by omega) h.2.1 _ _ _ _ _, fblk_five (by omega) h.2.2 _ _ _ _ _⟩
theorem TurnIn.hold (h : TurnIn n0 n1 K N dl i pl nm da w tx X D bb cs fz W) : HoldX tx X D W := ⟨h.2.1.cell 0, h.2.1.cell 1⟩
end

def HoldZ (tx : Nat) (X D : List UInt8) (bb : Nat) (cs : Array Value) (fz : Nat × Nat) (W : World) : Prop := HoldX tx X D W ∧ FBlk W bb 5 cs fz
theorem HoldZ.keep {tx : Nat} {X D : List UInt8} {bb : Nat} {cs : Array Value} {fz : Nat × Nat} {W W' : World} (h : HoldZ tx X D bb cs fz W) (hb : Below W.heap.size W W') : HoldZ tx X D bb cs fz W' := ⟨h.1.keep hb, h.2.below hb h.2.lt⟩
theorem nums_append (a b : List UInt8) : nums (a ++ b) = nums a ++ nums b := by
  unfold nums; simp

set_option maxRecDepth 100000 in
set_option maxHeartbeats 16000000 in
theorem backL_any (K N : Int) (dl : List UInt8) (i : Int) (pl : List UInt8) (hI : I64 i) (nm da : List UInt8) (at_ : Int) (hat : I64 at_) (by_ : UInt8) (w : World) (hv : Vars w) :
    Calls Tryd.prog 5 #[.agg #[.int .i64 K, .int .i64 N, .string ⟨dl.toArray⟩, .int .i64 i, .string ⟨pl.toArray⟩], .agg #[.string ⟨nm.toArray⟩, .string ⟨da.toArray⟩], .int .i64 at_, .int .u8 (by_.toNat : Int)] w
      fun e w' => e = .returned (.bool true) ∧ Below w.heap.size w w' := by
  obtain ⟨hbx, hby, hb1⟩ := back_start w K N dl i pl nm da
  have HV00 := Lib.hid hv
  have HV := Lib.hid (hv.below hb1)
  have HI := Lib.hid hI
  have HAT := Lib.hid hat
  clear hv hI hat
  by_cases g1 : 20000 < pl.length
  · have hd : (20000 : Int) < (pl.length : Int) := by omega
    go_enter Tryd.func5, Tryd.ntmps5
    go_wp2_with (go_at_call 8; refine (awake_any _ HV.out).mono ?_; rintro e w2 ⟨rfl, hb2⟩)
    go_ret
    exact ⟨rfl, hb1.trans (hb2.mono hb1.size)⟩
  have f1 : ¬ ((20000 : Int) < (pl.length : Int)) := by omega
  by_cases g2 : 20000 < da.length
  · have hd : (20000 : Int) < (da.length : Int) := by omega
    go_enter Tryd.func5, Tryd.ntmps5
    go_wp2_with (go_at_call 8; refine (awake_any _ HV.out).mono ?_; rintro e w2 ⟨rfl, hb2⟩)
    go_ret
    exact ⟨rfl, hb1.trans (hb2.mono hb1.size)⟩
  have f2 : ¬ ((20000 : Int) < (da.length : Int)) := by omega
  by_cases g3 : 100 < dl.length
  · have hd : (100 : Int) < (dl.length : Int) := by omega
    go_enter Tryd.func5, Tryd.ntmps5
    go_wp2_with (go_at_call 8; refine (awake_any _ HV.out).mono ?_; rintro e w2 ⟨rfl, hb2⟩)
    go_ret
    exact ⟨rfl, hb1.trans (hb2.mono hb1.size)⟩
  have f3 : ¬ ((100 : Int) < (dl.length : Int)) := by omega
  by_cases g4 : 300 < nm.length
  · have hd : (300 : Int) < (nm.length : Int) := by omega
    go_enter Tryd.func5, Tryd.ntmps5
    go_wp2_with (go_at_call 8; refine (awake_any _ HV.out).mono ?_; rintro e w2 ⟨rfl, hb2⟩)
    go_ret
    exact ⟨rfl, hb1.trans (hb2.mono hb1.size)⟩
  have f4 : ¬ ((300 : Int) < (nm.length : Int)) := by omega
  go_enter Tryd.func5, Tryd.ntmps5
  go_wp2_with fail
  generalize (w.alloc (.cells #[.int .i64 K, .int .i64 N, .string ⟨dl.toArray⟩, .int .i64 i, .string ⟨pl.toArray⟩] 25)).alloc (.cells #[.string ⟨nm.toArray⟩, .string ⟨da.toArray⟩] 27) = w1 at *
  refine (awake_any _ HV.out).mono ?_
  rintro e w2 ⟨rfl, hb2⟩
  obtain ⟨n0, hn0⟩ : ∃ n, n = w.heap.size := ⟨_, rfl⟩
  obtain ⟨n1, hn1⟩ : ∃ n, n = n0 + 1 := ⟨_, rfl⟩
  rw [← hn0] at hbx hby ⊢
  rw [← hn1] at hby ⊢
  have hB : BackIn n0 n1 K N dl i pl nm da w w2 := back_keep ⟨hbx, hby, hb1⟩ hb2
  have hlt01 : n0 < n1 := by omega
  have HN0 := Lib.hid hn0
  have HB2 := Lib.hid hB
  have o0 : w2.cell? ⟨n1, 0, none⟩ = some (.string ⟨nm.toArray⟩) := hB.2.1.cell 0
  have o1 : w2.cell? ⟨n1, 1, none⟩ = some (.string ⟨da.toArray⟩) := hB.2.1.cell 1
  clear hbx hby hb1 hb2 hn0 hn1 hB HV
  go_wp2_with fail
  clear o0 o1
  refine (readL_any nm da w2 (HV00.out.below HB2.out.2.2)).mono ?_
  rintro e w3 ⟨he, hb3⟩
  have hB := back_keep HB2.out hb3
  obtain ⟨t, c, htc, rfl⟩ : ∃ (t : Shard) (c : Int), ((c = 0 ∧ Looks sumL nm da ∧ t = readS da) ∨ (c = 4 ∧ ¬ Looks sumL nm da)) ∧ e = .returned (.tuple #[.agg #[.int .i64 t.K, .int .i64 t.N, .string ⟨t.dig.toArray⟩, .int .i64 t.idx, .string ⟨t.pay.toArray⟩], .int .i64 c]) := by
    rcases he with ⟨h, rfl⟩ | ⟨h, rfl⟩
    · exact ⟨readS da, 0, .inl ⟨rfl, h, rfl⟩, rfl⟩
    · exact ⟨⟨0, 0, 0, [], []⟩, 4, .inr ⟨rfl, h⟩, rfl⟩
  have HTC := Lib.hid htc
  have hB4 := back_alloc hB (.cells #[.int .i64 t.K, .int .i64 t.N, .string ⟨t.dig.toArray⟩, .int .i64 t.idx, .string ⟨t.pay.toArray⟩] 25)
  have ht4 := Blk.new w3 25 #[.int .i64 t.K, .int .i64 t.N, .string ⟨t.dig.toArray⟩, .int .i64 t.idx, .string ⟨t.pay.toArray⟩]
  have hn1t : n1 < w3.heap.size := hB.2.1.lt
  have HB4 := Lib.hid hB4
  have HT4 := Lib.hid ht4
  clear hb3 hB HB2 he htc hB4 ht4
  go_upto_if 61 with fail
  generalize w3.alloc (.cells #[.int .i64 t.K, .int .i64 t.N, .string ⟨t.dig.toArray⟩, .int .i64 t.idx, .string ⟨t.pay.toArray⟩] 25) = w4 at *
  obtain ⟨t9, ht9⟩ : ∃ t9, t9 = w3.heap.size := ⟨_, rfl⟩
  rw [← ht9] at hn1t HT4 ⊢
  clear ht9
  -- the object's shard is made again
  go_cut [12] (fun _ wx => BackIn n0 n1 K N dl i pl nm da w wx ∧ Blk wx t9 25 #[.int .i64 t.K, .int .i64 t.N, .string ⟨t.dig.toArray⟩, .int .i64 t.idx, .string ⟨t.pay.toArray⟩])
  case first =>
    rcases HTC.out with ⟨rfl, hlk, hte⟩ | ⟨rfl, hlk⟩
    · have hsd : Sound sumL nm da t := by rw [hte]; exact looks_sound hlk
      have hmay := hsd.1
      have hm : ∀ W, Vars W → Calls Tryd.prog 9 #[.agg #[.int .i64 t.K, .int .i64 t.N, .string ⟨t.dig.toArray⟩, .int .i64 t.idx, .string ⟨t.pay.toArray⟩]] W fun e w' => e = .returned (.tuple #[.agg #[.string ⟨nm.toArray⟩, .string ⟨da.toArray⟩], .int .i64 0]) ∧ Below W.heap.size W w' := fun W hv => by
        obtain ⟨m1, m2, m3, m4, m5, m6⟩ := hmay
        refine (makeL_any t.K t.N t.idx t.dig t.pay ⟨by omega, by omega⟩ W hv).mono ?_
        rintro e w' ⟨he, hb⟩
        have h := make_of (s := t) he hsd.1 hsd.2.1
        rw [← hsd.2.2.1, ← hsd.2.2.2] at h
        exact ⟨h, hb⟩
      have HM := Lib.hid hm
      clear hm hmay hsd hlk hte
      have c0 : w4.cell? ⟨t9, 0, none⟩ = some (.int .i64 t.K) := HT4.out.cell 0
      have c1 : w4.cell? ⟨t9, 1, none⟩ = some (.int .i64 t.N) := HT4.out.cell 1
      have c2 : w4.cell? ⟨t9, 2, none⟩ = some (.string ⟨t.dig.toArray⟩) := HT4.out.cell 2
      have c3 : w4.cell? ⟨t9, 3, none⟩ = some (.int .i64 t.idx) := HT4.out.cell 3
      have c4 : w4.cell? ⟨t9, 4, none⟩ = some (.string ⟨t.pay.toArray⟩) := HT4.out.cell 4
      go_wp2_with (go_at_call 9; refine (HM.out _ (HV00.out.below HB4.out.2.2)).mono ?_; rintro e w5 ⟨rfl, hb5⟩; have hB5 := back_alloc (back_keep HB4.out hb5) (.cells #[.string ⟨nm.toArray⟩, .string ⟨da.toArray⟩] 27); have p0 : (w5.alloc (.cells #[.string ⟨nm.toArray⟩, .string ⟨da.toArray⟩] 27)).cell? ⟨n1, 0, none⟩ = some (.string ⟨nm.toArray⟩) := hB5.2.1.cell 0; have p1 : (w5.alloc (.cells #[.string ⟨nm.toArray⟩, .string ⟨da.toArray⟩] 27)).cell? ⟨n1, 1, none⟩ = some (.string ⟨da.toArray⟩) := hB5.2.1.cell 1)
      go_meet
      exact ⟨back_alloc (back_keep HB4.out hb5) _, (HT4.out.below hb5 HT4.out.lt).alloc _⟩
    · clear hlk
      go_wp2_with fail
      go_meet
      exact ⟨HB4.out, HT4.out⟩
  case rest =>
    obtain ⟨hB, hT⟩ := hcut
    have c0 : wc.cell? ⟨n0, 0, none⟩ = some (.int .i64 K) := hB.1.cell 0
    have c1 : wc.cell? ⟨n0, 1, none⟩ = some (.int .i64 N) := hB.1.cell 1
    have c2 : wc.cell? ⟨n0, 2, none⟩ = some (.string ⟨dl.toArray⟩) := hB.1.cell 2
    have c3 : wc.cell? ⟨n0, 3, none⟩ = some (.int .i64 i) := hB.1.cell 3
    have c4 : wc.cell? ⟨n0, 4, none⟩ = some (.string ⟨pl.toArray⟩) := hB.1.cell 4
    have HB := Lib.hid hB
    have HT := Lib.hid hT
    have HM := Lib.hid (makeL_any K N i dl pl HI.out wc (HV00.out.below hB.2.2))
    clear hB hT HB4 HT4 HTC
    go_wp2_with fail
    clear c0 c1 c2 c3 c4
    refine HM.out.mono ?_
    rintro e w5 ⟨he, hb5⟩
    have HB5 := Lib.hid (back_keep HB.out hb5)
    have HT5 := Lib.hid (HT.out.below hb5 HT.out.lt)
    clear hb5 HB HT HM
    rcases he with ⟨hmay, hfit, rfl⟩ | ⟨hmay, hbig, rfl⟩ | ⟨hmay, rfl⟩
    · have hsd := made_sound (D := sumL) ⟨K, N, i, dl, pl⟩ hmay hfit
      unfold objV
      obtain ⟨X, hX⟩ : ∃ X, X = nameL (Shard.mk K N i dl pl).dig (Shard.mk K N i dl pl).idx := ⟨_, rfl⟩
      obtain ⟨D, hD⟩ : ∃ D, D = Shard.data sumL (Shard.mk K N i dl pl) := ⟨_, rfl⟩
      rw [← hX, ← hD] at hsd ⊢
      have HX := Lib.hid hX
      have HD := Lib.hid hD
      have HSD := Lib.hid hsd
      have HMAY := Lib.hid hmay
      clear hX hD hsd hmay hfit
      -- Read of it
      have hR : ∀ W, Vars W → Calls Tryd.prog 11 #[.agg #[.string ⟨X.toArray⟩, .string ⟨D.toArray⟩]] W fun e w' => e = .returned (.tuple #[.agg #[.int .i64 K, .int .i64 N, .string ⟨dl.toArray⟩, .int .i64 i, .string ⟨pl.toArray⟩], .int .i64 0]) ∧ Below W.heap.size W w' := fun W hv => by
        refine (readL_any X D W hv).mono ?_
        rintro e w' ⟨he, hb⟩
        exact ⟨read_of he HSD.out, hb⟩
      have HR := Lib.hid hR
      clear hR
      go_wp2_with fail
      have hB6 := back_alloc HB5.out (.cells #[.string ⟨X.toArray⟩, .string ⟨D.toArray⟩] 27)
      have hT6 := HT5.out.alloc (.cells #[.string ⟨X.toArray⟩, .string ⟨D.toArray⟩] 27)
      have hO6 := Blk.new w5 27 #[.string ⟨X.toArray⟩, .string ⟨D.toArray⟩]
      have htx : t9 < w5.heap.size := HT5.out.lt
      obtain ⟨tx, htx0⟩ : ∃ tx, tx = w5.heap.size := ⟨_, rfl⟩
      rw [← htx0] at hO6 htx ⊢
      clear htx0 HB5 HT5
      generalize w5.alloc (.cells #[.string ⟨X.toArray⟩, .string ⟨D.toArray⟩] 27) = w6 at *
      refine (HR.out w6 (HV00.out.below hB6.2.2)).mono ?_
      rintro e w7 ⟨rfl, hb7⟩
      have hB7 := back_keep hB6 hb7
      have hT7 := hT6.below hb7 hT6.lt
      have hO7 := hO6.below hb7 hO6.lt
      have s0 : w7.cell? ⟨t9, 0, none⟩ = some (.int .i64 t.K) := hT7.cell 0
      have s1 : w7.cell? ⟨t9, 1, none⟩ = some (.int .i64 t.N) := hT7.cell 1
      have s2 : w7.cell? ⟨t9, 2, none⟩ = some (.string ⟨t.dig.toArray⟩) := hT7.cell 2
      have s3 : w7.cell? ⟨t9, 3, none⟩ = some (.int .i64 t.idx) := hT7.cell 3
      have s4 : w7.cell? ⟨t9, 4, none⟩ = some (.string ⟨t.pay.toArray⟩) := hT7.cell 4
      have q0 := hT7.frozen 0
      have q1 := hT7.frozen 1
      have q2 := hT7.frozen 2
      have q3 := hT7.frozen 3
      have q4 := hT7.frozen 4
      have x0 : w7.cell? ⟨tx, 0, none⟩ = some (.string ⟨X.toArray⟩) := hO7.cell 0
      have HB7 := Lib.hid hB7
      have HT7 := Lib.hid hT7
      have HO7 := Lib.hid hO7
      clear hB6 hT6 hO6 hb7 hB7 hT7 hO7 HR
      go_wp2_with fail
      have hT8 := set_five HT7.out (.int .i64 K) (.int .i64 N) (.string ⟨dl.toArray⟩) (.int .i64 i) (.string ⟨pl.toArray⟩)
      have hk8 : ∀ b cs T, b ≠ t9 → Blk w7 b T cs → Blk (((((w7.setCell ⟨t9, 0, none⟩ (.int .i64 K)).setCell ⟨t9, 1, none⟩ (.int .i64 N)).setCell ⟨t9, 2, none⟩ (.string ⟨dl.toArray⟩)).setCell ⟨t9, 3, none⟩ (.int .i64 i)).setCell ⟨t9, 4, none⟩ (.string ⟨pl.toArray⟩)) b T cs := fun b cs T hne h => ((((h.far (p := ⟨t9, 0, none⟩) hne _).far (p := ⟨t9, 1, none⟩) hne _).far (p := ⟨t9, 2, none⟩) hne _).far (p := ⟨t9, 3, none⟩) hne _).far (p := ⟨t9, 4, none⟩) hne _
      have h0t : n0 < t9 := by omega
      have hb8 : Below w.heap.size w (((((w7.setCell ⟨t9, 0, none⟩ (.int .i64 K)).setCell ⟨t9, 1, none⟩ (.int .i64 N)).setCell ⟨t9, 2, none⟩ (.string ⟨dl.toArray⟩)).setCell ⟨t9, 3, none⟩ (.int .i64 i)).setCell ⟨t9, 4, none⟩ (.string ⟨pl.toArray⟩)) := by
        have hh := HN0.out
        rw [← hh]
        have h := HB7.out.2.2
        rw [← hh] at h
        exact ((((h.setCell (p := ⟨t9, 0, none⟩) (Nat.le_of_lt h0t) _).setCell (p := ⟨t9, 1, none⟩) (Nat.le_of_lt h0t) _).setCell (p := ⟨t9, 2, none⟩) (Nat.le_of_lt h0t) _).setCell (p := ⟨t9, 3, none⟩) (Nat.le_of_lt h0t) _).setCell (p := ⟨t9, 4, none⟩) (Nat.le_of_lt h0t) _
      have hB8 : BackIn n0 n1 K N dl i pl nm da w (((((w7.setCell ⟨t9, 0, none⟩ (.int .i64 K)).setCell ⟨t9, 1, none⟩ (.int .i64 N)).setCell ⟨t9, 2, none⟩ (.string ⟨dl.toArray⟩)).setCell ⟨t9, 3, none⟩ (.int .i64 i)).setCell ⟨t9, 4, none⟩ (.string ⟨pl.toArray⟩)) := ⟨hk8 _ _ _ (by omega) HB7.out.1, hk8 _ _ _ (by omega) HB7.out.2.1, hb8⟩
      have hO8 := hk8 _ _ _ (by omega) HO7.out
      clear s0 s1 s2 s3 s4 q0 q1 q2 q3 q4 x0 hk8 HB7 HT7 HO7 hb8
      generalize ((((w7.setCell ⟨t9, 0, none⟩ (.int .i64 K)).setCell ⟨t9, 1, none⟩ (.int .i64 N)).setCell ⟨t9, 2, none⟩ (.string ⟨dl.toArray⟩)).setCell ⟨t9, 3, none⟩ (.int .i64 i)).setCell ⟨t9, 4, none⟩ (.string ⟨pl.toArray⟩) = w8 at *
      have hP : ∀ W, Vars W → Calls Tryd.prog 13 #[.string ⟨X.toArray⟩] W fun e w' => e = .returned (.tuple #[.string ⟨dl.toArray⟩, .int .i64 i, .bool true]) ∧ Below W.heap.size W w' := fun W hv => by
        obtain ⟨m1, m2, m3, m4, m5, m6⟩ := HMAY.out
        simp only at m1 m2 m3 m4 m5 m6
        refine (parse_any ⟨X.toArray⟩ (show X.length ≤ 1000000 by rw [HX.out]; exact name_le dl i (by omega) HI.out) W hv).mono ?_
        rintro e w' ⟨he, hb⟩
        have h := parse_of (n := i.toNat) he ⟨m4, by omega, by
          show X = _
          rw [HX.out]; congr 1; show i = _; omega⟩
        rw [show ((i.toNat : Nat) : Int) = i by omega] at h
        exact ⟨h, hb⟩
      refine (hP w8 (HV00.out.below hB8.2.2)).mono ?_
      rintro e w9 ⟨rfl, hb9⟩
      have hB9 := back_keep hB8 hb9
      have hT9 := hT8.below hb9 hT8.lt
      have hO9 := hO8.below hb9 hO8.lt
      have c0 : w9.cell? ⟨n0, 0, none⟩ = some (.int .i64 K) := hB9.1.cell 0
      have c1 : w9.cell? ⟨n0, 1, none⟩ = some (.int .i64 N) := hB9.1.cell 1
      have c2 : w9.cell? ⟨n0, 2, none⟩ = some (.string ⟨dl.toArray⟩) := hB9.1.cell 2
      have c3 : w9.cell? ⟨n0, 3, none⟩ = some (.int .i64 i) := hB9.1.cell 3
      have c4 : w9.cell? ⟨n0, 4, none⟩ = some (.string ⟨pl.toArray⟩) := hB9.1.cell 4
      have s0 : w9.cell? ⟨t9, 0, none⟩ = some (.int .i64 K) := hT9.cell 0
      have s1 : w9.cell? ⟨t9, 1, none⟩ = some (.int .i64 N) := hT9.cell 1
      have s2 : w9.cell? ⟨t9, 2, none⟩ = some (.string ⟨dl.toArray⟩) := hT9.cell 2
      have s3 : w9.cell? ⟨t9, 3, none⟩ = some (.int .i64 i) := hT9.cell 3
      have s4 : w9.cell? ⟨t9, 4, none⟩ = some (.string ⟨pl.toArray⟩) := hT9.cell 4
      have x0 : w9.cell? ⟨tx, 0, none⟩ = some (.string ⟨X.toArray⟩) := hO9.cell 0
      have x1 : w9.cell? ⟨tx, 1, none⟩ = some (.string ⟨D.toArray⟩) := hO9.cell 1
      have HB9 := Lib.hid hB9
      have HO9 := Lib.hid hO9
      clear hB8 hT8 hO8 hb9 hB9 hT9 hO9 hP
      have hDl : D.length = 75 + pl.length := by rw [HD.out]; exact data_len sumL_len ⟨K, N, i, dl, pl⟩ HMAY.out.2.2.2.1
      have HDL := Lib.hid hDl
      have hd0 : (0 : Int) < (D.length : Int) := by omega
      have hd1 : (D.length : Int) ≤ 20075 := by omega
      clear hDl
      obtain ⟨k, hkk, hkl⟩ : ∃ k : Nat, wrap64 ((IntKind.u64.wrap at_).tmod (D.length : Int)) = (k : Int) ∧ k < D.length := by
        rw [IntKind.wrap_u64]
        have h0 : 0 ≤ at_ % 18446744073709551616 := Int.emod_nonneg _ (by decide)
        rw [Int.tmod_eq_emod_of_nonneg h0]
        have h1 := Int.emod_nonneg (at_ % 18446744073709551616) (show (D.length : Int) ≠ 0 by omega)
        have h2 := Int.emod_lt_of_pos (at_ % 18446744073709551616) hd0
        generalize at_ % 18446744073709551616 % (D.length : Int) = z at *
        refine ⟨z.toNat, ?_, by omega⟩
        rw [IntWalk.wrap64_in z (by omega)]; omega
      go_wp2_with fail
      rw [Lib.run_convert_string_bytes _ 9 43 5 ⟨D.toArray⟩ Tryd.underlying9 Tryd.underlying43 Tryd.underlying5]
      simp only [Result.andThen]
      rw [Oper.upon_value]
      rw [hkk]
      clear hkk c0 c1 c2 c3 c4 s0 s1 s2 s3 s4
      have hbb := Lib.bytesWorld_below w9 5 ⟨D.toArray⟩
      obtain ⟨r, fz, hbl, hfz⟩ : ∃ r fz, FBlk (Lib.bytesWorld w9 5 ⟨D.toArray⟩) w9.heap.size 5 (nums D ++ r) fz ∧ D.length ≤ fz.1 := bytes_blk w9 D
      have hB10 := back_keep HB9.out hbb
      have hO10 := HO9.out.below hbb HO9.out.lt
      have htb : tx < w9.heap.size := HO9.out.lt
      have hsz : (⟨D.toArray⟩ : ByteArray).size = D.length := rfl
      rw [hsz]
      have hcap : D.length ≤ grownCap w9 D.length 0 5 := grownCap_ge w9 D.length 0 5
      generalize grownCap w9 D.length 0 5 = cap at *
      clear hsz
      obtain ⟨bb, hbb0⟩ : ∃ bb, bb = w9.heap.size := ⟨_, rfl⟩
      rw [← hbb0] at hbl htb ⊢
      clear hbb0 hbb HB9 HO9 x0 x1
      generalize Lib.bytesWorld w9 5 ⟨D.toArray⟩ = w10 at *
      obtain ⟨d0, hd0'⟩ : ∃ d0, d0 = D[k]'hkl := ⟨_, rfl⟩
      obtain ⟨D1, hD1⟩ : ∃ D1, D1 = D.set k by_ := ⟨_, rfl⟩
      have x0 : w10.cell? ⟨tx, 0, none⟩ = some (.string ⟨X.toArray⟩) := hO10.cell 0
      have bk : w10.cell? ⟨bb, k, none⟩ = some (.int .u8 (d0.toNat : Int)) := by
        rw [hbl.cell k, Array.getElem?_append_left (by rw [nums_size]; exact hkl), nums_get D k hkl, hd0']
      have fk := hbl.frozen k (by omega)
      have hki : (k : Int) < (D.length : Int) := by omega
      have hbl11 : FBlk (w10.setCell ⟨bb, k, none⟩ (.int .u8 (by_.toNat : Int))) bb 5 (nums D1 ++ r) fz := by
        have h := hbl.set_ k (.int .u8 (by_.toNat : Int))
        rw [hD1, ← nums_set D k by_]
        have e : (nums D ++ r).setIfInBounds k (.int .u8 (by_.toNat : Int)) = (nums D).setIfInBounds k (.int .u8 (by_.toNat : Int)) ++ r := by
          rw [Array.setIfInBounds_append_left (by rw [nums_size]; exact hkl)]
        rw [← e]
        exact h
      have hl1 : D1.length = D.length := by rw [hD1, List.length_set]
      have hcv := run_text' (P := Tryd.prog) (src := 43) (e := 5) (dst := 9) (cap := cap) Tryd.underlying43 Tryd.underlying5 Tryd.underlying9 hbl11
      rw [hl1] at hcv
      have hne : tx ≠ bb := by omega
      have hO11 := hO10.far (p := ⟨bb, k, none⟩) hne (.int .u8 (by_.toNat : Int))
      have hbn0 : n0 < bb := by omega
      have hB11 : BackIn n0 n1 K N dl i pl nm da w (w10.setCell ⟨bb, k, none⟩ (.int .u8 (by_.toNat : Int))) := by
        refine ⟨hB10.1.far (p := ⟨bb, k, none⟩) (by show n0 ≠ bb; omega) _, hB10.2.1.far (p := ⟨bb, k, none⟩) (by show n1 ≠ bb; omega) _, hB10.2.2.setCell (p := ⟨bb, k, none⟩) ?_ _⟩
        have hh := HN0.out
        rw [← hh]; show n0 ≤ bb; omega
      have x1 : (w10.setCell ⟨bb, k, none⟩ (.int .u8 (by_.toNat : Int))).cell? ⟨tx, 0, none⟩ = some (.string ⟨X.toArray⟩) := hO11.cell 0
      have HD0 := Lib.hid hd0'
      have HD1 := Lib.hid hD1
      have HL1 := Lib.hid hl1
      have HB11 := Lib.hid hB11
      have HO11 := Lib.hid hO11
      have HBL := Lib.hid hbl11
      clear hd0' hD1 hl1 hB11 hO11 hbl11 hB10 hO10 hbl
      go_wp2_with fail
      clear x0 x1 bk fk hki hcv hfz
      generalize w10.setCell ⟨bb, k, none⟩ (.int .u8 (by_.toNat : Int)) = w11 at *
      refine (readL_any X D1 w11 (HV00.out.below HB11.out.2.2)).mono ?_
      rintro e w12 ⟨he, hb12⟩
      obtain ⟨t1, c1, hc1, rfl⟩ : ∃ (t : Shard) (c : Int), ((c = 0 ∧ Looks sumL X D1) ∨ (c = 4 ∧ ¬ Looks sumL X D1)) ∧ e = .returned (.tuple #[.agg #[.int .i64 t.K, .int .i64 t.N, .string ⟨t.dig.toArray⟩, .int .i64 t.idx, .string ⟨t.pay.toArray⟩], .int .i64 c]) := by
        rcases he with ⟨h, rfl⟩ | ⟨h, rfl⟩
        · exact ⟨readS D1, 0, .inl ⟨rfl, h⟩, rfl⟩
        · exact ⟨⟨0, 0, 0, [], []⟩, 4, .inr ⟨rfl, h⟩, rfl⟩
      have HC1 := Lib.hid hc1
      have ht12 : TurnIn n0 n1 K N dl i pl nm da w tx X D bb (nums D1 ++ r) fz w12 := ⟨back_keep HB11.out hb12, HO11.out.below hb12 HO11.out.lt, HBL.out.below hb12 HBL.out.lt⟩
      have HT12 := Lib.hid ht12
      clear he hc1 hb12 ht12 HB11 HO11 HBL
      go_wp2_with fail
      go_cut [22] (fun s22 wx => s22 = .int .i64 4 ∧ TurnIn n0 n1 K N dl i pl nm da w tx X D bb (nums D1 ++ r) fz wx)
      case first =>
        have h20 : HoldX tx X D w12.drew := HT12.out.drew.hold
        have H20 := Lib.hid h20
        have hvw : Vars w12.drew := HV00.out.below HT12.out.1.2.2.drew
        have HVW := Lib.hid hvw
        have hkd : (k : Int) ≤ (D.length : Int) := by omega
        have hR20 : ∀ W, Vars W → Calls Tryd.prog 11 #[.agg #[.string ⟨X.toArray⟩, .string ((⟨D.toArray⟩ : ByteArray).extract 0 k)]] W fun e w' => e = .returned (.tuple #[.agg #[.int .i64 0, .int .i64 0, .string ⟨[].toArray⟩, .int .i64 0, .string ⟨[].toArray⟩], .int .i64 4]) ∧ Below W.heap.size W w' := fun W hv => by
          rw [ext_mk]
          refine (readL_any X (D.take k) W hv).mono ?_
          rintro e w' ⟨he, hb⟩
          rcases he with ⟨h, rfl⟩ | ⟨h, rfl⟩
          · exact absurd h (less_not sumL_len HSD.out k hkl)
          · exact ⟨rfl, hb⟩
        have HR20 := Lib.hid hR20
        clear h20 hvw hR20
        refine startN (S := HoldX tx X D) 14 #[false, false, false, false, false, false, false, false, false, false, false, false, false, false] (by kernel_rfl) (by kernel_rfl) (by kernel_rfl) H20.out (fun hS => ?_)
        refine takeH 0 (some 148) #[true, false, false, false, false, false, false, false, false, false, false, false, false, false] rfl rfl (by kernel_rfl) (by kernel_rfl) (by kernel_rfl) (by kernel_rfl) (fun _ _ _ h => h) (by rfl) (v := ?_) ?_ (by assumption) ?_
        rotate_left
        · (intro w hSw; obtain ⟨s0, s1⟩ := hSw; go_simp; try with_reducible rfl)
        simp only [Act.put, List.setIfInBounds_toArray, List.set_cons_zero, List.set_cons_succ]
        refine takeH 1 (some 149) #[true, true, false, false, false, false, false, false, false, false, false, false, false, false] rfl rfl (by kernel_rfl) (by kernel_rfl) (by kernel_rfl) (by kernel_rfl) (fun _ _ _ h => h) (by rfl) (v := ?_) ?_ (by assumption) ?_
        rotate_left
        · (intro w hSw; obtain ⟨s0, s1⟩ := hSw; go_simp; try with_reducible rfl)
        simp only [Act.put, List.setIfInBounds_toArray, List.set_cons_zero, List.set_cons_succ]
        refine takeH 2 (some 150) #[true, true, true, false, false, false, false, false, false, false, false, false, false, false] rfl rfl (by kernel_rfl) (by kernel_rfl) (by kernel_rfl) (by kernel_rfl) (fun _ _ _ h => h) (by rfl) (v := ?_) ?_ (by assumption) ?_
        rotate_left
        · (intro w hSw; obtain ⟨s0, s1⟩ := hSw; go_simp; try with_reducible rfl)
        simp only [Act.put, List.setIfInBounds_toArray, List.set_cons_zero, List.set_cons_succ]
        refine takeH 3 (some 151) #[true, true, true, true, false, false, false, false, false, false, false, false, false, false] rfl rfl (by kernel_rfl) (by kernel_rfl) (by kernel_rfl) (by kernel_rfl) (fun _ _ _ h => h) (by rfl) (v := ?_) ?_ (by assumption) ?_
        rotate_left
        · (intro w hSw; obtain ⟨s0, s1⟩ := hSw; go_simp; try with_reducible rfl)
        simp only [Act.put, List.setIfInBounds_toArray, List.set_cons_zero, List.set_cons_succ]
        refine takeH 4 (some 152) #[true, true, true, true, true, false, false, false, false, false, false, false, false, false] rfl rfl (by kernel_rfl) (by kernel_rfl) (by kernel_rfl) (by kernel_rfl) (fun _ _ _ h => h) (by rfl) (v := ?_) ?_ (by assumption) ?_
        rotate_left
        · (intro w hSw; obtain ⟨s0, s1⟩ := hSw; go_simp; try with_reducible rfl)
        simp only [Act.put, List.setIfInBounds_toArray, List.set_cons_zero, List.set_cons_succ]
        refine takeH 5 (some 153) #[true, true, true, true, true, true, false, false, false, false, false, false, false, false] rfl rfl (by kernel_rfl) (by kernel_rfl) (by kernel_rfl) (by kernel_rfl) (fun _ _ _ h => h) (by rfl) (v := ?_) ?_ (by assumption) ?_
        rotate_left
        · (intro w hSw; obtain ⟨s0, s1⟩ := hSw; go_simp; try with_reducible rfl)
        simp only [Act.put, List.setIfInBounds_toArray, List.set_cons_zero, List.set_cons_succ]
        refine takeH 6 (some 154) #[true, true, true, true, true, true, true, false, false, false, false, false, false, false] rfl rfl (by kernel_rfl) (by kernel_rfl) (by kernel_rfl) (by kernel_rfl) (fun _ _ _ h => h) (by rfl) (v := ?_) ?_ (by assumption) ?_
        rotate_left
        · (intro w hSw; obtain ⟨s0, s1⟩ := hSw; go_simp; try with_reducible rfl)
        simp only [Act.put, List.setIfInBounds_toArray, List.set_cons_zero, List.set_cons_succ]
        refine twoH 7 11 #[true, true, true, true, true, true, true, true, false, false, false, false, false, false] #[true, true, true, true, true, true, true, false, false, false, false, true, false, false] rfl rfl (by kernel_rfl) (by kernel_rfl) (by kernel_rfl) (by rfl) (by rfl) (fun K hK => ?_) (fun K hK => ?_)
        · go_simp
          go_wp2_with (go_at_call 11; refine (HR20.out _ HVW.out).mono ?_; rintro e w21 ⟨rfl, hb21⟩)
          refine hK.out _ _ (HoldX.keep (by assumption) hb21) (fun hS => ?_)
          clear hK K
          refine takeH 8 (some 147) #[true, true, true, true, true, true, true, true, true, false, false, false, false, false] rfl rfl (by kernel_rfl) (by kernel_rfl) (by kernel_rfl) (by kernel_rfl) (fun _ _ _ h => h) (by rfl) (v := ?_) ?_ (by assumption) ?_
          rotate_left
          · (intro w hSw; obtain ⟨s0, s1⟩ := hSw; go_simp; try with_reducible rfl)
          simp only [Act.put, List.setIfInBounds_toArray, List.set_cons_zero, List.set_cons_succ]
          refine takeH 9 (some 156) #[true, true, true, true, true, true, true, true, true, true, false, false, false, false] rfl rfl (by kernel_rfl) (by kernel_rfl) (by kernel_rfl) (by kernel_rfl) (fun _ _ _ h => h) (by rfl) (v := ?_) ?_ (by assumption) ?_
          rotate_left
          · (intro w hSw; obtain ⟨s0, s1⟩ := hSw; go_simp; try with_reducible rfl)
          simp only [Act.put, List.setIfInBounds_toArray, List.set_cons_zero, List.set_cons_succ]
          refine takeH 10 (some 157) #[true, true, true, true, true, true, true, true, true, true, true, false, false, false] rfl rfl (by kernel_rfl) (by kernel_rfl) (by kernel_rfl) (by kernel_rfl) (fun _ _ _ h => h) (by rfl) (v := ?_) ?_ (by assumption) ?_
          rotate_left
          · (intro w hSw; obtain ⟨s0, s1⟩ := hSw; go_simp; try with_reducible rfl)
          simp only [Act.put, List.setIfInBounds_toArray, List.set_cons_zero, List.set_cons_succ]
          refine oneH 11 #[true, true, true, true, true, true, true, true, true, true, true, true, false, false] rfl (by kernel_rfl) (by kernel_rfl) (by rfl) (fun K hK => ?_)
          go_simp
          refine hK.out _ _ (HoldX.keep (by assumption) ((Below.refl _ _).alloc (Nat.le_refl _) _)) (fun hS => ?_)
          clear hK K
          have hT21 := HT12.out.drew.keep hb21
          have hG := Blk.new w21 25 #[.int .i64 0, .int .i64 0, .string ⟨[].toArray⟩, .int .i64 0, .string ⟨[].toArray⟩]
          obtain ⟨g, hg0⟩ : ∃ g, g = w21.heap.size := ⟨_, rfl⟩
          rw [← hg0] at hG ⊢
          have hg1 : n1 < g := by rw [hg0]; exact hT21.1.2.1.lt
          have hgx : tx < g := by rw [hg0]; exact hT21.2.1.lt
          have hgb : bb < g := by rw [hg0]; exact hT21.2.2.lt
          have hgw : w.heap.size ≤ g := by rw [hg0]; exact hT21.1.2.2.size
          replace hT21 := hT21.alloc (.cells #[.int .i64 0, .int .i64 0, .string ⟨[].toArray⟩, .int .i64 0, .string ⟨[].toArray⟩] 25)
          clear hg0
          generalize w21.alloc (.cells #[.int .i64 0, .int .i64 0, .string ⟨[].toArray⟩, .int .i64 0, .string ⟨[].toArray⟩] 25) = W at *
          have hT22 := hT21.five (g := g) (by omega) hg1 hgx hgb hgw (.int .i64 0) (.int .i64 0) (.string ⟨[].toArray⟩) (.int .i64 0) (.string ⟨[].toArray⟩)
          have HT22 := Lib.hid hT22
          have s0 : W.cell? ⟨g, 0, none⟩ = some (.int .i64 0) := hG.cell 0
          have s1 : W.cell? ⟨g, 1, none⟩ = some (.int .i64 0) := hG.cell 1
          have s2 : W.cell? ⟨g, 2, none⟩ = some (.string ⟨[].toArray⟩) := hG.cell 2
          have s3 : W.cell? ⟨g, 3, none⟩ = some (.int .i64 0) := hG.cell 3
          have s4 : W.cell? ⟨g, 4, none⟩ = some (.string ⟨[].toArray⟩) := hG.cell 4
          have q0 := hG.frozen 0
          have q1 := hG.frozen 1
          have q2 := hG.frozen 2
          have q3 := hG.frozen 3
          have q4 := hG.frozen 4
          clear hT21 hG hT22
          refine oneH 12 #[true, true, true, true, true, true, true, true, true, true, true, true, true, false] rfl (by kernel_rfl) (by kernel_rfl) (by rfl) (fun K hK => ?_)
          go_simp
          refine hK.out _ _ HT22.out.hold (fun hS => ?_)
          clear hK K
          refine takeH 13 (some 22) #[true, true, true, true, true, true, true, true, true, true, true, true, true, true] rfl rfl (by kernel_rfl) (by kernel_rfl) (by kernel_rfl) (by kernel_rfl) (fun _ _ _ h => h) (by rfl) (v := ?_) ?_ (by assumption) ?_
          rotate_left
          · (intro w hSw; obtain ⟨s0, s1⟩ := hSw; go_simp; try with_reducible rfl)
          simp only [Act.put, List.setIfInBounds_toArray, List.set_cons_zero, List.set_cons_succ]
          refine wpAnyH_done (by kernel_rfl) ?_ _
          go_wp2_with fail
          go_meet
          exact ⟨rfl, HT22.out⟩
        · go_simp
          refine hK.out _ _ (HoldX.keep (by assumption) ((Below.refl _ _).alloc (Nat.le_refl _) _)) (fun hS => ?_)
          clear hK K
          refine oneH 7 #[true, true, true, true, true, true, true, true, false, false, false, true, false, false] rfl (by kernel_rfl) (by kernel_rfl) (by rfl) (fun K hK => ?_)
          go_simp
          go_wp2_with (go_at_call 11; refine (HR20.out _ (HVW.out.below ((Below.refl _ _).alloc (Nat.le_refl _) _))).mono ?_; rintro e w21 ⟨rfl, hb21⟩)
          refine hK.out _ _ (HoldX.keep (by assumption) hb21) (fun hS => ?_)
          clear hK K
          refine takeH 8 (some 147) #[true, true, true, true, true, true, true, true, true, false, false, true, false, false] rfl rfl (by kernel_rfl) (by kernel_rfl) (by kernel_rfl) (by kernel_rfl) (fun _ _ _ h => h) (by rfl) (v := ?_) ?_ (by assumption) ?_
          rotate_left
          · (intro w hSw; obtain ⟨s0, s1⟩ := hSw; go_simp; try with_reducible rfl)
          simp only [Act.put, List.setIfInBounds_toArray, List.set_cons_zero, List.set_cons_succ]
          refine takeH 9 (some 156) #[true, true, true, true, true, true, true, true, true, true, false, true, false, false] rfl rfl (by kernel_rfl) (by kernel_rfl) (by kernel_rfl) (by kernel_rfl) (fun _ _ _ h => h) (by rfl) (v := ?_) ?_ (by assumption) ?_
          rotate_left
          · (intro w hSw; obtain ⟨s0, s1⟩ := hSw; go_simp; try with_reducible rfl)
          simp only [Act.put, List.setIfInBounds_toArray, List.set_cons_zero, List.set_cons_succ]
          refine takeH 10 (some 157) #[true, true, true, true, true, true, true, true, true, true, true, true, false, false] rfl rfl (by kernel_rfl) (by kernel_rfl) (by kernel_rfl) (by kernel_rfl) (fun _ _ _ h => h) (by rfl) (v := ?_) ?_ (by assumption) ?_
          rotate_left
          · (intro w hSw; obtain ⟨s0, s1⟩ := hSw; go_simp; try with_reducible rfl)
          simp only [Act.put, List.setIfInBounds_toArray, List.set_cons_zero, List.set_cons_succ]
          have hT21 := (HT12.out.drew.alloc (.cells #[.int .i64 0, .int .i64 0, .string ⟨[].toArray⟩, .int .i64 0, .string ⟨[].toArray⟩] 25)).keep hb21
          have hG := (Blk.new w12.drew 25 #[.int .i64 0, .int .i64 0, .string ⟨[].toArray⟩, .int .i64 0, .string ⟨[].toArray⟩]).below hb21 (by simp)
          obtain ⟨g, hg0⟩ : ∃ g, g = w12.heap.size := ⟨_, rfl⟩
          change Blk w21 w12.heap.size _ _ at hG
          rw [← hg0] at hG ⊢
          have hg1 : n1 < g := by rw [hg0]; exact HT12.out.1.2.1.lt
          have hgx : tx < g := by rw [hg0]; exact HT12.out.2.1.lt
          have hgb : bb < g := by rw [hg0]; exact HT12.out.2.2.lt
          have hgw : w.heap.size ≤ g := by rw [hg0]; exact HT12.out.1.2.2.size
          clear hg0 hb21
          generalize w21 = W at *
          have hT22 := hT21.five (g := g) (by omega) hg1 hgx hgb hgw (.int .i64 0) (.int .i64 0) (.string ⟨[].toArray⟩) (.int .i64 0) (.string ⟨[].toArray⟩)
          have HT22 := Lib.hid hT22
          have s0 : W.cell? ⟨g, 0, none⟩ = some (.int .i64 0) := hG.cell 0
          have s1 : W.cell? ⟨g, 1, none⟩ = some (.int .i64 0) := hG.cell 1
          have s2 : W.cell? ⟨g, 2, none⟩ = some (.string ⟨[].toArray⟩) := hG.cell 2
          have s3 : W.cell? ⟨g, 3, none⟩ = some (.int .i64 0) := hG.cell 3
          have s4 : W.cell? ⟨g, 4, none⟩ = some (.string ⟨[].toArray⟩) := hG.cell 4
          have q0 := hG.frozen 0
          have q1 := hG.frozen 1
          have q2 := hG.frozen 2
          have q3 := hG.frozen 3
          have q4 := hG.frozen 4
          clear hT21 hG hT22
          refine oneH 12 #[true, true, true, true, true, true, true, true, true, true, true, true, true, false] rfl (by kernel_rfl) (by kernel_rfl) (by rfl) (fun K hK => ?_)
          go_simp
          refine hK.out _ _ HT22.out.hold (fun hS => ?_)
          clear hK K
          refine takeH 13 (some 22) #[true, true, true, true, true, true, true, true, true, true, true, true, true, true] rfl rfl (by kernel_rfl) (by kernel_rfl) (by kernel_rfl) (by kernel_rfl) (fun _ _ _ h => h) (by rfl) (v := ?_) ?_ (by assumption) ?_
          rotate_left
          · (intro w hSw; obtain ⟨s0, s1⟩ := hSw; go_simp; try with_reducible rfl)
          simp only [Act.put, List.setIfInBounds_toArray, List.set_cons_zero, List.set_cons_succ]
          refine wpAnyH_done (by kernel_rfl) ?_ _
          go_wp2_with fail
          go_meet
          exact ⟨rfl, HT22.out⟩
      case rest =>
        obtain ⟨rfl, hT⟩ := hcut
        have HT := Lib.hid hT
        clear hT HT12
        have ht13 := HT.out.alloc (.cells #[.int .u8 (by_.toNat : Int)] 5)
        have hcv2 := run_text (P := Tryd.prog) (src := 43) (e := 5) (dst := 9) (cap := 1) (l := [by_]) (r := #[]) Tryd.underlying43 Tryd.underlying5 Tryd.underlying9 (by simpa [nums] using Blk.new wc 5 #[.int .u8 (by_.toNat : Int)])
        simp only [List.length_cons, List.length_nil, Nat.zero_add] at hcv2
        have x0 : wc.cell? ⟨tx, 0, none⟩ = some (.string ⟨X.toArray⟩) := HT.out.hold.1
        have x1 : wc.cell? ⟨tx, 1, none⟩ = some (.string ⟨D.toArray⟩) := HT.out.hold.2
        have HT13 := Lib.hid ht13
        clear ht13 HT
        go_wp2_with fail
        clear hcv2 x0 x1
        generalize wc.alloc (.cells #[.int .u8 (by_.toNat : Int)] 5) = w13 at *
        rw [ba_append]
        refine (readL_any X (D ++ [by_]) w13 (HV00.out.below HT13.out.1.2.2)).mono ?_
        rintro e w14 ⟨he, hb14⟩
        replace he := he.resolve_left (fun h => more_not sumL_len HSD.out by_ h.1)
        obtain ⟨hno, he⟩ := he
        change e = .returned (.tuple #[.agg #[.int .i64 0, .int .i64 0, .string ⟨[].toArray⟩, .int .i64 0, .string ⟨[].toArray⟩], .int .i64 4]) at he
        subst he
        have ht15 := (HT13.out.keep hb14).alloc (.cells #[.int .i64 0, .int .i64 0, .string ⟨[].toArray⟩, .int .i64 0, .string ⟨[].toArray⟩] 25)
        have hXl : X.length + 1 ≤ 9223372036854775807 := by
          have h := name_le dl i (by omega) HI.out
          rw [← HX.out] at h
          exact Nat.le_trans (Nat.succ_le_succ h) (by decide)
        have x0 := ht15.hold.1
        have x1 := ht15.hold.2
        have HT15 := Lib.hid ht15
        clear ht15 HT13 hb14 hno
        go_wp2_with fail
        clear x0 x1
        generalize w14.alloc (.cells #[.int .i64 0, .int .i64 0, .string ⟨[].toArray⟩, .int .i64 0, .string ⟨[].toArray⟩] 25) = w15 at *
        rw [ba_append' X #[48]]
        refine (readL_any (X ++ [48]) D w15 (HV00.out.below HT15.out.1.2.2)).mono ?_
        rintro e w16 ⟨he, hb16⟩
        replace he := he.resolve_left (fun h => name_not sumL_len HSD.out 48 h.1)
        obtain ⟨hno, he⟩ := he
        change e = .returned (.tuple #[.agg #[.int .i64 0, .int .i64 0, .string ⟨[].toArray⟩, .int .i64 0, .string ⟨[].toArray⟩], .int .i64 4]) at he
        subst he
        have ht17 := (HT15.out.keep hb16).alloc (.cells #[.int .i64 0, .int .i64 0, .string ⟨[].toArray⟩, .int .i64 0, .string ⟨[].toArray⟩] 25)
        have x1 := ht17.hold.2
        obtain ⟨cc, hcc⟩ : ∃ cc, cc = D.length - 32 := ⟨_, rfl⟩
        have hcw : IntKind.i64.wrap ((D.length : Int) - 32) = (cc : Int) := by rw [IntWalk.i64_in _ (by have := HDL.out; omega)]; have := HDL.out; omega
        have HT17 := Lib.hid ht17
        have HCC := Lib.hid hcc
        clear ht17 HT15 hb16 hno hcc
        go_wp2_with fail
        generalize w16.alloc (.cells #[.int .i64 0, .int .i64 0, .string ⟨[].toArray⟩, .int .i64 0, .string ⟨[].toArray⟩] 25) = w17 at *
        have h24 : HoldZ tx X D bb (nums D1 ++ r) fz w17.drew := ⟨HT17.out.drew.hold, HT17.out.drew.2.2⟩
        have H24 := Lib.hid h24
        have hfin : Below w.heap.size w w17.drew := HT17.out.drew.1.2.2
        have HF := Lib.hid hfin
        clear h24 hfin x1 hcw
        by_cases hdb : d0 = by_
        · -- the byte is the same
          have hc0 : c1 = 0 := by
            rcases HC1.out with ⟨h, _⟩ | ⟨_, h⟩
            · exact h
            · refine absurd ?_ h
              have e : D1 = D := by rw [HD1.out, ← hdb, HD0.out]; exact set_same D k hkl
              rw [e]; exact sound_looks sumL_len HSD.out
          subst hc0
          subst hdb
          refine startN (S := HoldZ tx X D bb (nums D1 ++ r) fz) 29 #[false, false, false, false, false, false, false, false, false, false, false, false, false, false, false, false, false, false, false, false, false, false, false, false, false, false, false, false, false] (by kernel_rfl) (by kernel_rfl) (by kernel_rfl) H24.out (fun hS => ?_)
          refine takeH 0 (some 185) #[true, false, false, false, false, false, false, false, false, false, false, false, false, false, false, false, false, false, false, false, false, false, false, false, false, false, false, false, false] rfl rfl (by kernel_rfl) (by kernel_rfl) (by kernel_rfl) (by kernel_rfl) (fun _ _ _ h => h) (by rfl) (v := ?_) ?_ (by assumption) ?_
          rotate_left
          · (intro w hSw; obtain ⟨⟨s0, s1⟩, -⟩ := hSw; go_simp; try with_reducible rfl)
          simp only [Act.put, List.setIfInBounds_toArray, List.set_cons_zero, List.set_cons_succ]
          refine takeH 1 (some 186) #[true, true, false, false, false, false, false, false, false, false, false, false, false, false, false, false, false, false, false, false, false, false, false, false, false, false, false, false, false] rfl rfl (by kernel_rfl) (by kernel_rfl) (by kernel_rfl) (by kernel_rfl) (fun _ _ _ h => h) (by rfl) (v := ?_) ?_ (by assumption) ?_
          rotate_left
          · (intro w hSw; obtain ⟨⟨s0, s1⟩, -⟩ := hSw; go_simp; try with_reducible rfl)
          simp only [Act.put, List.setIfInBounds_toArray, List.set_cons_zero, List.set_cons_succ]
          refine takeH 2 (some 187) #[true, true, true, false, false, false, false, false, false, false, false, false, false, false, false, false, false, false, false, false, false, false, false, false, false, false, false, false, false] rfl rfl (by kernel_rfl) (by kernel_rfl) (by kernel_rfl) (by kernel_rfl) (fun _ _ _ h => h) (by rfl) (v := ?_) ?_ (by assumption) ?_
          rotate_left
          · (intro w hSw; obtain ⟨⟨s0, s1⟩, -⟩ := hSw; go_simp; try with_reducible rfl)
          simp only [Act.put, List.setIfInBounds_toArray, List.set_cons_zero, List.set_cons_succ]
          refine takeH 3 (some 188) #[true, true, true, true, false, false, false, false, false, false, false, false, false, false, false, false, false, false, false, false, false, false, false, false, false, false, false, false, false] rfl rfl (by kernel_rfl) (by kernel_rfl) (by kernel_rfl) (by kernel_rfl) (fun _ _ _ h => h) (by rfl) (v := ?_) ?_ (by assumption) ?_
          rotate_left
          · (intro w hSw; obtain ⟨⟨s0, s1⟩, -⟩ := hSw; go_simp; try with_reducible rfl)
          simp only [Act.put, List.setIfInBounds_toArray, List.set_cons_zero, List.set_cons_succ]
          refine passH 4 (some 189) #[true, true, true, true, true, false, false, false, false, false, false, false, false, false, false, false, false, false, false, false, false, false, false, false, false, false, false, false, false] rfl rfl (by kernel_rfl) (by kernel_rfl) (by kernel_rfl) (by kernel_rfl) (fun _ _ _ h => h) (by rfl) (by assumption) ?_
          simp only [Act.put, List.setIfInBounds_toArray, List.set_cons_zero, List.set_cons_succ]
          refine passH 5 (some 190) #[true, true, true, true, true, true, false, false, false, false, false, false, false, false, false, false, false, false, false, false, false, false, false, false, false, false, false, false, false] rfl rfl (by kernel_rfl) (by kernel_rfl) (by kernel_rfl) (by kernel_rfl) (fun _ _ _ h => h) (by rfl) (by assumption) ?_
          simp only [Act.put, List.setIfInBounds_toArray, List.set_cons_zero, List.set_cons_succ]
          refine takeH 6 (some 191) #[true, true, true, true, true, true, true, false, false, false, false, false, false, false, false, false, false, false, false, false, false, false, false, false, false, false, false, false, false] rfl rfl (by kernel_rfl) (by kernel_rfl) (by kernel_rfl) (by kernel_rfl) (fun _ _ _ h => h) (by rfl) (v := ?_) ?_ (by assumption) ?_
          rotate_left
          · (intro w hSw; obtain ⟨⟨s0, s1⟩, -⟩ := hSw; go_simp; try with_reducible rfl)
          simp only [Act.put, List.setIfInBounds_toArray, List.set_cons_zero, List.set_cons_succ]
          refine takeH 7 (some 192) #[true, true, true, true, true, true, true, true, false, false, false, false, false, false, false, false, false, false, false, false, false, false, false, false, false, false, false, false, false] rfl rfl (by kernel_rfl) (by kernel_rfl) (by kernel_rfl) (by kernel_rfl) (fun _ _ _ h => h) (by rfl) (v := ?_) ?_ (by assumption) ?_
          rotate_left
          · (intro w hSw; obtain ⟨⟨s0, s1⟩, -⟩ := hSw; go_simp; try with_reducible rfl)
          simp only [Act.put, List.setIfInBounds_toArray, List.set_cons_zero, List.set_cons_succ]
          refine passH 8 (some 193) #[true, true, true, true, true, true, true, true, true, false, false, false, false, false, false, false, false, false, false, false, false, false, false, false, false, false, false, false, false] rfl rfl (by kernel_rfl) (by kernel_rfl) (by kernel_rfl) (by kernel_rfl) (fun _ _ _ h => h) (by rfl) (by assumption) ?_
          simp only [Act.put, List.setIfInBounds_toArray, List.set_cons_zero, List.set_cons_succ]
          refine passH 9 (some 194) #[true, true, true, true, true, true, true, true, true, true, false, false, false, false, false, false, false, false, false, false, false, false, false, false, false, false, false, false, false] rfl rfl (by kernel_rfl) (by kernel_rfl) (by kernel_rfl) (by kernel_rfl) (fun _ _ _ h => h) (by rfl) (by assumption) ?_
          simp only [Act.put, List.setIfInBounds_toArray, List.set_cons_zero, List.set_cons_succ]
          refine takeH 10 (some 195) #[true, true, true, true, true, true, true, true, true, true, true, false, false, false, false, false, false, false, false, false, false, false, false, false, false, false, false, false, false] rfl rfl (by kernel_rfl) (by kernel_rfl) (by kernel_rfl) (by kernel_rfl) (fun _ _ _ h => h) (by rfl) (v := ?_) ?_ (by assumption) ?_
          rotate_left
          · (intro w hSw; obtain ⟨⟨s0, s1⟩, -⟩ := hSw; go_simp; try with_reducible rfl)
          simp only [Act.put, List.setIfInBounds_toArray, List.set_cons_zero, List.set_cons_succ]
          refine takeH 11 (some 196) #[true, true, true, true, true, true, true, true, true, true, true, true, false, false, false, false, false, false, false, false, false, false, false, false, false, false, false, false, false] rfl rfl (by kernel_rfl) (by kernel_rfl) (by kernel_rfl) (by kernel_rfl) (fun _ _ _ h => h) (by rfl) (v := ?_) ?_ (by assumption) ?_
          rotate_left
          · (intro w hSw; obtain ⟨⟨s0, s1⟩, -⟩ := hSw; go_simp; try with_reducible rfl)
          simp only [Act.put, List.setIfInBounds_toArray, List.set_cons_zero, List.set_cons_succ]
          refine passH 12 (some 197) #[true, true, true, true, true, true, true, true, true, true, true, true, true, false, false, false, false, false, false, false, false, false, false, false, false, false, false, false, false] rfl rfl (by kernel_rfl) (by kernel_rfl) (by kernel_rfl) (by kernel_rfl) (fun _ _ _ h => h) (by rfl) (by assumption) ?_
          simp only [Act.put, List.setIfInBounds_toArray, List.set_cons_zero, List.set_cons_succ]
          refine passH 13 (some 198) #[true, true, true, true, true, true, true, true, true, true, true, true, true, true, false, false, false, false, false, false, false, false, false, false, false, false, false, false, false] rfl rfl (by kernel_rfl) (by kernel_rfl) (by kernel_rfl) (by kernel_rfl) (fun _ _ _ h => h) (by rfl) (by assumption) ?_
          simp only [Act.put, List.setIfInBounds_toArray, List.set_cons_zero, List.set_cons_succ]
          refine passH 14 (some 199) #[true, true, true, true, true, true, true, true, true, true, true, true, true, true, true, false, false, false, false, false, false, false, false, false, false, false, false, false, false] rfl rfl (by kernel_rfl) (by kernel_rfl) (by kernel_rfl) (by kernel_rfl) (fun _ _ _ h => h) (by rfl) (by assumption) ?_
          simp only [Act.put, List.setIfInBounds_toArray, List.set_cons_zero, List.set_cons_succ]
          refine takeH 15 (some 200) #[true, true, true, true, true, true, true, true, true, true, true, true, true, true, true, true, false, false, false, false, false, false, false, false, false, false, false, false, false] rfl rfl (by kernel_rfl) (by kernel_rfl) (by kernel_rfl) (by kernel_rfl) (fun _ _ _ h => h) (by rfl) (v := ?_) ?_ (by assumption) ?_
          rotate_left
          · (intro w hSw; obtain ⟨⟨s0, s1⟩, -⟩ := hSw; go_simp; try with_reducible rfl)
          simp only [Act.put, List.setIfInBounds_toArray, List.set_cons_zero, List.set_cons_succ]
          refine takeH 16 (some 201) #[true, true, true, true, true, true, true, true, true, true, true, true, true, true, true, true, true, false, false, false, false, false, false, false, false, false, false, false, false] rfl rfl (by kernel_rfl) (by kernel_rfl) (by kernel_rfl) (by kernel_rfl) (fun _ _ _ h => h) (by rfl) (v := ?_) ?_ (by assumption) ?_
          rotate_left
          · (intro w hSw; obtain ⟨⟨s0, s1⟩, -⟩ := hSw; go_simp; try with_reducible rfl)
          simp only [Act.put, List.setIfInBounds_toArray, List.set_cons_zero, List.set_cons_succ]
          refine passH 17 (some 202) #[true, true, true, true, true, true, true, true, true, true, true, true, true, true, true, true, true, true, false, false, false, false, false, false, false, false, false, false, false] rfl rfl (by kernel_rfl) (by kernel_rfl) (by kernel_rfl) (by kernel_rfl) (fun _ _ _ h => h) (by rfl) (by assumption) ?_
          simp only [Act.put, List.setIfInBounds_toArray, List.set_cons_zero, List.set_cons_succ]
          refine passH 18 (some 203) #[true, true, true, true, true, true, true, true, true, true, true, true, true, true, true, true, true, true, true, false, false, false, false, false, false, false, false, false, false] rfl rfl (by kernel_rfl) (by kernel_rfl) (by kernel_rfl) (by kernel_rfl) (fun _ _ _ h => h) (by rfl) (by assumption) ?_
          simp only [Act.put, List.setIfInBounds_toArray, List.set_cons_zero, List.set_cons_succ]
          refine passH 19 (some 204) #[true, true, true, true, true, true, true, true, true, true, true, true, true, true, true, true, true, true, true, true, false, false, false, false, false, false, false, false, false] rfl rfl (by kernel_rfl) (by kernel_rfl) (by kernel_rfl) (by kernel_rfl) (fun _ _ _ h => h) (by rfl) (by assumption) ?_
          simp only [Act.put, List.setIfInBounds_toArray, List.set_cons_zero, List.set_cons_succ]
          refine passH 20 (some 205) #[true, true, true, true, true, true, true, true, true, true, true, true, true, true, true, true, true, true, true, true, true, false, false, false, false, false, false, false, false] rfl rfl (by kernel_rfl) (by kernel_rfl) (by kernel_rfl) (by kernel_rfl) (fun _ _ _ h => h) (by rfl) (by assumption) ?_
          simp only [Act.put, List.setIfInBounds_toArray, List.set_cons_zero, List.set_cons_succ]
          refine passH 22 (some 207) #[true, true, true, true, true, true, true, true, true, true, true, true, true, true, true, true, true, true, true, true, true, false, true, false, false, false, false, false, false] rfl rfl (by kernel_rfl) (by kernel_rfl) (by kernel_rfl) (by kernel_rfl) (fun _ _ _ h => h) (by rfl) (by assumption) ?_
          simp only [Act.put, List.setIfInBounds_toArray, List.set_cons_zero, List.set_cons_succ]
          refine passH 23 (some 208) #[true, true, true, true, true, true, true, true, true, true, true, true, true, true, true, true, true, true, true, true, true, false, true, true, false, false, false, false, false] rfl rfl (by kernel_rfl) (by kernel_rfl) (by kernel_rfl) (by kernel_rfl) (fun _ _ _ h => h) (by rfl) (by assumption) ?_
          simp only [Act.put, List.setIfInBounds_toArray, List.set_cons_zero, List.set_cons_succ]
          refine passH 24 (some 209) #[true, true, true, true, true, true, true, true, true, true, true, true, true, true, true, true, true, true, true, true, true, false, true, true, true, false, false, false, false] rfl rfl (by kernel_rfl) (by kernel_rfl) (by kernel_rfl) (by kernel_rfl) (fun _ _ _ h => h) (by rfl) (by assumption) ?_
          simp only [Act.put, List.setIfInBounds_toArray, List.set_cons_zero, List.set_cons_succ]
          refine passH 25 (some 210) #[true, true, true, true, true, true, true, true, true, true, true, true, true, true, true, true, true, true, true, true, true, false, true, true, true, true, false, false, false] rfl rfl (by kernel_rfl) (by kernel_rfl) (by kernel_rfl) (by kernel_rfl) (fun _ _ _ h => h) (by rfl) (by assumption) ?_
          simp only [Act.put, List.setIfInBounds_toArray, List.set_cons_zero, List.set_cons_succ]
          refine passH 21 (some 206) #[true, true, true, true, true, true, true, true, true, true, true, true, true, true, true, true, true, true, true, true, true, true, true, true, true, true, false, false, false] rfl rfl (by kernel_rfl) (by kernel_rfl) (by kernel_rfl) (by kernel_rfl) (fun _ _ _ h => h) (by rfl) (by assumption) ?_
          simp only [Act.put, List.setIfInBounds_toArray, List.set_cons_zero, List.set_cons_succ]
          refine passH 26 (some 211) #[true, true, true, true, true, true, true, true, true, true, true, true, true, true, true, true, true, true, true, true, true, true, true, true, true, true, true, false, false] rfl rfl (by kernel_rfl) (by kernel_rfl) (by kernel_rfl) (by kernel_rfl) (fun _ _ _ h => h) (by rfl) (by assumption) ?_
          simp only [Act.put, List.setIfInBounds_toArray, List.set_cons_zero, List.set_cons_succ]
          refine passH 27 (some 212) #[true, true, true, true, true, true, true, true, true, true, true, true, true, true, true, true, true, true, true, true, true, true, true, true, true, true, true, true, false] rfl rfl (by kernel_rfl) (by kernel_rfl) (by kernel_rfl) (by kernel_rfl) (fun _ _ _ h => h) (by rfl) (by assumption) ?_
          simp only [Act.put, List.setIfInBounds_toArray, List.set_cons_zero, List.set_cons_succ]
          refine takeH 28 (some 213) #[true, true, true, true, true, true, true, true, true, true, true, true, true, true, true, true, true, true, true, true, true, true, true, true, true, true, true, true, true] rfl rfl (by kernel_rfl) (by kernel_rfl) (by kernel_rfl) (by kernel_rfl) (fun _ _ _ h => h) (by rfl) (v := ?_) ?_ (by assumption) ?_
          rotate_left
          · (intro w hSw; obtain ⟨⟨s0, s1⟩, -⟩ := hSw; go_simp; try with_reducible rfl)
          simp only [Act.put, List.setIfInBounds_toArray, List.set_cons_zero, List.set_cons_succ]
          refine wpAnyH_done (by kernel_rfl) ?_ _
          go_wp2_with fail
          go_ret
          exact ⟨rfl, HF.out⟩
        · have hq0 : ¬ (d0.toNat = by_.toNat) := fun h => hdb (UInt8.toNat_inj.1 h)
          have hq1 : ¬ ((d0.toNat : Int) = (by_.toNat : Int)) := by omega
          have hq2 : ((d0.toNat : Int) == (by_.toNat : Int)) = false := beq_eq_false_iff_ne.2 hq1
          have hq3 : ((d0.toNat : Int) != (by_.toNat : Int)) = true := bne_iff_ne.2 hq1
          rcases HC1.out with ⟨rfl, hlk⟩ | ⟨rfl, _⟩
          · have hne' : D[k] ≠ by_ := fun h => hdb (HD0.out.trans h)
            obtain ⟨k4, kend, hsum⟩ := byte_sound sumL_len HSD.out k hkl by_ hne' (by rw [← HD1.out]; exact hlk)
            rw [← HD1.out, ← HCC.out] at hsum
            rw [← HCC.out] at kend
            have k4' : (4 : Int) ≤ (k : Int) := by omega
            have kend' : (k : Int) < (cc : Int) := by omega
            have hccD : (cc : Int) ≤ (D.length : Int) := by have := HCC.out; omega
            have hcccap : (cc : Int) ≤ (cap : Int) := by omega
            have hcv0 : ∀ W, HoldZ tx X D bb (nums D1 ++ r) fz W → (convert 43 9 (.slice (some ⟨bb, 0, none⟩) cc cap)).run Tryd.prog W = .ok (.string ⟨(D1.take cc).toArray⟩) W := by
              intro W hW
              have hl : (D1.take cc).length = cc := by rw [List.length_take, HL1.out]; have := HCC.out; omega
              have e : nums D1 ++ r = nums (D1.take cc) ++ (nums (D1.drop cc) ++ r) := by
                rw [← Array.append_assoc, ← nums_append, List.take_append_drop]
              have hF := hW.2
              rw [e] at hF
              have h := run_text' (P := Tryd.prog) (src := 43) (e := 5) (dst := 9) (cap := cap) Tryd.underlying43 Tryd.underlying5 Tryd.underlying9 hF
              rw [hl] at h
              exact h
            have HCV := Lib.hid hcv0
            obtain ⟨Sg, hSg⟩ : ∃ Sg, Sg = sumL (D.take cc) := ⟨_, rfl⟩
            have hs1 : ∀ W, Calls Tryd.prog 19 #[.string ((⟨D.toArray⟩ : ByteArray).extract 0 cc)] W fun e w' => e = .returned (.string ⟨Sg.toArray⟩) ∧ Below W.heap.size W w' := by
              intro W
              rw [ext_mk, hSg]
              exact Sha.sum_any ⟨(D.take cc).toArray⟩ (show (D.take cc).length ≤ 70368744177664 by rw [List.length_take]; omega) W
            have hs2 : ∀ W, Calls Tryd.prog 19 #[.string ⟨(D1.take cc).toArray⟩] W fun e w' => e = .returned (.string ⟨Sg.toArray⟩) ∧ Below W.heap.size W w' := by
              intro W
              rw [hSg, hsum]
              exact Sha.sum_any ⟨(D1.take cc).toArray⟩ (show (D1.take cc).length ≤ 70368744177664 by rw [List.length_take]; omega) W
            have HS1 := Lib.hid hs1
            have HS2 := Lib.hid hs2
            clear hcv0 hs1 hs2 hSg hsum hlk hne' k4 kend
            refine startN (S := HoldZ tx X D bb (nums D1 ++ r) fz) 29 #[false, false, false, false, false, false, false, false, false, false, false, false, false, false, false, false, false, false, false, false, false, false, false, false, false, false, false, false, false] (by kernel_rfl) (by kernel_rfl) (by kernel_rfl) H24.out (fun hS => ?_)
            refine takeH 0 (some 185) #[true, false, false, false, false, false, false, false, false, false, false, false, false, false, false, false, false, false, false, false, false, false, false, false, false, false, false, false, false] rfl rfl (by kernel_rfl) (by kernel_rfl) (by kernel_rfl) (by kernel_rfl) (fun _ _ _ h => h) (by rfl) (v := ?_) ?_ (by assumption) ?_
            rotate_left
            · (intro w hSw; obtain ⟨⟨s0, s1⟩, -⟩ := hSw; go_simp; try with_reducible rfl)
            simp only [Act.put, List.setIfInBounds_toArray, List.set_cons_zero, List.set_cons_succ]
            refine takeH 1 (some 186) #[true, true, false, false, false, false, false, false, false, false, false, false, false, false, false, false, false, false, false, false, false, false, false, false, false, false, false, false, false] rfl rfl (by kernel_rfl) (by kernel_rfl) (by kernel_rfl) (by kernel_rfl) (fun _ _ _ h => h) (by rfl) (v := ?_) ?_ (by assumption) ?_
            rotate_left
            · (intro w hSw; obtain ⟨⟨s0, s1⟩, -⟩ := hSw; go_simp; try with_reducible rfl)
            simp only [Act.put, List.setIfInBounds_toArray, List.set_cons_zero, List.set_cons_succ]
            refine takeH 2 (some 187) #[true, true, true, false, false, false, false, false, false, false, false, false, false, false, false, false, false, false, false, false, false, false, false, false, false, false, false, false, false] rfl rfl (by kernel_rfl) (by kernel_rfl) (by kernel_rfl) (by kernel_rfl) (fun _ _ _ h => h) (by rfl) (v := ?_) ?_ (by assumption) ?_
            rotate_left
            · (intro w hSw; obtain ⟨⟨s0, s1⟩, -⟩ := hSw; go_simp; try with_reducible rfl)
            simp only [Act.put, List.setIfInBounds_toArray, List.set_cons_zero, List.set_cons_succ]
            refine takeH 3 (some 188) #[true, true, true, true, false, false, false, false, false, false, false, false, false, false, false, false, false, false, false, false, false, false, false, false, false, false, false, false, false] rfl rfl (by kernel_rfl) (by kernel_rfl) (by kernel_rfl) (by kernel_rfl) (fun _ _ _ h => h) (by rfl) (v := ?_) ?_ (by assumption) ?_
            rotate_left
            · (intro w hSw; obtain ⟨⟨s0, s1⟩, -⟩ := hSw; go_simp; try with_reducible rfl)
            simp only [Act.put, List.setIfInBounds_toArray, List.set_cons_zero, List.set_cons_succ]
            refine takeH 4 (some 189) #[true, true, true, true, true, false, false, false, false, false, false, false, false, false, false, false, false, false, false, false, false, false, false, false, false, false, false, false, false] rfl rfl (by kernel_rfl) (by kernel_rfl) (by kernel_rfl) (by kernel_rfl) (fun _ _ _ h => h) (by rfl) (v := ?_) ?_ (by assumption) ?_
            rotate_left
            · (intro w hSw; obtain ⟨⟨s0, s1⟩, -⟩ := hSw; go_simp; try with_reducible rfl)
            simp only [Act.put, List.setIfInBounds_toArray, List.set_cons_zero, List.set_cons_succ]
            refine takeH 5 (some 190) #[true, true, true, true, true, true, false, false, false, false, false, false, false, false, false, false, false, false, false, false, false, false, false, false, false, false, false, false, false] rfl rfl (by kernel_rfl) (by kernel_rfl) (by kernel_rfl) (by kernel_rfl) (fun _ _ _ h => h) (by rfl) (v := ?_) ?_ (by assumption) ?_
            rotate_left
            · (intro w hSw; obtain ⟨⟨s0, s1⟩, -⟩ := hSw; go_simp; try with_reducible rfl)
            simp only [Act.put, List.setIfInBounds_toArray, List.set_cons_zero, List.set_cons_succ]
            refine takeH 6 (some 191) #[true, true, true, true, true, true, true, false, false, false, false, false, false, false, false, false, false, false, false, false, false, false, false, false, false, false, false, false, false] rfl rfl (by kernel_rfl) (by kernel_rfl) (by kernel_rfl) (by kernel_rfl) (fun _ _ _ h => h) (by rfl) (v := ?_) ?_ (by assumption) ?_
            rotate_left
            · (intro w hSw; obtain ⟨⟨s0, s1⟩, -⟩ := hSw; go_simp; try with_reducible rfl)
            simp only [Act.put, List.setIfInBounds_toArray, List.set_cons_zero, List.set_cons_succ]
            refine takeH 7 (some 192) #[true, true, true, true, true, true, true, true, false, false, false, false, false, false, false, false, false, false, false, false, false, false, false, false, false, false, false, false, false] rfl rfl (by kernel_rfl) (by kernel_rfl) (by kernel_rfl) (by kernel_rfl) (fun _ _ _ h => h) (by rfl) (v := ?_) ?_ (by assumption) ?_
            rotate_left
            · (intro w hSw; obtain ⟨⟨s0, s1⟩, -⟩ := hSw; go_simp; try with_reducible rfl)
            simp only [Act.put, List.setIfInBounds_toArray, List.set_cons_zero, List.set_cons_succ]
            refine takeH 8 (some 193) #[true, true, true, true, true, true, true, true, true, false, false, false, false, false, false, false, false, false, false, false, false, false, false, false, false, false, false, false, false] rfl rfl (by kernel_rfl) (by kernel_rfl) (by kernel_rfl) (by kernel_rfl) (fun _ _ _ h => h) (by rfl) (v := ?_) ?_ (by assumption) ?_
            rotate_left
            · (intro w hSw; obtain ⟨⟨s0, s1⟩, -⟩ := hSw; go_simp; try with_reducible rfl)
            simp only [Act.put, List.setIfInBounds_toArray, List.set_cons_zero, List.set_cons_succ]
            refine takeH 9 (some 194) #[true, true, true, true, true, true, true, true, true, true, false, false, false, false, false, false, false, false, false, false, false, false, false, false, false, false, false, false, false] rfl rfl (by kernel_rfl) (by kernel_rfl) (by kernel_rfl) (by kernel_rfl) (fun _ _ _ h => h) (by rfl) (v := ?_) ?_ (by assumption) ?_
            rotate_left
            · (intro w hSw; obtain ⟨⟨s0, s1⟩, -⟩ := hSw; go_simp; try with_reducible rfl)
            simp only [Act.put, List.setIfInBounds_toArray, List.set_cons_zero, List.set_cons_succ]
            refine takeH 10 (some 195) #[true, true, true, true, true, true, true, true, true, true, true, false, false, false, false, false, false, false, false, false, false, false, false, false, false, false, false, false, false] rfl rfl (by kernel_rfl) (by kernel_rfl) (by kernel_rfl) (by kernel_rfl) (fun _ _ _ h => h) (by rfl) (v := ?_) ?_ (by assumption) ?_
            rotate_left
            · (intro w hSw; obtain ⟨⟨s0, s1⟩, -⟩ := hSw; go_simp; try with_reducible rfl)
            simp only [Act.put, List.setIfInBounds_toArray, List.set_cons_zero, List.set_cons_succ]
            refine takeH 11 (some 196) #[true, true, true, true, true, true, true, true, true, true, true, true, false, false, false, false, false, false, false, false, false, false, false, false, false, false, false, false, false] rfl rfl (by kernel_rfl) (by kernel_rfl) (by kernel_rfl) (by kernel_rfl) (fun _ _ _ h => h) (by rfl) (v := ?_) ?_ (by assumption) ?_
            rotate_left
            · (intro w hSw; obtain ⟨⟨s0, s1⟩, -⟩ := hSw; go_simp; try with_reducible rfl)
            simp only [Act.put, List.setIfInBounds_toArray, List.set_cons_zero, List.set_cons_succ]
            refine takeH 12 (some 197) #[true, true, true, true, true, true, true, true, true, true, true, true, true, false, false, false, false, false, false, false, false, false, false, false, false, false, false, false, false] rfl rfl (by kernel_rfl) (by kernel_rfl) (by kernel_rfl) (by kernel_rfl) (fun _ _ _ h => h) (by rfl) (v := ?_) ?_ (by assumption) ?_
            rotate_left
            · (intro w hSw; obtain ⟨⟨s0, s1⟩, -⟩ := hSw; go_simp; try with_reducible rfl)
            simp only [Act.put, List.setIfInBounds_toArray, List.set_cons_zero, List.set_cons_succ]
            refine takeH 13 (some 198) #[true, true, true, true, true, true, true, true, true, true, true, true, true, true, false, false, false, false, false, false, false, false, false, false, false, false, false, false, false] rfl rfl (by kernel_rfl) (by kernel_rfl) (by kernel_rfl) (by kernel_rfl) (fun _ _ _ h => h) (by rfl) (v := ?_) ?_ (by assumption) ?_
            rotate_left
            · (intro w hSw; obtain ⟨⟨s0, s1⟩, -⟩ := hSw; go_simp; try with_reducible rfl)
            simp only [Act.put, List.setIfInBounds_toArray, List.set_cons_zero, List.set_cons_succ]
            refine takeH 14 (some 199) #[true, true, true, true, true, true, true, true, true, true, true, true, true, true, true, false, false, false, false, false, false, false, false, false, false, false, false, false, false] rfl rfl (by kernel_rfl) (by kernel_rfl) (by kernel_rfl) (by kernel_rfl) (fun _ _ _ h => h) (by rfl) (v := ?_) ?_ (by assumption) ?_
            rotate_left
            · (intro w hSw; obtain ⟨⟨s0, s1⟩, -⟩ := hSw; go_simp; try with_reducible rfl)
            simp only [Act.put, List.setIfInBounds_toArray, List.set_cons_zero, List.set_cons_succ]
            refine takeH 15 (some 200) #[true, true, true, true, true, true, true, true, true, true, true, true, true, true, true, true, false, false, false, false, false, false, false, false, false, false, false, false, false] rfl rfl (by kernel_rfl) (by kernel_rfl) (by kernel_rfl) (by kernel_rfl) (fun _ _ _ h => h) (by rfl) (v := ?_) ?_ (by assumption) ?_
            rotate_left
            · (intro w hSw; obtain ⟨⟨s0, s1⟩, -⟩ := hSw; go_simp; try with_reducible rfl)
            simp only [Act.put, List.setIfInBounds_toArray, List.set_cons_zero, List.set_cons_succ]
            refine takeH 16 (some 201) #[true, true, true, true, true, true, true, true, true, true, true, true, true, true, true, true, true, false, false, false, false, false, false, false, false, false, false, false, false] rfl rfl (by kernel_rfl) (by kernel_rfl) (by kernel_rfl) (by kernel_rfl) (fun _ _ _ h => h) (by rfl) (v := ?_) ?_ (by assumption) ?_
            rotate_left
            · (intro w hSw; obtain ⟨⟨s0, s1⟩, -⟩ := hSw; go_simp; try with_reducible rfl)
            simp only [Act.put, List.setIfInBounds_toArray, List.set_cons_zero, List.set_cons_succ]
            refine takeH 17 (some 202) #[true, true, true, true, true, true, true, true, true, true, true, true, true, true, true, true, true, true, false, false, false, false, false, false, false, false, false, false, false] rfl rfl (by kernel_rfl) (by kernel_rfl) (by kernel_rfl) (by kernel_rfl) (fun _ _ _ h => h) (by rfl) (v := ?_) ?_ (by assumption) ?_
            rotate_left
            · (intro w hSw; obtain ⟨⟨s0, s1⟩, -⟩ := hSw; go_simp; try with_reducible rfl)
            simp only [Act.put, List.setIfInBounds_toArray, List.set_cons_zero, List.set_cons_succ]
            refine takeH 18 (some 203) #[true, true, true, true, true, true, true, true, true, true, true, true, true, true, true, true, true, true, true, false, false, false, false, false, false, false, false, false, false] rfl rfl (by kernel_rfl) (by kernel_rfl) (by kernel_rfl) (by kernel_rfl) (fun _ _ _ h => h) (by rfl) (v := ?_) ?_ (by assumption) ?_
            rotate_left
            · (intro w hSw; obtain ⟨⟨s0, s1⟩, -⟩ := hSw; go_simp; try with_reducible rfl)
            simp only [Act.put, List.setIfInBounds_toArray, List.set_cons_zero, List.set_cons_succ]
            refine takeH 19 (some 204) #[true, true, true, true, true, true, true, true, true, true, true, true, true, true, true, true, true, true, true, true, false, false, false, false, false, false, false, false, false] rfl rfl (by kernel_rfl) (by kernel_rfl) (by kernel_rfl) (by kernel_rfl) (fun _ _ _ h => h) (by rfl) (v := ?_) ?_ (by assumption) ?_
            rotate_left
            · (intro w hSw; obtain ⟨⟨s0, s1⟩, -⟩ := hSw; go_simp; try with_reducible rfl)
            simp only [Act.put, List.setIfInBounds_toArray, List.set_cons_zero, List.set_cons_succ]
            refine takeH 20 (some 205) #[true, true, true, true, true, true, true, true, true, true, true, true, true, true, true, true, true, true, true, true, true, false, false, false, false, false, false, false, false] rfl rfl (by kernel_rfl) (by kernel_rfl) (by kernel_rfl) (by kernel_rfl) (fun _ _ _ h => h) (by rfl) (v := ?_) ?_ (by assumption) ?_
            rotate_left
            · (intro w hSw; obtain ⟨⟨s0, s1⟩, -⟩ := hSw; go_simp; try with_reducible rfl)
            simp only [Act.put, List.setIfInBounds_toArray, List.set_cons_zero, List.set_cons_succ]
            refine takeH 22 (some 207) #[true, true, true, true, true, true, true, true, true, true, true, true, true, true, true, true, true, true, true, true, true, false, true, false, false, false, false, false, false] rfl rfl (by kernel_rfl) (by kernel_rfl) (by kernel_rfl) (by kernel_rfl) (fun _ _ _ h => h) (by rfl) (v := ?_) ?_ (by assumption) ?_
            rotate_left
            · (intro w hSw; obtain ⟨⟨s0, s1⟩, -⟩ := hSw; go_simp; try with_reducible rfl)
            simp only [Act.put, List.setIfInBounds_toArray, List.set_cons_zero, List.set_cons_succ]
            refine takeH 23 (some 208) #[true, true, true, true, true, true, true, true, true, true, true, true, true, true, true, true, true, true, true, true, true, false, true, true, false, false, false, false, false] rfl rfl (by kernel_rfl) (by kernel_rfl) (by kernel_rfl) (by kernel_rfl) (fun _ _ _ h => h) (by rfl) (v := ?_) ?_ (by assumption) ?_
            rotate_left
            · (intro w hSw; obtain ⟨⟨s0, s1⟩, -⟩ := hSw; go_simp; try with_reducible rfl)
            simp only [Act.put, List.setIfInBounds_toArray, List.set_cons_zero, List.set_cons_succ]
            refine takeH 24 (some 209) #[true, true, true, true, true, true, true, true, true, true, true, true, true, true, true, true, true, true, true, true, true, false, true, true, true, false, false, false, false] rfl rfl (by kernel_rfl) (by kernel_rfl) (by kernel_rfl) (by kernel_rfl) (fun _ _ _ h => h) (by rfl) (v := ?_) ?_ (by assumption) ?_
            rotate_left
            · (intro w hSw; obtain ⟨⟨s0, s1⟩, -⟩ := hSw; go_simp; try with_reducible rfl)
            simp only [Act.put, List.setIfInBounds_toArray, List.set_cons_zero, List.set_cons_succ]
            refine takeH 25 (some 210) #[true, true, true, true, true, true, true, true, true, true, true, true, true, true, true, true, true, true, true, true, true, false, true, true, true, true, false, false, false] rfl rfl (by kernel_rfl) (by kernel_rfl) (by kernel_rfl) (by kernel_rfl) (fun _ _ _ h => h) (by rfl) (v := ?_) ?_ (by assumption) ?_
            rotate_left
            · (intro w hSw; have hcv := HCV.out w hSw; clear hSw; go_simp; try with_reducible rfl)
            simp only [Act.put, List.setIfInBounds_toArray, List.set_cons_zero, List.set_cons_succ]
            refine oneH 21 #[true, true, true, true, true, true, true, true, true, true, true, true, true, true, true, true, true, true, true, true, true, true, true, true, true, true, false, false, false] rfl (by kernel_rfl) (by kernel_rfl) (by rfl) (fun K hK => ?_)
            go_simp
            go_wp2_with (go_at_call 19; refine (HS1.out _).mono ?_; rintro e w18 ⟨rfl, hb18⟩)
            refine hK.out _ _ (HoldZ.keep (by assumption) hb18) (fun hS => ?_)
            clear hK K
            refine oneH 26 #[true, true, true, true, true, true, true, true, true, true, true, true, true, true, true, true, true, true, true, true, true, true, true, true, true, true, true, false, false] rfl (by kernel_rfl) (by kernel_rfl) (by rfl) (fun K hK => ?_)
            go_simp
            go_wp2_with (go_at_call 19; refine (HS2.out _).mono ?_; rintro e w19 ⟨rfl, hb19⟩)
            refine hK.out _ _ (HoldZ.keep (by assumption) hb19) (fun hS => ?_)
            clear hK K
            refine takeH 27 (some 212) #[true, true, true, true, true, true, true, true, true, true, true, true, true, true, true, true, true, true, true, true, true, true, true, true, true, true, true, true, false] rfl rfl (by kernel_rfl) (by kernel_rfl) (by kernel_rfl) (by kernel_rfl) (fun _ _ _ h => h) (by rfl) (v := ?_) ?_ (by assumption) ?_
            rotate_left
            · (intro w hSw; obtain ⟨⟨s0, s1⟩, -⟩ := hSw; go_simp; try with_reducible rfl)
            simp only [Act.put, List.setIfInBounds_toArray, List.set_cons_zero, List.set_cons_succ]
            refine takeH 28 (some 213) #[true, true, true, true, true, true, true, true, true, true, true, true, true, true, true, true, true, true, true, true, true, true, true, true, true, true, true, true, true] rfl rfl (by kernel_rfl) (by kernel_rfl) (by kernel_rfl) (by kernel_rfl) (fun _ _ _ h => h) (by rfl) (v := ?_) ?_ (by assumption) ?_
            rotate_left
            · (intro w hSw; obtain ⟨⟨s0, s1⟩, -⟩ := hSw; go_simp; try with_reducible rfl)
            simp only [Act.put, List.setIfInBounds_toArray, List.set_cons_zero, List.set_cons_succ]
            refine wpAnyH_done (by kernel_rfl) ?_ _
            go_wp2_with fail
            go_ret
            exact ⟨rfl, HF.out.trans ((hb18.trans (hb19.mono hb18.size)).mono HF.out.size)⟩
          · skip
            refine startN (S := HoldZ tx X D bb (nums D1 ++ r) fz) 29 #[false, false, false, false, false, false, false, false, false, false, false, false, false, false, false, false, false, false, false, false, false, false, false, false, false, false, false, false, false] (by kernel_rfl) (by kernel_rfl) (by kernel_rfl) H24.out (fun hS => ?_)
            refine takeH 0 (some 185) #[true, false, false, false, false, false, false, false, false, false, false, false, false, false, false, false, false, false, false, false, false, false, false, false, false, false, false, false, false] rfl rfl (by kernel_rfl) (by kernel_rfl) (by kernel_rfl) (by kernel_rfl) (fun _ _ _ h => h) (by rfl) (v := ?_) ?_ (by assumption) ?_
            rotate_left
            · (intro w hSw; obtain ⟨⟨s0, s1⟩, -⟩ := hSw; go_simp; try with_reducible rfl)
            simp only [Act.put, List.setIfInBounds_toArray, List.set_cons_zero, List.set_cons_succ]
            refine takeH 1 (some 186) #[true, true, false, false, false, false, false, false, false, false, false, false, false, false, false, false, false, false, false, false, false, false, false, false, false, false, false, false, false] rfl rfl (by kernel_rfl) (by kernel_rfl) (by kernel_rfl) (by kernel_rfl) (fun _ _ _ h => h) (by rfl) (v := ?_) ?_ (by assumption) ?_
            rotate_left
            · (intro w hSw; obtain ⟨⟨s0, s1⟩, -⟩ := hSw; go_simp; try with_reducible rfl)
            simp only [Act.put, List.setIfInBounds_toArray, List.set_cons_zero, List.set_cons_succ]
            refine takeH 2 (some 187) #[true, true, true, false, false, false, false, false, false, false, false, false, false, false, false, false, false, false, false, false, false, false, false, false, false, false, false, false, false] rfl rfl (by kernel_rfl) (by kernel_rfl) (by kernel_rfl) (by kernel_rfl) (fun _ _ _ h => h) (by rfl) (v := ?_) ?_ (by assumption) ?_
            rotate_left
            · (intro w hSw; obtain ⟨⟨s0, s1⟩, -⟩ := hSw; go_simp; try with_reducible rfl)
            simp only [Act.put, List.setIfInBounds_toArray, List.set_cons_zero, List.set_cons_succ]
            refine takeH 3 (some 188) #[true, true, true, true, false, false, false, false, false, false, false, false, false, false, false, false, false, false, false, false, false, false, false, false, false, false, false, false, false] rfl rfl (by kernel_rfl) (by kernel_rfl) (by kernel_rfl) (by kernel_rfl) (fun _ _ _ h => h) (by rfl) (v := ?_) ?_ (by assumption) ?_
            rotate_left
            · (intro w hSw; obtain ⟨⟨s0, s1⟩, -⟩ := hSw; go_simp; try with_reducible rfl)
            simp only [Act.put, List.setIfInBounds_toArray, List.set_cons_zero, List.set_cons_succ]
            refine takeH 4 (some 189) #[true, true, true, true, true, false, false, false, false, false, false, false, false, false, false, false, false, false, false, false, false, false, false, false, false, false, false, false, false] rfl rfl (by kernel_rfl) (by kernel_rfl) (by kernel_rfl) (by kernel_rfl) (fun _ _ _ h => h) (by rfl) (v := ?_) ?_ (by assumption) ?_
            rotate_left
            · (intro w hSw; obtain ⟨⟨s0, s1⟩, -⟩ := hSw; go_simp; try with_reducible rfl)
            simp only [Act.put, List.setIfInBounds_toArray, List.set_cons_zero, List.set_cons_succ]
            refine takeH 5 (some 190) #[true, true, true, true, true, true, false, false, false, false, false, false, false, false, false, false, false, false, false, false, false, false, false, false, false, false, false, false, false] rfl rfl (by kernel_rfl) (by kernel_rfl) (by kernel_rfl) (by kernel_rfl) (fun _ _ _ h => h) (by rfl) (v := ?_) ?_ (by assumption) ?_
            rotate_left
            · (intro w hSw; obtain ⟨⟨s0, s1⟩, -⟩ := hSw; go_simp; try with_reducible rfl)
            simp only [Act.put, List.setIfInBounds_toArray, List.set_cons_zero, List.set_cons_succ]
            refine takeH 6 (some 191) #[true, true, true, true, true, true, true, false, false, false, false, false, false, false, false, false, false, false, false, false, false, false, false, false, false, false, false, false, false] rfl rfl (by kernel_rfl) (by kernel_rfl) (by kernel_rfl) (by kernel_rfl) (fun _ _ _ h => h) (by rfl) (v := ?_) ?_ (by assumption) ?_
            rotate_left
            · (intro w hSw; obtain ⟨⟨s0, s1⟩, -⟩ := hSw; go_simp; try with_reducible rfl)
            simp only [Act.put, List.setIfInBounds_toArray, List.set_cons_zero, List.set_cons_succ]
            refine takeH 7 (some 192) #[true, true, true, true, true, true, true, true, false, false, false, false, false, false, false, false, false, false, false, false, false, false, false, false, false, false, false, false, false] rfl rfl (by kernel_rfl) (by kernel_rfl) (by kernel_rfl) (by kernel_rfl) (fun _ _ _ h => h) (by rfl) (v := ?_) ?_ (by assumption) ?_
            rotate_left
            · (intro w hSw; obtain ⟨⟨s0, s1⟩, -⟩ := hSw; go_simp; try with_reducible rfl)
            simp only [Act.put, List.setIfInBounds_toArray, List.set_cons_zero, List.set_cons_succ]
            refine passH 8 (some 193) #[true, true, true, true, true, true, true, true, true, false, false, false, false, false, false, false, false, false, false, false, false, false, false, false, false, false, false, false, false] rfl rfl (by kernel_rfl) (by kernel_rfl) (by kernel_rfl) (by kernel_rfl) (fun _ _ _ h => h) (by rfl) (by assumption) ?_
            simp only [Act.put, List.setIfInBounds_toArray, List.set_cons_zero, List.set_cons_succ]
            refine passH 9 (some 194) #[true, true, true, true, true, true, true, true, true, true, false, false, false, false, false, false, false, false, false, false, false, false, false, false, false, false, false, false, false] rfl rfl (by kernel_rfl) (by kernel_rfl) (by kernel_rfl) (by kernel_rfl) (fun _ _ _ h => h) (by rfl) (by assumption) ?_
            simp only [Act.put, List.setIfInBounds_toArray, List.set_cons_zero, List.set_cons_succ]
            refine takeH 10 (some 195) #[true, true, true, true, true, true, true, true, true, true, true, false, false, false, false, false, false, false, false, false, false, false, false, false, false, false, false, false, false] rfl rfl (by kernel_rfl) (by kernel_rfl) (by kernel_rfl) (by kernel_rfl) (fun _ _ _ h => h) (by rfl) (v := ?_) ?_ (by assumption) ?_
            rotate_left
            · (intro w hSw; obtain ⟨⟨s0, s1⟩, -⟩ := hSw; go_simp; try with_reducible rfl)
            simp only [Act.put, List.setIfInBounds_toArray, List.set_cons_zero, List.set_cons_succ]
            refine takeH 11 (some 196) #[true, true, true, true, true, true, true, true, true, true, true, true, false, false, false, false, false, false, false, false, false, false, false, false, false, false, false, false, false] rfl rfl (by kernel_rfl) (by kernel_rfl) (by kernel_rfl) (by kernel_rfl) (fun _ _ _ h => h) (by rfl) (v := ?_) ?_ (by assumption) ?_
            rotate_left
            · (intro w hSw; obtain ⟨⟨s0, s1⟩, -⟩ := hSw; go_simp; try with_reducible rfl)
            simp only [Act.put, List.setIfInBounds_toArray, List.set_cons_zero, List.set_cons_succ]
            refine passH 12 (some 197) #[true, true, true, true, true, true, true, true, true, true, true, true, true, false, false, false, false, false, false, false, false, false, false, false, false, false, false, false, false] rfl rfl (by kernel_rfl) (by kernel_rfl) (by kernel_rfl) (by kernel_rfl) (fun _ _ _ h => h) (by rfl) (by assumption) ?_
            simp only [Act.put, List.setIfInBounds_toArray, List.set_cons_zero, List.set_cons_succ]
            refine passH 13 (some 198) #[true, true, true, true, true, true, true, true, true, true, true, true, true, true, false, false, false, false, false, false, false, false, false, false, false, false, false, false, false] rfl rfl (by kernel_rfl) (by kernel_rfl) (by kernel_rfl) (by kernel_rfl) (fun _ _ _ h => h) (by rfl) (by assumption) ?_
            simp only [Act.put, List.setIfInBounds_toArray, List.set_cons_zero, List.set_cons_succ]
            refine passH 14 (some 199) #[true, true, true, true, true, true, true, true, true, true, true, true, true, true, true, false, false, false, false, false, false, false, false, false, false, false, false, false, false] rfl rfl (by kernel_rfl) (by kernel_rfl) (by kernel_rfl) (by kernel_rfl) (fun _ _ _ h => h) (by rfl) (by assumption) ?_
            simp only [Act.put, List.setIfInBounds_toArray, List.set_cons_zero, List.set_cons_succ]
            refine takeH 15 (some 200) #[true, true, true, true, true, true, true, true, true, true, true, true, true, true, true, true, false, false, false, false, false, false, false, false, false, false, false, false, false] rfl rfl (by kernel_rfl) (by kernel_rfl) (by kernel_rfl) (by kernel_rfl) (fun _ _ _ h => h) (by rfl) (v := ?_) ?_ (by assumption) ?_
            rotate_left
            · (intro w hSw; obtain ⟨⟨s0, s1⟩, -⟩ := hSw; go_simp; try with_reducible rfl)
            simp only [Act.put, List.setIfInBounds_toArray, List.set_cons_zero, List.set_cons_succ]
            refine takeH 16 (some 201) #[true, true, true, true, true, true, true, true, true, true, true, true, true, true, true, true, true, false, false, false, false, false, false, false, false, false, false, false, false] rfl rfl (by kernel_rfl) (by kernel_rfl) (by kernel_rfl) (by kernel_rfl) (fun _ _ _ h => h) (by rfl) (v := ?_) ?_ (by assumption) ?_
            rotate_left
            · (intro w hSw; obtain ⟨⟨s0, s1⟩, -⟩ := hSw; go_simp; try with_reducible rfl)
            simp only [Act.put, List.setIfInBounds_toArray, List.set_cons_zero, List.set_cons_succ]
            refine passH 17 (some 202) #[true, true, true, true, true, true, true, true, true, true, true, true, true, true, true, true, true, true, false, false, false, false, false, false, false, false, false, false, false] rfl rfl (by kernel_rfl) (by kernel_rfl) (by kernel_rfl) (by kernel_rfl) (fun _ _ _ h => h) (by rfl) (by assumption) ?_
            simp only [Act.put, List.setIfInBounds_toArray, List.set_cons_zero, List.set_cons_succ]
            refine passH 18 (some 203) #[true, true, true, true, true, true, true, true, true, true, true, true, true, true, true, true, true, true, true, false, false, false, false, false, false, false, false, false, false] rfl rfl (by kernel_rfl) (by kernel_rfl) (by kernel_rfl) (by kernel_rfl) (fun _ _ _ h => h) (by rfl) (by assumption) ?_
            simp only [Act.put, List.setIfInBounds_toArray, List.set_cons_zero, List.set_cons_succ]
            refine passH 19 (some 204) #[true, true, true, true, true, true, true, true, true, true, true, true, true, true, true, true, true, true, true, true, false, false, false, false, false, false, false, false, false] rfl rfl (by kernel_rfl) (by kernel_rfl) (by kernel_rfl) (by kernel_rfl) (fun _ _ _ h => h) (by rfl) (by assumption) ?_
            simp only [Act.put, List.setIfInBounds_toArray, List.set_cons_zero, List.set_cons_succ]
            refine passH 20 (some 205) #[true, true, true, true, true, true, true, true, true, true, true, true, true, true, true, true, true, true, true, true, true, false, false, false, false, false, false, false, false] rfl rfl (by kernel_rfl) (by kernel_rfl) (by kernel_rfl) (by kernel_rfl) (fun _ _ _ h => h) (by rfl) (by assumption) ?_
            simp only [Act.put, List.setIfInBounds_toArray, List.set_cons_zero, List.set_cons_succ]
            refine passH 22 (some 207) #[true, true, true, true, true, true, true, true, true, true, true, true, true, true, true, true, true, true, true, true, true, false, true, false, false, false, false, false, false] rfl rfl (by kernel_rfl) (by kernel_rfl) (by kernel_rfl) (by kernel_rfl) (fun _ _ _ h => h) (by rfl) (by assumption) ?_
            simp only [Act.put, List.setIfInBounds_toArray, List.set_cons_zero, List.set_cons_succ]
            refine passH 23 (some 208) #[true, true, true, true, true, true, true, true, true, true, true, true, true, true, true, true, true, true, true, true, true, false, true, true, false, false, false, false, false] rfl rfl (by kernel_rfl) (by kernel_rfl) (by kernel_rfl) (by kernel_rfl) (fun _ _ _ h => h) (by rfl) (by assumption) ?_
            simp only [Act.put, List.setIfInBounds_toArray, List.set_cons_zero, List.set_cons_succ]
            refine passH 24 (some 209) #[true, true, true, true, true, true, true, true, true, true, true, true, true, true, true, true, true, true, true, true, true, false, true, true, true, false, false, false, false] rfl rfl (by kernel_rfl) (by kernel_rfl) (by kernel_rfl) (by kernel_rfl) (fun _ _ _ h => h) (by rfl) (by assumption) ?_
            simp only [Act.put, List.setIfInBounds_toArray, List.set_cons_zero, List.set_cons_succ]
            refine passH 25 (some 210) #[true, true, true, true, true, true, true, true, true, true, true, true, true, true, true, true, true, true, true, true, true, false, true, true, true, true, false, false, false] rfl rfl (by kernel_rfl) (by kernel_rfl) (by kernel_rfl) (by kernel_rfl) (fun _ _ _ h => h) (by rfl) (by assumption) ?_
            simp only [Act.put, List.setIfInBounds_toArray, List.set_cons_zero, List.set_cons_succ]
            refine passH 21 (some 206) #[true, true, true, true, true, true, true, true, true, true, true, true, true, true, true, true, true, true, true, true, true, true, true, true, true, true, false, false, false] rfl rfl (by kernel_rfl) (by kernel_rfl) (by kernel_rfl) (by kernel_rfl) (fun _ _ _ h => h) (by rfl) (by assumption) ?_
            simp only [Act.put, List.setIfInBounds_toArray, List.set_cons_zero, List.set_cons_succ]
            refine passH 26 (some 211) #[true, true, true, true, true, true, true, true, true, true, true, true, true, true, true, true, true, true, true, true, true, true, true, true, true, true, true, false, false] rfl rfl (by kernel_rfl) (by kernel_rfl) (by kernel_rfl) (by kernel_rfl) (fun _ _ _ h => h) (by rfl) (by assumption) ?_
            simp only [Act.put, List.setIfInBounds_toArray, List.set_cons_zero, List.set_cons_succ]
            refine passH 27 (some 212) #[true, true, true, true, true, true, true, true, true, true, true, true, true, true, true, true, true, true, true, true, true, true, true, true, true, true, true, true, false] rfl rfl (by kernel_rfl) (by kernel_rfl) (by kernel_rfl) (by kernel_rfl) (fun _ _ _ h => h) (by rfl) (by assumption) ?_
            simp only [Act.put, List.setIfInBounds_toArray, List.set_cons_zero, List.set_cons_succ]
            refine takeH 28 (some 213) #[true, true, true, true, true, true, true, true, true, true, true, true, true, true, true, true, true, true, true, true, true, true, true, true, true, true, true, true, true] rfl rfl (by kernel_rfl) (by kernel_rfl) (by kernel_rfl) (by kernel_rfl) (fun _ _ _ h => h) (by rfl) (v := ?_) ?_ (by assumption) ?_
            rotate_left
            · (intro w hSw; obtain ⟨⟨s0, s1⟩, -⟩ := hSw; go_simp; try with_reducible rfl)
            simp only [Act.put, List.setIfInBounds_toArray, List.set_cons_zero, List.set_cons_succ]
            refine wpAnyH_done (by kernel_rfl) ?_ _
            go_wp2_with fail
            go_ret
            exact ⟨rfl, HF.out⟩
    · exact absurd hbig (by show ¬ (65461 < pl.length); omega)
    · unfold objV
      clear hmay
      go_wp2_with fail
      go_ret
      exact ⟨rfl, (back_alloc HB5.out (.cells #[.string ⟨[].toArray⟩, .string ⟨[].toArray⟩] 27)).2.2⟩

theorem back_any (K N : Int) (dig : ByteArray) (i : Int) (pay : ByteArray) (_ : I64 K) (_ : I64 N) (hI : I64 i) (nm da : ByteArray) (at_ : Int) (hat : I64 at_) (by_ : UInt8) (W : World) (hv : Vars W) :
    Calls Tryd.prog 5 #[.agg #[.int .i64 K, .int .i64 N, .string dig, .int .i64 i, .string pay], .agg #[.string nm, .string da], .int .i64 at_, .int .u8 (by_.toNat : Int)] W fun e w' => e = .returned (.bool true) ∧ Below W.heap.size W w' := by
  have h := backL_any K N dig.data.toList i pay.data.toList hI nm.data.toList da.data.toList at_ hat by_ W hv
  rw [mk_toList, mk_toList, mk_toList, mk_toList] at h
  exact h

end Shd
end Go.Proofs.YtbcokpnehengfaaDoor
