/-
 The code package: Encode. The health laws: what puts a blob's shards into all stores. The health laws: fill. A world in memory: Strike. The health laws: sameObjects; faults keep stores small. A store in memory: its copy.
-/
import Derived.Test.YtnbkhdbligjifaaGreatDoorCodG
import Derived.Test.YtnbkhdbligjifaaGreatDoorCodA
import Derived.Test.YtnbkhdbligjifaaGreatDoorWldF
import Derived.Test.YtnbkhdbligjifaaGreatDoorStoE
import Derived.Test.YtnbkhdbligjifaaGreatDoorWldB
import Derived.Deep.RegionWith
set_option linter.unusedVariables false
set_option linter.unusedSimpArgs false
set_option maxRecDepth 100000
set_option maxHeartbeats 40000000
namespace Go.Proofs.YtnbkhdbligjifaaGreatDoor
open Go Go.RowKit
namespace Cod
def sizeZ (k m : Nat) : Nat := (8 + m + k - 1) / k
theorem sizeZ_mul (k m : Nat) (hk : 0 < k) : m + 8 ≤ sizeZ k m * k := by
 unfold sizeZ
 have h1 := Nat.div_add_mod (8 + m + k - 1) k
 have h2 := Nat.mod_lt (8 + m + k - 1) hk
 rw [Nat.mul_comm]
 omega
theorem sizeZ_le (k m : Nat) (hk : 0 < k) : sizeZ k m ≤ m + 8 + k := by
 unfold sizeZ
 exact Nat.le_trans (Nat.div_le_self _ _) (by omega)
theorem sizeN_nat (k m : Nat) (hk : 0 < k) : sizeN (k : Int) (m : Int) = (sizeZ k m : Nat) := by
 unfold sizeN sizeZ
 rw [show (8 + (m : Int) + (k : Int) - 1) = ((8 + m + k - 1 : Nat) : Int) by omega]
 norm_cast
def rowsV (ls : List (List Nat)) : Stab.SVal := ⟨fun v W => Spr.Rows W v ls, fun _ _ _ h hE => h.ext hE⟩
def paysS (base : Nat) (ms ls : List (List Nat)) : Stab.SVal := ⟨fun v W => OwnG W base 9 1 v ms.length (paysV ms ls ms.length), fun _ _ _ h hE => h.ext hE⟩
def EncPost (w : World) (k n : Nat) (s : ByteArray) (e : Ending) (w' : World) : Prop := ∃ v, e = .returned (.tuple #[v, .int .i64 0]) ∧ OwnG w' w.heap.size 9 1 v (matL k n).length (paysV (matL k n) (dataL s k (sizeZ k s.size)) (matL k n).length) ∧ Below w.heap.size w w'
theorem dataL_wide (s : ByteArray) (k z : Nat) (hk : 0 < k) : Spr.wide (dataL s k z) = z := by
 unfold Spr.wide dataL
 rw [List.getD, List.getElem?_map, List.getElem?_range hk]
 simp
structure ERd (bx : Nat) (k n : Int) (W : World) : Prop where
 c0 : W.cell? ⟨bx, 0, none⟩ = some (.int .i64 k)
 c1 : W.cell? ⟨bx, 1, none⟩ = some (.int .i64 n)
theorem ERd.ext {bx : Nat} {k n : Int} {w w' : World} (h : ERd bx k n w) (hE : Stab.Ext w w') : ERd bx k n w' := ⟨hE.cell h.c0, hE.cell h.c1⟩
theorem encode_any {G : Nat} (hnew : ∀ w : World, G ≤ w.heap.size → Calls Tryz.prog 139 #[] w (Spr.NewPost w)) (w : World) (hG : G ≤ w.heap.size) (k n : Nat) (hc : codeB (k : Int) (n : Int) = true) (s : ByteArray) (hs : s.size ≤ 32768) :
 Calls Tryz.prog 36 #[.agg #[.int .i64 (k : Int), .int .i64 (n : Int)], .string s] w (EncPost w k n s) := by
 obtain ⟨h1, h2, h3⟩ := (codeB_iff _ _).1 hc
 have hE0 := Stab.Ext.alloc w (.cells #[.int .i64 (k : Int), .int .i64 (n : Int)] 25)
 have bx := Blk.new w 25 #[.int .i64 (k : Int), .int .i64 (n : Int)]
 have HS := Lib.hid (size_any (k : Int) (n : Int) (s.size : Int) (w.alloc (.cells #[.int .i64 (k : Int), .int .i64 (n : Int)] 25)))
 have hkz := sizeZ_mul k s.size (by omega)
 have hzl := sizeZ_le k s.size (by omega)
 have hzn := sizeN_nat k s.size (by omega)
 have HC := Lib.hid hc
 have HNEW := Lib.hid hnew
 have HB0 := Lib.hid hE0
 have HBX := Lib.hid bx
 have k0 := bx.cell 0
 have k1 := bx.cell 1
 unfold SizePost at HS
 rw [if_neg (by simp [hc]), if_neg (by omega), hzn] at HS
 clear hc hnew hE0 bx hzn
 generalize hz : sizeZ k s.size = z at *
 have HZ := Lib.hid hz
 clear hz
 go_enter Tryz.func36, Tryz.ntmps36
 go_wp2_with (go_at_call 70; with_reducible refine HS.out.mono ?_)
 rintro e w1 ⟨rfl, hb⟩
 have hB1 : Below w.heap.size w w1 := Below.trans HB0.out (Below.mono hb HB0.out.size)
 have hx1 := HBX.out.below hb HBX.out.lt
 have HB1 := Lib.hid hB1
 have HR := Lib.hid (show ERd w.heap.size (k : Int) (n : Int) w1 from ⟨hx1.cell 0, hx1.cell 1⟩)
 clear hb hB1 hx1 k0 k1
 go_wp2_with fail
 refine Stab.rg 6 [[], [], [], [], [1, 2, 3], [0, 4]] [5] (ERd w.heap.size (k : Int) (n : Int)) [Stab.eqv ?_, Stab.eqv ?_, Stab.eqv ?_, Stab.eqv ?_, rowsV (dataL s k z), paysS w.heap.size (matL k n) (dataL s k z)] (HR.out.ext (Stab.Ext.drew _)) (fun _ _ h hE => h.ext hE) ?goals4 ?last4
 case goals4 =>
  simp only [List.take_succ_cons, List.take_zero]
  iterate 4
   refine Stab.gp (fun us w _ hE hS hp hK => ?_) ?_
   ·((try have e0 : _ = _ := hp.1); (try have e1 : _ = _ := hp.2.1); (try have e2 : _ = _ := hp.2.2.1); obtain ⟨s0, s1⟩ := hS; go_simp; exact hK _ _ (by show _ = _; with_reducible rfl) (Stab.Ext.refl _))
  refine Stab.Goals.plain rfl rfl (fun us w cK hE hS hp hK => ?_) ?_
  ·obtain ⟨h1, h2, h3, -⟩ := hp
   replace h1 : us 1 = _ := h1
   replace h2 : us 2 = _ := h2
   replace h3 : us 3 = _ := h3
   go_simp
   go_wp2_with (go_at_call 72; ((with_reducible refine (data_any _ k n z s (by omega) (by omega) hs (by omega) hkz).mono ?_); rintro e w9 ⟨v9, rfl, hv9, hb9⟩))
   exact hK _ _ hv9 hb9
  refine Stab.Goals.plain rfl rfl (fun us w cK hE hS hp hK => ?_) ?_
  ·obtain ⟨h0, h4, -⟩ := hp
   replace h0 : us 0 = _ := h0
   have h4r : Spr.Rows w (us 4) (dataL s k z) := h4
   go_simp
   go_wp2_with (go_at_call 71; ((refine (all_any HNEW.out _ (Nat.le_trans hG (Nat.le_trans HB1.out.size (Nat.le_trans (Stab.Ext.drew _).size hE.size))) k n HC.out (us 4) (dataL s k z) h4r (by simp [dataL]) (by rw [dataL_wide s k z (by omega)]; intro l hl; obtain ⟨i, _, rfl⟩ := List.mem_map.1 hl; simp) (by rw [dataL_wide s k z (by omega)]; omega)).mono ?_); rintro e w9 ⟨v9, rfl, hv9, hb9⟩))
   exact hK _ _ (OwnG.base' hv9 (Nat.le_trans HB1.out.size (Nat.le_trans (Stab.Ext.drew _).size hE.size))) hb9
  exact Stab.Goals.nil
 case last4 =>
  intro us w9 hE hS hp
  obtain ⟨h5, -⟩ := hp
  have h5r : OwnG w9 w.heap.size 9 1 (us 5) (matL k n).length (paysV (matL k n) (dataL s k z) (matL k n).length) := h5
  have HO := Lib.hid h5r
  have HBE := Lib.hid (HB1.out.trans (Below.mono ((Stab.Ext.drew _).trans hE) HB1.out.size))
  simp only [List.drop_succ_cons, List.drop_zero]
  clear hE hS h5r
  go_wp2_with fail
  go_ret2
  unfold EncPost
  rw [HZ.out]
  exact ⟨_, rfl, HO.out, HBE.out⟩
end Cod
namespace Hlt
def payB (k n : Nat) (s : ByteArray) (i : Nat) : List UInt8 := Cod.payL (Cod.matL k n) (Cod.dataL s k (Cod.sizeZ k s.size)) i
theorem payB_len {k : Nat} (n : Nat) (s : ByteArray) (i : Nat) (hk : 0 < k) : (payB k n s i).length = Cod.sizeZ k s.size := by
 unfold payB
 rw [Cod.payL_len, Cod.dataL_wide _ _ _ hk]
end Hlt
end Go.Proofs.YtnbkhdbligjifaaGreatDoor
namespace Go.Proofs.YtnbkhdbligjifaaGreatDoor
open Go Go.RowKit Vm
namespace Hlt
structure Fits (L : Nat) (s : PSt) : Prop where
 len : s.seen.length ≤ L
 key : ∀ p ∈ s.seen, p.1.size ≤ 80 ∧ p.2.size ≤ 65536
 wr : s.writes = []
 room : -9223372036854775808 ≤ s.room ∧ s.room ≤ 9223372036854775807
theorem Fits.ok {L : Nat} {s : PSt} (h : Fits L s) (hL : L ≤ 1000) : s.Ok := ⟨⟨by have := h.len; omega, h.key⟩, by rw [h.wr]; simp, h.room⟩
structure Well (s : PSt) : Prop where
 down : s.down = false
 refuse : s.refuse = -1
 room : s.room = -1
def stored (s : PSt) (N D : ByteArray) : PSt := { s with good := TMap.put s.seen N D, seen := TMap.put s.seen N D, writes := [] }
theorem put_mem {m : TMap} {N D : ByteArray} {x : ByteArray × ByteArray} (h : x ∈ TMap.put m N D) : x = (N, D) ∨ x ∈ m := by
 induction m with
 | nil => simpa [TMap.put] using h
 | cons p m ih =>
   obtain ⟨a, b⟩ := p
   unfold TMap.put at h
   split at h
   ·next he =>
    simp only [List.mem_cons] at h ⊢
    rcases h with h | h
    ·left; simp_all
    ·exact .inr (.inr h)
   ·simp only [List.mem_cons] at h ⊢
    rcases h with h | h
    ·exact .inr (.inl h)
    ·exact (ih h).imp id .inr
theorem put_well {s : PSt} (h : Well s) {N D : ByteArray} (h0 : N.size ≠ 0) (hN : N.size ≤ 80) (hD : D.size ≤ 65536) : putE s N D = 0 ∧ syncS (putS s N D) = stored s N D ∧ syncV (putS s N D) = 0 := by
 obtain ⟨good, seen, writes, down, refuse, room⟩ := s
 obtain ⟨rfl, rfl, rfl⟩ := h
 have hc : ¬ (N.size = 0 ∨ 80 < N.size ∨ 65536 < D.size) := by omega
 refine ⟨?_, ?_, ?_⟩
 ·simp only [putE, if_neg hc, fullB, refB]
  simp
 ·simp only [putS, if_neg hc, fullB, refB, refS]
  rfl
 ·simp only [putS, if_neg hc, fullB, refB, refS]
  rfl
/-! ### the shards of a blob -/
def shardOf (k n : Nat) (d : List UInt8) (s : ByteArray) (i : Nat) : Shd.Shard := ⟨k, n, i, d, payB k n s i⟩
def datB (k n : Nat) (d : List UInt8) (s : ByteArray) (i : Nat) : ByteArray := ⟨((shardOf k n d s i).data Shd.sumL).toArray⟩
theorem nmB_size (d : ByteArray) (hd : d.size = 32) (i : Nat) (hi : i < 12) : (nmB d i).size ≠ 0 ∧ (nmB d i).size ≤ 80 := by
 have h1 := Shd.hex_len d.data.toList
 have h2 := Shd.itoa_len i hi
 have h3 : d.data.toList.length = d.size := by simp
 have h4 : (nmB d i).size = (nmL d i).length := rfl
 rw [h4]
 unfold nmL Shd.nameL
 simp only [List.length_append, List.length_cons, List.length_nil]
 omega
theorem datB_size {k n : Nat} {d : List UInt8} {s : ByteArray} {i : Nat} (hk : 0 < k) (hk2 : k ≤ 12) (hd : d.length = 32) (hs : s.size ≤ 32768) : (datB k n d s i).size ≤ 65536 := by
 have h1 : (datB k n d s i).size = ((shardOf k n d s i).data Shd.sumL).length := rfl
 rw [h1, Shd.data_len Shd.sumL_len _ hd]
 have h2 := payB_len (k := k) n s i hk
 have h3 := Cod.sizeZ_le k s.size hk
 show 75 + (payB k n s i).length ≤ _
 omega
theorem callP_calm {p : PW} (h : Calm p) {i : Nat} (hi : i < p.n) (s' : PSt) (e : Int) : callP p i s' = { p with calls := wrap64 (p.calls + 1), st := upd p.st i s' } ∧ callE p i e = e := by
 have hh : p.has i = true := by simp [PW.has]; omega
 unfold callP callE
 rw [if_pos hh, if_pos hh, h.stepd]
 simp only [Bool.false_eq_true, if_false, Int.toNat_natCast]
 rw [step_calm h]
 exact ⟨rfl, trivial⟩
end Hlt
end Go.Proofs.YtnbkhdbligjifaaGreatDoor
namespace Go.Proofs.YtnbkhdbligjifaaGreatDoor
open Go Go.RowKit Vm
namespace Hlt
structure FInv (w : World) (O : List Nat) (b : Nat) (p : PW) (k n : Nat) (d s : ByteArray) (bx : Nat) (v : Value) (p' : PW) (O' : List Nat) (wr : World) : Prop where
 wb : WB w O b p' O' wr
 box : Blk wr bx 25 #[.int .i64 (k : Int), .int .i64 (n : Int)]
 row : OwnG wr 0 9 1 v n (Cod.paysV (Cod.matL k n) (Cod.dataL s k (Cod.sizeZ k s.size)) n)
 off : bx ∉ O' ∧ ∀ g, v.ownBlock = some g → g ∉ O'
section
variable {w w2 w3 : World} {O : List Nat} {b : Nat} {p : PW} {k n : Nat} {d s : ByteArray} {bx : Nat} {v : Value} {p' p2 : PW} {O' : List Nat}
theorem FInv.ext (h : FInv w O b p k n d s bx v p' O' w2) (hE : Stab.Ext w2 w3) : FInv w O b p k n d s bx v p' O' w3 := ⟨h.wb.ext hE, h.box.below hE h.box.lt, h.row.ext hE, h.off⟩
theorem FInv.next (h : FInv w O b p k n d s bx v p' O' w2) {x : Value} {e : Ending} (hp : WPost w2 b O' x p2 e w3) : ∃ O3, FInv w O b p k n d s bx v p2 O3 w3 ∧ Fr O' w2 w3 := by
 obtain ⟨O3, h1, h2, h3⟩ := h.wb.next hp
 have hl := h.box.lt
 refine ⟨O3, ⟨h1, h2.blk h.box h.off.1, h.row.keep fun g hg => h2.block g (h.row.lt g hg).2 (h.off.2 g hg), fun hm => ?_, fun g hg hm => ?_⟩, h2⟩
 ·rcases h3 _ hm with h4 | h4
  ·exact h.off.1 h4
  ·omega
 ·rcases h3 _ hm with h4 | h4
  ·exact h.off.2 g hg h4
  ·have := (h.row.lt g hg).2; omega
end
theorem make_of {s : Shd.Shard} {e : Ending} (h : Shd.MakeEnd s e) (k : s.May) (hp : s.pay.length ≤ 65461) : e = .returned (.tuple #[Shd.objV (Shd.nameL s.dig s.idx) (s.data Shd.sumL), .int .i64 0]) := by
 rcases h with ⟨_, _, rfl⟩ | ⟨_, h, _⟩ | ⟨h, _⟩
 ·rfl
 ·omega
 ·exact absurd k h
structure MRd (bx g i : Nat) (k n : Int) (u : Value) (W : World) : Prop where
 c0 : W.cell? ⟨bx, 0, none⟩ = some (.int .i64 k)
 c1 : W.cell? ⟨bx, 1, none⟩ = some (.int .i64 n)
 c2 : W.cell? ⟨g, i, none⟩ = some u
 vars : Shd.Vars W
theorem MRd.ext {bx g i : Nat} {k n : Int} {u : Value} {W W' : World} (h : MRd bx g i k n u W) (hE : Stab.Ext W W') : MRd bx g i k n u W' := ⟨hE.cell h.c0, hE.cell h.c1, hE.cell h.c2, h.vars.below hE⟩
section
variable {W : World} {b : Nat} {p : PW} {O' : List Nat} {k n : Nat} {d s : ByteArray} {q L : Nat}
end
end Hlt
end Go.Proofs.YtnbkhdbligjifaaGreatDoor
namespace Go.Proofs.YtnbkhdbligjifaaGreatDoor
open Go Go.RowKit
namespace Vm
theorem ones_set1 (n : Nat) (Bf : Nat → Nat) (u : Nat → Bool) (i : Nat) (x : Bool) (hi : i < n) : (ones n Bf u).set (i * 2 + 1) (.bool x) = ones n Bf (upd u i x) := by
 induction n with
 | zero => omega
 | succ n ih =>
   have hl := ones_len n Bf u
   rw [ones_succ, ones_succ]
   by_cases h : i < n
   ·rw [List.set_append_left _ _ (by omega), ih h, upd_ne _ _ (by omega)]
   ·have he : i = n := by omega
    subst he
    rw [List.set_append_right _ _ (by omega), hl, show i * 2 + 1 - i * 2 = 1 by omega, upd_same, ones_congr (Bf' := Bf) (u' := upd u i x) fun j hj => ⟨rfl, (upd_ne _ _ (by omega)).symm⟩]
    rfl
theorem ones_set0 (n : Nat) (Bf : Nat → Nat) (u : Nat → Bool) (i B : Nat) (hi : i < n) : (ones n Bf u).set (i * 2) (.pointer (some ⟨B, 0, none⟩)) = ones n (upd Bf i B) u := by
 induction n with
 | zero => omega
 | succ n ih =>
   have hl := ones_len n Bf u
   rw [ones_succ, ones_succ]
   by_cases h : i < n
   ·rw [List.set_append_left _ _ (by omega), ih h, upd_ne _ _ (by omega)]
   ·have he : i = n := by omega
    subst he
    rw [List.set_append_right _ _ (by omega), hl, Nat.sub_self, upd_same, ones_congr (Bf' := upd Bf i B) (u' := u) fun j hj => ⟨(upd_ne _ _ (by omega)).symm, rfl⟩]
    rfl
theorem row_set {w : World} {base g : Nat} {e : TypeId} {size n cap : Nat} {xs : List Value} (h : w.ownsRow base e size (.slice (some ⟨g, 0, none⟩) n cap) n xs) (j : Nat) (hj : j < n * size) (u : Value) :
 (w.setCell ⟨g, j, none⟩ u).ownsRow base e size (.slice (some ⟨g, 0, none⟩) n cap) n (xs.set j u) := by
 refine ⟨by rw [List.length_set]; exact h.1, ?_⟩
 rcases h.2 with ⟨h1, _⟩ | ⟨g', cap', cur, h1, hb, hg, hn, hc, hs, ht⟩
 ·cases h1
 ·cases h1
  have hB : Blk w g e cur := hg
  refine .inr ⟨g, cap, cur.setIfInBounds j u, rfl, hb, hB.set_ j u, hn, hc, by simpa using hs, ?_⟩
  rw [Array.toList_setIfInBounds, List.take_set, ht]
theorem WIs.suspect {w : World} {b g cap : Nat} {p : PW} {Bf : Nat → Nat} {Of : Nat → List Nat} (h : WIs w b p (.slice (some ⟨g, 0, none⟩) p.n cap) Bf Of) {i : Nat} (hi : i < p.n) (x : Bool) :
 WIs (w.setCell ⟨g, i * 2 + 1, none⟩ (.bool x)) b { p with sus := upd p.sus i x } (.slice (some ⟨g, 0, none⟩) p.n cap) Bf Of ∧ Fr [g] w (w.setCell ⟨g, i * 2 + 1, none⟩ (.bool x)) := by
 have hf := Fr.cell w ⟨g, i * 2 + 1, none⟩ (.bool x)
 have hgb : g ≠ b := fun he => h.ne (by rw [he]; rfl)
 refine ⟨⟨hf.blk h.blk (by simp only [List.mem_singleton]; exact Ne.symm hgb), ?_, fun j hj => (h.st j hj).keep hf fun k hk hm => ?_, h.apart, h.off, h.ne⟩, hf⟩
 ·have := row_set h.row (i * 2 + 1) (by omega) (.bool x)
  rw [ones_set1 _ _ _ _ _ hi] at this
  exact this
 ·simp only [List.mem_singleton] at hm
  subst hm
  exact (h.off j hj).2 _ rfl hk
def PW.strikeE (p : PW) (f : Flt) : Int := if p.has f.store then hitE f else 1
def PW.struck (p : PW) (f : Flt) : PW :=
 if p.has f.store then (if hitE f = 0 then (if f.kind = 5 then { p with st := upd p.st f.store.toNat (struckS (p.st f.store.toNat) f) } else if f.kind = 7 then { p with st := upd p.st f.store.toNat (struckS (p.st f.store.toNat) f) } else
  { p with st := upd p.st f.store.toNat (struckS (p.st f.store.toNat) f), sus := upd p.sus f.store.toNat true }) else p) else p
def WSEnd (w : World) (b g cap : Nat) (p : PW) (Bf : Nat → Nat) (Of : Nat → List Nat) (i : Nat) (s' : PSt) (w2 : World) : Prop :=
 ∃ O', WIs w2 b { p with st := upd p.st i s' } (.slice (some ⟨g, 0, none⟩) p.n cap) Bf (upd Of i O') ∧ Fr (Of i) w w2 ∧ ∀ k, k ∈ O' → k ∈ Of i ∨ w.heap.size ≤ k
theorem wsp {w w1 : World} {b g cap : Nat} {p : PW} {Bf : Nat → Nat} {Of : Nat → List Nat} {i : Nat} (h : WIs w1 b p (.slice (some ⟨g, 0, none⟩) p.n cap) Bf Of) (hi : i < p.n) (hw : Fr [] w w1) {s' : PSt} {x kx : Value} {bx : Nat} (hbx : w.heap.size ≤ bx) (hbo : ∀ k, k ∈ Of i → k < w.heap.size) (hk : w1.cell? ⟨bx, 0, none⟩ = some kx) :
 ∀ w' e w2, Stab.Ext w1 w' → StPost w' (Bf i) (Of i) x s' e w2 → e = .returned x ∧ w2.cell? ⟨bx, 0, none⟩ = some kx ∧ w2.cell? ⟨g, i * 2 + 1, none⟩ = some (.bool (p.sus i)) ∧ w2.frozen? ⟨g, i * 2 + 1, none⟩ = false ∧ Hid (WSEnd w b g cap p Bf Of i s' w2) := by
 rintro w' e w2 hE ⟨he, O', q1, q2, q3⟩
 have h' := h.keep (Fr.of_below (O := []) hE) (by simp)
 have h2 := h'.store hi q1 q2 q3
 have hbl : bx < w1.heap.size := lt_cell hk
 have hs1 := hE.size
 have hc : w2.cell? ⟨bx, 0, none⟩ = some kx := by
  have e1 : w'.cell? ⟨bx, 0, none⟩ = some kx := (hE.cell hk)
  exact (World.cell?_of_block (q2.block bx (by omega) (fun hm => by have := hbo _ hm; omega))).trans e1
 obtain ⟨g', cap', hv, -, hc2⟩ := h2.rowc (i := i) hi
 cases hv
 have hfz : w2.frozen? ⟨g, i * 2 + 1, none⟩ = false := by
  rcases h2.row.2 with ⟨h1, _⟩ | ⟨g', cap', cur, h1, hb, hg, _⟩
  ·cases h1
  ·cases h1
   exact Blk.frozen (show Blk w2 g _ cur from hg) _
 refine ⟨he, hc, hc2, hfz, Lib.hid ⟨O', h2, (hw.sub (by simp)).trans ((Fr.of_below (O := Of i) hE).next q2) (fun k hk _ => hk), fun k hk => ?_⟩⟩
 rcases q3 k hk with h3 | h3
 ·exact .inl h3
 ·exact .inr (Nat.le_trans hw.size (Nat.le_trans hs1 h3))
theorem WSEnd.own {w w2 : World} {b g cap : Nat} {p : PW} {Bf : Nat → Nat} {Of : Nat → List Nat} {i : Nat} {O' : List Nat} (hi : i < p.n) (q3 : ∀ k, k ∈ O' → k ∈ Of i ∨ w.heap.size ≤ k) (v : Value) :
 ∀ k, k ∈ wOwn b v p.n (upd Of i O') → k ∈ wOwn b v p.n Of ∨ w.heap.size ≤ k := by
 intro k hk
 rcases mem_wOwn.1 hk with rfl | hg | ⟨j, hj, hk⟩
 ·exact .inl (mem_wOwn.2 (.inl rfl))
 ·exact .inl (mem_wOwn.2 (.inr (.inl hg)))
 ·by_cases he : j = i
  ·subst he
   rw [upd_same] at hk
   rcases q3 k hk with h | h
   ·exact .inl (mem_wOwn.2 (.inr (.inr ⟨j, hi, h⟩)))
   ·exact .inr h
  ·rw [upd_ne _ _ he] at hk
   exact .inl (mem_wOwn.2 (.inr (.inr ⟨j, hj, hk⟩)))
theorem WSEnd.plain {w w2 : World} {b g cap : Nat} {p : PW} {Bf : Nat → Nat} {Of : Nat → List Nat} {i : Nat} {s' : PSt} (h : WSEnd w b g cap p Bf Of i s' w2) (hi : i < p.n) {p' : PW} (hp : p' = { p with st := upd p.st i s' }) (x : Value) :
 WPost w b (wOwn b (.slice (some ⟨g, 0, none⟩) p.n cap) p.n Of) x p' (.returned x) w2 := by
 obtain ⟨O', q1, q2, q3⟩ := h
 subst hp
 exact ⟨rfl, _, ⟨_, Bf, _, q1, rfl⟩, q2.sub fun k hk => mem_wOwn.2 (.inr (.inr ⟨i, hi, hk⟩)), WSEnd.own hi q3 _ (w2 := w2) (cap := cap) (Bf := Bf) (g := g)⟩
theorem WSEnd.suspect {w w2 : World} {b g cap : Nat} {p : PW} {Bf : Nat → Nat} {Of : Nat → List Nat} {i : Nat} {s' : PSt} (h : WSEnd w b g cap p Bf Of i s' w2) (hi : i < p.n) {p' : PW} (hp : p' = { p with st := upd p.st i s', sus := upd p.sus i true }) (x : Value) :
 WPost w b (wOwn b (.slice (some ⟨g, 0, none⟩) p.n cap) p.n Of) x p' (.returned x) (w2.setCell ⟨g, i * 2 + 1, none⟩ (.bool true)) := by
 obtain ⟨O', q1, q2, q3⟩ := h
 obtain ⟨h1, hf⟩ := q1.suspect hi true
 subst hp
 exact ⟨rfl, _, ⟨_, Bf, _, h1, rfl⟩, (q2.sub fun k hk => mem_wOwn.2 (.inr (.inr ⟨i, hi, hk⟩))).trans hf (fun k hk _ => by simp only [List.mem_singleton] at hk; subst hk; exact mem_wOwn.2 (.inr (.inl rfl))), WSEnd.own hi q3 _ (w2 := w2) (cap := cap) (Bf := Bf) (g := g)⟩
theorem struck_bad {p : PW} {f : Flt} (hh : p.has f.store = true) (h : ¬ hitE f = 0) : p.strikeE f = hitE f ∧ p.struck f = { p with st := upd p.st f.store.toNat (struckS (p.st f.store.toNat) f) } := by
 have ho : ¬ f.okB = true := fun ho => h (by rw [hitE, if_pos ho])
 refine ⟨by simp [PW.strikeE, hh], ?_⟩
 rw [struckS, if_neg ho, upd_self]
 simp [PW.struck, hh, h]
theorem struck_up {p : PW} {f : Flt} (hh : p.has f.store = true) (h : hitE f = 0) (hk : f.kind = 5 ∨ f.kind = 7) : p.strikeE f = 0 ∧ p.struck f = { p with st := upd p.st f.store.toNat (struckS (p.st f.store.toNat) f) } := by
 refine ⟨by simp [PW.strikeE, hh, h], ?_⟩
 rcases hk with hk | hk <;> simp [PW.struck, hh, h, hk]
theorem struck_sus {p : PW} {f : Flt} (hh : p.has f.store = true) (h : hitE f = 0) (h5 : ¬ f.kind = 5) (h7 : ¬ f.kind = 7) : p.strikeE f = 0 ∧ p.struck f = { p with st := upd p.st f.store.toNat (struckS (p.st f.store.toNat) f), sus := upd p.sus f.store.toNat true } :=
 ⟨by simp [PW.strikeE, hh, h], by simp [PW.struck, hh, h, h5, h7]⟩
theorem wstrike_any {w : World} {b : Nat} {p : PW} {O : List Nat} (h : WAt w b p O) (f : Flt) (hf : f.fits) (hs : Small (p.st f.store.toNat).seen) :
 Calls Tryz.prog 13 #[.pointer (some ⟨b, 0, none⟩), .agg #[.int .u8 f.kind, .int .i64 f.store, .int .i64 f.n, .int .i64 f.at_, .int .i64 f.c]] w (WPost w b O (.int .i64 (p.strikeE f)) (p.struck f)) := by
 obtain ⟨v, Bf, Of, h, rfl⟩ := h
 have hw0 : Fr [] w (w.alloc (.cells #[.int .u8 f.kind, .int .i64 f.store, .int .i64 f.n, .int .i64 f.at_, .int .i64 f.c] 34)) := Fr.alloc _ _
 have bx := Blk.new w 34 #[.int .u8 f.kind, .int .i64 f.store, .int .i64 f.n, .int .i64 f.at_, .int .i64 f.c]
 have HF0 := Lib.hid (hw0.nil (O := wOwn b v p.n Of))
 have h1 := h.keep hw0 (by simp)
 have HHAS := Lib.hid (has_any ⟨v, Bf, Of, h1, rfl⟩ f.store)
 have HLT := Lib.hid h.lt
 have HBX := Lib.hid bx
 cases hh : p.has f.store with
 | false =>
   have HV := Lib.hid (show p.strikeE f = 1 ∧ p.struck f = p from ⟨by simp [PW.strikeE, hh], by simp [PW.struck, hh]⟩)
   have H1 := Lib.hid h1
   have k1 := bx.cell 1
   rw [hh] at HHAS
   clear h h1 hh hw0 bx
   go_enter Tryz.func13, Tryz.ntmps13
   go_wp2_with (go_at_call 41; with_reducible refine HHAS.out.mono ?_)
   intro e w1 hq
   obtain ⟨rfl, rfl⟩ := hq
   go_wp2_with fail
   go_ret
   rw [HV.out.1, HV.out.2]
   exact ⟨rfl, _, ⟨v, Bf, Of, H1.out, rfl⟩, HF0.out, fun k hk => .inl hk⟩
 | true =>
   have hi : 0 ≤ f.store ∧ f.store < (p.n : Int) := of_decide_eq_true hh
   obtain ⟨hi0, hi1⟩ := hi
   obtain ⟨g, cap, rfl, hc1, -⟩ := h1.rowc (i := f.store.toNat) (by omega)
   have c0 := h1.c0
   have hgl : g < w.heap.size := row_lt h.row rfl
   have HST := Lib.hid (fun w' (hE : Stab.Ext (w.alloc (.cells #[.int .u8 f.kind, .int .i64 f.store, .int .i64 f.n, .int .i64 f.at_, .int .i64 f.c] 34)) w') => strike_any ((h1.st f.store.toNat (by omega)).keep (Fr.of_below (O := []) hE) (by simp)) hs f hf)
   have WSP := Lib.hid (wsp (w := w) (x := .int .i64 (hitE f)) (s' := struckS (p.st f.store.toNat) f) h1 (i := f.store.toNat) (by omega) hw0 (Nat.le_refl _) (h.st f.store.toNat (by omega)).lt (bx.cell 0))
   have HLI := Lib.hid (show f.store.toNat < p.n by omega)
   have H1 := Lib.hid h1
   have k0 := bx.cell 0
   have k1 := bx.cell 1
   have k2 := bx.cell 2
   have k3 := bx.cell 3
   have k4 := bx.cell 4
   rw [hh] at HHAS
   clear h h1 hw0 bx
   go_enter Tryz.func13, Tryz.ntmps13
   go_wp2_with (go_at_call 41; with_reducible refine HHAS.out.mono ?_)
   intro e w1 hq
   obtain ⟨rfl, rfl⟩ := hq
   go_wp2_with fail
   go_region
   go_wp2_with fail
   go_region_with (go_at_call 42; refine (HST.out _ ?_).mono ?_; exact (Stab.Ext.drew _).trans (Stab.Ext.drew _); intro e w2 hp; obtain ⟨rfl, d0, d1, z1, hend⟩ := WSP.out _ _ _ ((Stab.Ext.drew _).trans (Stab.Ext.drew _)) hp; clear hp)
   all_goals
    go_wp2_with fail
    all_goals
     go_ret
     first
      | (have hq := struck_bad hh (by simpa using ‹(hitE f != 0) = true›); rw [hq.1]; exact hend.out.plain HLI.out hq.2 _)
      | (have hq := struck_sus hh (by simpa using ‹(hitE f != 0) = false›) (by simpa using (‹(f.kind != 5) = true ∧ (f.kind != 7) = true› : _ ∧ _).1) (by simpa using (‹(f.kind != 5) = true ∧ (f.kind != 7) = true› : _ ∧ _).2); rw [hq.1]; exact hend.out.suspect HLI.out hq.2 _)
      | (have hq := struck_up hh (by simpa using ‹(hitE f != 0) = false›) (.inl (by assumption)); rw [hq.1]; exact hend.out.plain HLI.out hq.2 _)
      | (have hq := struck_up hh (by simpa using ‹(hitE f != 0) = false›) (.inr (by have h := ‹(f.kind != 5) = false ∨ (f.kind != 7) = false›; have h2 := ‹¬ f.kind = 5›; simp at h; omega)); rw [hq.1]; exact hend.out.plain HLI.out hq.2 _)
end Vm
end Go.Proofs.YtnbkhdbligjifaaGreatDoor
namespace Go.Proofs.YtnbkhdbligjifaaGreatDoor
open Go Go.RowKit Vm
open scoped Classical
namespace Hlt
/-! ### faults keep stores small -/
theorem del_mem {m : TMap} {k : ByteArray} {x : ByteArray × ByteArray} (h : x ∈ TMap.del m k) : x ∈ m := by
 induction m with
 | nil => simp [TMap.del] at h
 | cons p m ih =>
   obtain ⟨a, b⟩ := p
   unfold TMap.del at h
   split at h
   ·exact List.mem_cons_of_mem _ h
   ·simp only [List.mem_cons] at h ⊢
    exact h.imp id ih
theorem del_len (m : TMap) (k : ByteArray) : (TMap.del m k).length ≤ m.length := by
 induction m with
 | nil => simp [TMap.del]
 | cons p m ih =>
   obtain ⟨a, b⟩ := p
   unfold TMap.del
   split <;> simp <;> omega
theorem put_len_in {m : TMap} {N D d : ByteArray} (h : TMap.look m N = some d) : (TMap.put m N D).length = m.length := by
 induction m with
 | nil => simp [TMap.look] at h
 | cons p m ih =>
   obtain ⟨a, b⟩ := p
   unfold TMap.put
   unfold TMap.look at h
   split
   ·simp
   ·next hne =>
    rw [if_neg hne] at h
    simp [ih h]
theorem bentB_size (d : ByteArray) (a c : Int) : (bentB d a c).size = d.size := by
 show (d.data.toList.set _ _).length = d.size
 simp
theorem struck_fits {L : Nat} {s : PSt} (h : Fits L s) {f : Flt} (hf : f.fits) : Fits L (struckS s f) := by
 unfold struckS
 by_cases hok : f.okB = true
 case neg => rw [if_neg hok]; exact h
 rw [if_pos hok]
 unfold hitS
 split
 ·exact ⟨Nat.zero_le _, fun p hp => by simp [PSt.settled] at hp, rfl, h.room⟩
 split
 ·have hl : ∀ n, (lostM s.seen n).length ≤ L ∧ ∀ p ∈ lostM s.seen n, p ∈ s.seen := fun n => by
   unfold lostM
   split
   ·exact ⟨Nat.le_trans (del_len _ _) h.len, fun p hp => del_mem hp⟩
   ·exact ⟨h.len, fun p hp => hp⟩
  exact ⟨(hl _).1, fun p hp => h.key p ((hl _).2 p hp), rfl, h.room⟩
 split
 ·have hl : (bentM s.seen f).length ≤ L ∧ ∀ p ∈ bentM s.seen f, p.1.size ≤ 80 ∧ p.2.size ≤ 65536 := by
   unfold bentM
   split
   ·next k hk =>
    split
    ·next d hd =>
     split
     ·exact ⟨h.len, h.key⟩
     ·refine ⟨by rw [put_len_in hd]; exact h.len, fun p hp => ?_⟩
      rcases put_mem hp with rfl | hp
      ·have := h.key _ (TMap.look_mem hd)
       exact ⟨this.1, by rw [bentB_size]; exact this.2⟩
      ·exact h.key p hp
    ·exact ⟨h.len, h.key⟩
   ·exact ⟨h.len, h.key⟩
  exact ⟨hl.1, hl.2, rfl, h.room⟩
 split
 ·exact ⟨h.len, h.key, h.wr, h.room⟩
 split
 ·exact ⟨h.len, h.key, h.wr, h.room⟩
 split
 ·exact ⟨h.len, h.key, h.wr, h.room⟩
 ·exact ⟨h.len, h.key, h.wr, hf.n⟩
structure WFit (L n : Nat) (p : PW) : Prop where
 n_ : p.n = n
 fits : ∀ i, Fits L (p.st i)
 calm : Calm p
theorem struck_world {L n : Nat} {p : PW} (h : WFit L n p) {f : Flt} (hf : f.fits) : WFit L n (p.struck f) ∧ (p.struck f).calls = p.calls := by
 have key : ∀ i, Fits L (upd p.st f.store.toNat (struckS (p.st f.store.toNat) f) i) := fun i => by
  by_cases he : i = f.store.toNat
  ·subst he; rw [upd_same]; exact struck_fits (h.fits _) hf
  ·rw [upd_ne _ _ he]; exact h.fits i
 unfold PW.struck
 by_cases h1 : p.has f.store = true
 case neg => rw [if_neg h1]; exact ⟨h, rfl⟩
 rw [if_pos h1]
 by_cases h2 : hitE f = 0
 case neg => rw [if_neg h2]; exact ⟨h, rfl⟩
 rw [if_pos h2]
 split
 ·exact ⟨⟨h.n_, key, h.calm⟩, rfl⟩
 split
 ·exact ⟨⟨h.n_, key, h.calm⟩, rfl⟩
 ·exact ⟨⟨h.n_, key, h.calm⟩, rfl⟩
end Hlt
end Go.Proofs.YtnbkhdbligjifaaGreatDoor
namespace Go.Proofs.YtnbkhdbligjifaaGreatDoor
open Go Go.RowKit
namespace Vm
def CopyPost (w : World) (s : PSt) (e : Ending) (w' : World) : Prop := ∃ B O, e = .returned (.pointer (some ⟨B, 0, none⟩)) ∧ (∀ k, k ∈ O → w.heap.size ≤ k) ∧ SAt w' B s O ∧ Below w.heap.size w w'
theorem cloneM_in {w : World} {g : Nat} {m : TMap} (h : MapIs w g m) : ∀ w', Stab.Ext w w' →
 Calls Tryz.prog 83 #[.map (some g)] w' fun e w2 => ∃ b, e = .returned (.map (some b)) ∧ w'.heap.size ≤ b ∧ MapIs w2 b m ∧ Stab.Ext w' w2 := by
 intro w' hE
 obtain ⟨es, cl, hb, hf⟩ := h
 refine (clone_any g es cl w' ((Below.block hE g (Array.getElem?_eq_some_iff.1 hb).1).trans hb)).mono ?_
 rintro e w2 ⟨rfl, rfl⟩
 exact ⟨_, rfl, Nat.le_refl _, ⟨es, cl, heap_alloc_new w' _, hf⟩, Stab.Ext.alloc _ _⟩
structure CF (B C : Nat) (s : PSt) (g m : Nat) (ws : Value) (W : World) : Prop where
 st : SIs W B s g m ws
 nb : Blk W C 129 (stCells s g m ws)
theorem CF.ext {B C : Nat} {s : PSt} {g m : Nat} {ws : Value} {W W' : World} (h : CF B C s g m ws W) (hE : Stab.Ext W W') : CF B C s g m ws W' := ⟨h.st.keep (Fr.of_below (O := []) hE) (by simp), (Fr.of_below (O := []) hE).blk h.nb (by simp)⟩
def CmPost (B C : Nat) (s : PSt) (g m : Nat) (ws : Value) (x : TMap) (w' : World) (e : Ending) (w2 : World) : Prop :=
 ∃ b, e = .returned (.map (some b)) ∧ Hid (w'.heap.size ≤ b ∧ b < w2.heap.size ∧ MapIs w2 b x) ∧ Hid (Stab.Ext w' w2) ∧ Hid (CF B C s g m ws w2) ∧ w2.cell? ⟨B, 0, none⟩ = some (.map (some g)) ∧ w2.cell? ⟨B, 1, none⟩ = some ws ∧ w2.cell? ⟨B, 2, none⟩ = some (.map (some m))
theorem mpost {B C : Nat} {s : PSt} {g m : Nat} {ws : Value} {W : World} (h : CF B C s g m ws W) (k : Nat) (x : TMap) (hx : ∀ w', SIs w' B s g m ws → MapIs w' k x) : ∀ w', Stab.Ext W w' →
 Calls Tryz.prog 83 #[.map (some k)] w' (CmPost B C s g m ws x w') := by
 intro w' hE
 refine (cloneM_in (hx _ (h.ext hE).st) w' (Stab.Ext.refl _)).mono ?_
 rintro e w2 ⟨b, rfl, hb, hm, hE2⟩
 have h2 := (h.ext hE).ext hE2
 exact ⟨b, rfl, Lib.hid ⟨hb, hm.lt, hm⟩, Lib.hid hE2, Lib.hid h2, h2.st.c0, h2.st.c1, h2.st.c2⟩
def CwPost (B C : Nat) (s : PSt) (g m : Nat) (ws : Value) (w' : World) (e : Ending) (w2 : World) : Prop :=
 ∃ A cap, e = .returned (.slice A s.writes.length cap) ∧ Hid (w2.ownsRow w'.heap.size 155 3 (.slice A s.writes.length cap) s.writes.length (wcells s.writes)) ∧ Hid (Stab.Ext w' w2) ∧ Hid (CF B C s g m ws w2) ∧
  w2.cell? ⟨C, 0, none⟩ = some (.map (some g)) ∧ w2.cell? ⟨C, 1, none⟩ = some ws ∧ w2.cell? ⟨C, 2, none⟩ = some (.map (some m)) ∧ w2.frozen? ⟨C, 0, none⟩ = false ∧ w2.frozen? ⟨C, 1, none⟩ = false ∧ w2.frozen? ⟨C, 2, none⟩ = false
theorem wcells_one (l : List (ByteArray × ByteArray × Bool)) : ∀ u ∈ wcells l, u.oneCell' = true := by
 intro u hu
 simp only [wcells, List.mem_flatMap, wcell] at hu
 obtain ⟨x, _, hx⟩ := hu
 simp at hx
 rcases hx with rfl | rfl | rfl <;> rfl
theorem wpost {B C : Nat} {s : PSt} {g m : Nat} {ws : Value} {W : World} (h : CF B C s g m ws W) (hw : s.writes.length ≤ 1000000) : ∀ w', Stab.Ext W w' →
 Calls Tryz.prog 84 #[ws] w' (CwPost B C s g m ws w') := by
 intro w' hE
 refine (cloneW_any (h.ext hE).st.row (wcells_one _) hw).mono ?_
 rintro e w2 ⟨v, rfl, hr, hb⟩
 have h2 := (h.ext hE).ext hb
 obtain ⟨A, cap, rfl⟩ := row_shape hr
 exact ⟨A, cap, rfl, Lib.hid hr, Lib.hid hb, Lib.hid h2, h2.nb.cell 0, h2.nb.cell 1, h2.nb.cell 2, h2.nb.frozen 0, h2.nb.frozen 1, h2.nb.frozen 2⟩
theorem copy_end {w W3 w4 w9 w14 : World} {B C : Nat} {s : PSt} {g m b4 b9 cap14 : Nat} {ws : Value} {A14 : Option Addr} (hC : w.heap.size = C) (h0 : Stab.Ext w W3) (h3 : CF B C s g m ws W3)
 (hb4 : W3.drew.heap.size ≤ b4 ∧ b4 < w4.heap.size ∧ MapIs w4 b4 s.good) (hE4 : Stab.Ext W3.drew w4) (hb9 : w4.heap.size ≤ b9 ∧ b9 < w9.heap.size ∧ MapIs w9 b9 s.seen) (hE9 : Stab.Ext w4 w9)
 (hr : w14.ownsRow w9.heap.size 155 3 (.slice A14 s.writes.length cap14) s.writes.length (wcells s.writes)) (hE14 : Stab.Ext w9 w14) (hC14 : CF B C s g m ws w14) :
 CopyPost w s (.returned (.pointer (some ⟨C, 0, none⟩))) (((w14.setCell ⟨C, 0, none⟩ (.map (some b4))).setCell ⟨C, 2, none⟩ (.map (some b9))).setCell ⟨C, 1, none⟩ (.slice A14 s.writes.length cap14)) := by
 have hlt := h3.nb.lt
 have hd : W3.drew.heap.size = W3.heap.size := rfl
 have s0 := h0.size
 have s4 := hE4.size
 have s9 := hE9.size
 have s14 := hE14.size
 have hrb : ∀ k, (Value.slice A14 s.writes.length cap14).ownBlock = some k → w9.heap.size ≤ k ∧ k < w14.heap.size := fun k hk => hr.lt k hk
 have f1 := Fr.cell w14 ⟨C, 0, none⟩ (.map (some b4))
 have f2 := f1.trans (Fr.cell (w14.setCell ⟨C, 0, none⟩ (.map (some b4))) ⟨C, 2, none⟩ (.map (some b9))) (fun k hk _ => hk)
 have f3 := f2.trans (Fr.cell ((w14.setCell ⟨C, 0, none⟩ (.map (some b4))).setCell ⟨C, 2, none⟩ (.map (some b9))) ⟨C, 1, none⟩ (.slice A14 s.writes.length cap14)) (fun k hk _ => hk)
 have m4 : MapIs w14 b4 s.good := (Fr.of_below (O := []) (hE9.trans hE14)).map hb4.2.2 (by simp)
 have m9 : MapIs w14 b9 s.seen := (Fr.of_below (O := []) hE14).map hb9.2.2 (by simp)
 have hown : ∀ k, k ∈ sOwn C b4 b9 (.slice A14 s.writes.length cap14) → C ≤ k := by
  intro k hk
  simp only [sOwn, List.mem_cons, Option.mem_toList] at hk
  rcases hk with rfl | rfl | rfl | hk
  ·exact Nat.le_refl _
  ·omega
  ·omega
  ·have := (hrb k hk).1; omega
 refine ⟨C, sOwn C b4 b9 (.slice A14 s.writes.length cap14), rfl, fun k hk => by rw [hC]; exact hown k hk, ⟨b4, b9, _, ⟨((hC14.nb.set_ 0 _).set_ 2 _).set_ 1 _, ?_, ?_, ?_, ?_⟩, rfl⟩, ?_⟩
 ·exact f3.map m4 (by simp only [List.mem_singleton]; omega)
 ·exact f3.map m9 (by simp only [List.mem_singleton]; omega)
 ·refine row_heap ⟨hr.1, ?_⟩ fun k hk => f3.block k (hrb k hk).2 (by have := (hrb k hk).1; simp only [List.mem_singleton]; omega)
  rcases hr.2 with h | ⟨g', c', cur, h1, h2, h3⟩
  ·exact .inl h
  ·exact .inr ⟨g', c', cur, h1, Nat.zero_le _, h3⟩
 ·simp only [sOwn, List.nodup_cons, List.mem_cons, Option.mem_toList, not_or]
  refine ⟨⟨by omega, by omega, fun h => ?_⟩, ⟨by omega, fun h => ?_⟩, fun h => ?_, ?_⟩
  ·have := (hrb _ h).1; omega
  ·have := (hrb _ h).1; omega
  ·have := (hrb _ h).1; omega
  ·cases A14 <;> simp [Value.ownBlock]
 ·have hb : Below w.heap.size w w14 := Below.trans h0 (((Below.drew (Below.refl W3.heap.size W3)).mono s0).trans (((hE4.mono (by omega)).trans (hE9.mono (by omega))).trans (hE14.mono (by omega))))
  rw [hC] at hb ⊢
  exact ((hb.setCell (p := ⟨C, 0, none⟩) (Nat.le_refl _) _).setCell (p := ⟨C, 2, none⟩) (Nat.le_refl _) _).setCell (p := ⟨C, 1, none⟩) (Nat.le_refl _) _
theorem copy_any {w : World} {B : Nat} {s : PSt} {O : List Nat} (h : SAt w B s O) (hw : s.writes.length ≤ 1000000) :
 Calls Tryz.prog 44 #[.pointer (some ⟨B, 0, none⟩)] w (CopyPost w s) := by
 obtain ⟨g, m, ws, h, rfl⟩ := h
 have c0 := h.c0
 have c1 := h.c1
 have c2 := h.c2
 have c3 := h.c3
 have c4 := h.c4
 have c5 := h.c5
 obtain ⟨A, cap, hve⟩ : ∃ A cap, ws = .slice A s.writes.length cap := row_shape h.row
 subst hve
 have HC := Lib.hid (show CF B w.heap.size s g m (.slice A s.writes.length cap) (w.alloc (.cells (stCells s g m (.slice A s.writes.length cap)) 129)) from ⟨h.alloc _, Blk.new _ _ _⟩)
 have HE0 := Lib.hid (Stab.Ext.alloc w (.cells (stCells s g m (.slice A s.writes.length cap)) 129))
 obtain ⟨W3, hW3⟩ : ∃ W3, W3 = w.alloc (.cells (stCells s g m (.slice A s.writes.length cap)) 129) := ⟨_, rfl⟩
 have HW3 := Lib.hid hW3
 rw [← hW3] at HC HE0
 clear h hW3
 go_enter Tryz.func44, Tryz.ntmps44
 go_wp2_with fail
 have hW3 := HW3.out
 unfold stCells at hW3
 rw [← hW3]
 clear hW3 HW3 c0 c1 c2 c3 c4 c5
 have c0 := HC.out.st.c0
 have c1 := HC.out.st.c1
 have c2 := HC.out.st.c2
 have CG := Lib.hid (mpost HC.out g s.good (fun _ h => h.good))
 have CM := Lib.hid (mpost HC.out m s.seen (fun _ h => h.seen))
 have CW := Lib.hid (wpost HC.out hw)
 have HCQ := Lib.hid (show w.heap.size = w.heap.size from rfl)
 generalize hCq : w.heap.size = C at *
 have HCE := Lib.hid hCq
 clear hCq HCQ
 go_region_with (first
  | (go_at_call_of 83 (Value.map (some g)); refine (CG.out _ ?_).mono ?_; exact Stab.Ext.drew _; rintro e w4 ⟨b4, rfl, hb4, hE4, hC4, e0, e1, e2⟩)
  | (go_at_call_of 83 (Value.map (some m)); refine (CM.out _ ?_).mono ?_; exact (Stab.Ext.drew _).trans hE4.out; rintro e w9 ⟨b9, rfl, hb9, hE9, hC9, f0, f1, f2⟩)
  | (go_at_call 84; refine (CW.out _ ?_).mono ?_; exact ((Stab.Ext.drew _).trans hE4.out).trans hE9.out; rintro e w14 ⟨A14, cap14, rfl, hr14, hE14, hC14, d0, d1, d2, z0, z1, z2⟩))
 all_goals
  go_wp2_with fail
  go_ret
  exact copy_end HCE.out HE0.out HC.out hb4.out hE4.out hb9.out hE9.out hr14.out hE14.out hC14.out
end Vm
end Go.Proofs.YtnbkhdbligjifaaGreatDoor
