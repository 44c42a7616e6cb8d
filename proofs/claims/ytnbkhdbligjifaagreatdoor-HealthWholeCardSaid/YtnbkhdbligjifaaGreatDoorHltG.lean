/-
 The code package: Encode. The health laws: what puts a blob's shards into all stores. The health laws: fill. A world in memory: Strike. The health laws: sameObjects; faults keep stores small.
-/
import Derived.Test.YtnbkhdbligjifaaGreatDoorCodG
import Derived.Test.YtnbkhdbligjifaaGreatDoorCodA
import Derived.Test.YtnbkhdbligjifaaGreatDoorWldF
import Derived.Test.YtnbkhdbligjifaaGreatDoorStoE
import Derived.Test.YtnbkhdbligjifaaGreatDoorWldB
set_option linter.unusedVariables false
set_option linter.unusedSimpArgs false
set_option maxRecDepth 100000
set_option maxHeartbeats 40000000
namespace Go.Proofs.YtnbkhdbligjifaaGreatDoor
open Go Go.RowKit
namespace Cod
def sizeZ (k m : Nat) : Nat := (8 + m + k - 1) / k
theorem sizeZ_mul (k m : Nat) (hk : 0 < k) : m + 8 ≤ sizeZ k m * k := by
 unfold sizeZ
 have h1 := Nat.div_add_mod (8 + m + k - 1) k
 have h2 := Nat.mod_lt (8 + m + k - 1) hk
 rw [Nat.mul_comm]
 omega
theorem sizeZ_le (k m : Nat) (hk : 0 < k) : sizeZ k m ≤ m + 8 + k := by
 unfold sizeZ
 exact Nat.le_trans (Nat.div_le_self _ _) (by omega)
theorem sizeN_nat (k m : Nat) (hk : 0 < k) : sizeN (k : Int) (m : Int) = (sizeZ k m : Nat) := by
 unfold sizeN sizeZ
 rw [show (8 + (m : Int) + (k : Int) - 1) = ((8 + m + k - 1 : Nat) : Int) by omega]
 norm_cast
def rowsV (ls : List (List Nat)) : Stab.SVal := ⟨fun v W => Spr.Rows W v ls, fun _ _ _ h hE => h.ext hE⟩
def paysS (base : Nat) (ms ls : List (List Nat)) : Stab.SVal := ⟨fun v W => OwnG W base 9 1 v ms.length (paysV ms ls ms.length), fun _ _ _ h hE => h.ext hE⟩
def EncPost (w : World) (k n : Nat) (s : ByteArray) (e : Ending) (w' : World) : Prop := ∃ v, e = .returned (.tuple #[v, .int .i64 0]) ∧ OwnG w' w.heap.size 9 1 v (matL k n).length (paysV (matL k n) (dataL s k (sizeZ k s.size)) (matL k n).length) ∧ Below w.heap.size w w'
theorem dataL_wide (s : ByteArray) (k z : Nat) (hk : 0 < k) : Spr.wide (dataL s k z) = z := by
 unfold Spr.wide dataL
 rw [List.getD, List.getElem?_map, List.getElem?_range hk]
 simp
structure ERd (bx : Nat) (k n : Int) (W : World) : Prop where
 c0 : W.cell? ⟨bx, 0, none⟩ = some (.int .i64 k)
 c1 : W.cell? ⟨bx, 1, none⟩ = some (.int .i64 n)
theorem ERd.ext {bx : Nat} {k n : Int} {w w' : World} (h : ERd bx k n w) (hE : Stab.Ext w w') : ERd bx k n w' := ⟨hE.cell h.c0, hE.cell h.c1⟩
theorem encode_any {G : Nat} (hnew : ∀ w : World, G ≤ w.heap.size → Calls Tryz.prog 139 #[] w (Spr.NewPost w)) (w : World) (hG : G ≤ w.heap.size) (k n : Nat) (hc : codeB (k : Int) (n : Int) = true) (s : ByteArray) (hs : s.size ≤ 32768) :
 Calls Tryz.prog 36 #[.agg #[.int .i64 (k : Int), .int .i64 (n : Int)], .string s] w (EncPost w k n s) := by
 obtain ⟨h1, h2, h3⟩ := (codeB_iff _ _).1 hc
 have hE0 := Stab.Ext.alloc w (.cells #[.int .i64 (k : Int), .int .i64 (n : Int)] 25)
 have bx := Blk.new w 25 #[.int .i64 (k : Int), .int .i64 (n : Int)]
 have HS := Lib.hid (size_any (k : Int) (n : Int) (s.size : Int) (w.alloc (.cells #[.int .i64 (k : Int), .int .i64 (n : Int)] 25)))
 have hkz := sizeZ_mul k s.size (by omega)
 have hzl := sizeZ_le k s.size (by omega)
 have hzn := sizeN_nat k s.size (by omega)
 have HC := Lib.hid hc
 have HNEW := Lib.hid hnew
 have HB0 := Lib.hid hE0
 have HBX := Lib.hid bx
 have k0 := bx.cell 0
 have k1 := bx.cell 1
 unfold SizePost at HS
 rw [if_neg (by simp [hc]), if_neg (by omega), hzn] at HS
 clear hc hnew hE0 bx hzn
 generalize hz : sizeZ k s.size = z at *
 have HZ := Lib.hid hz
 clear hz
 go_enter Tryz.func36, Tryz.ntmps36
 go_wp2_with (go_at_call 70; with_reducible refine HS.out.mono ?_)
 rintro e w1 ⟨rfl, hb⟩
 have hB1 : Below w.heap.size w w1 := Below.trans HB0.out (Below.mono hb HB0.out.size)
 have hx1 := HBX.out.below hb HBX.out.lt
 have HB1 := Lib.hid hB1
 have HR := Lib.hid (show ERd w.heap.size (k : Int) (n : Int) w1 from ⟨hx1.cell 0, hx1.cell 1⟩)
 clear hb hB1 hx1 k0 k1
 go_wp2_with fail
 refine Stab.rg 6 [[], [], [], [], [1, 2, 3], [0, 4]] [5] (ERd w.heap.size (k : Int) (n : Int)) [Stab.eqv ?_, Stab.eqv ?_, Stab.eqv ?_, Stab.eqv ?_, rowsV (dataL s k z), paysS w.heap.size (matL k n) (dataL s k z)] (HR.out.ext (Stab.Ext.drew _)) (fun _ _ h hE => h.ext hE) ?goals4 ?last4
 case goals4 =>
  simp only [List.take_succ_cons, List.take_zero]
  iterate 4
   refine Stab.gp (fun us w _ hE hS hp hK => ?_) ?_
   ·((try have e0 : _ = _ := hp.1); (try have e1 : _ = _ := hp.2.1); (try have e2 : _ = _ := hp.2.2.1); obtain ⟨s0, s1⟩ := hS; go_simp; exact hK _ _ (by show _ = _; with_reducible rfl) (Stab.Ext.refl _))
  refine Stab.Goals.plain rfl rfl (fun us w cK hE hS hp hK => ?_) ?_
  ·obtain ⟨h1, h2, h3, -⟩ := hp
   replace h1 : us 1 = _ := h1
   replace h2 : us 2 = _ := h2
   replace h3 : us 3 = _ := h3
   go_simp
   go_wp2_with (go_at_call 72; ((with_reducible refine (data_any _ k n z s (by omega) (by omega) hs (by omega) hkz).mono ?_); rintro e w9 ⟨v9, rfl, hv9, hb9⟩))
   exact hK _ _ hv9 hb9
  refine Stab.Goals.plain rfl rfl (fun us w cK hE hS hp hK => ?_) ?_
  ·obtain ⟨h0, h4, -⟩ := hp
   replace h0 : us 0 = _ := h0
   have h4r : Spr.Rows w (us 4) (dataL s k z) := h4
   go_simp
   go_wp2_with (go_at_call 71; ((refine (all_any HNEW.out _ (Nat.le_trans hG (Nat.le_trans HB1.out.size (Nat.le_trans (Stab.Ext.drew _).size hE.size))) k n HC.out (us 4) (dataL s k z) h4r (by simp [dataL]) (by rw [dataL_wide s k z (by omega)]; intro l hl; obtain ⟨i, _, rfl⟩ := List.mem_map.1 hl; simp) (by rw [dataL_wide s k z (by omega)]; omega)).mono ?_); rintro e w9 ⟨v9, rfl, hv9, hb9⟩))
   exact hK _ _ (OwnG.base' hv9 (Nat.le_trans HB1.out.size (Nat.le_trans (Stab.Ext.drew _).size hE.size))) hb9
  exact Stab.Goals.nil
 case last4 =>
  intro us w9 hE hS hp
  obtain ⟨h5, -⟩ := hp
  have h5r : OwnG w9 w.heap.size 9 1 (us 5) (matL k n).length (paysV (matL k n) (dataL s k z) (matL k n).length) := h5
  have HO := Lib.hid h5r
  have HBE := Lib.hid (HB1.out.trans (Below.mono ((Stab.Ext.drew _).trans hE) HB1.out.size))
  simp only [List.drop_succ_cons, List.drop_zero]
  clear hE hS h5r
  go_wp2_with fail
  go_ret2
  unfold EncPost
  rw [HZ.out]
  exact ⟨_, rfl, HO.out, HBE.out⟩
end Cod
namespace Hlt
def payB (k n : Nat) (s : ByteArray) (i : Nat) : List UInt8 := Cod.payL (Cod.matL k n) (Cod.dataL s k (Cod.sizeZ k s.size)) i
theorem payB_len {k : Nat} (n : Nat) (s : ByteArray) (i : Nat) (hk : 0 < k) : (payB k n s i).length = Cod.sizeZ k s.size := by
 unfold payB
 rw [Cod.payL_len, Cod.dataL_wide _ _ _ hk]
end Hlt
end Go.Proofs.YtnbkhdbligjifaaGreatDoor
namespace Go.Proofs.YtnbkhdbligjifaaGreatDoor
open Go Go.RowKit Vm
namespace Hlt
structure Fits (L : Nat) (s : PSt) : Prop where
 len : s.seen.length ≤ L
 key : ∀ p ∈ s.seen, p.1.size ≤ 80 ∧ p.2.size ≤ 65536
 wr : s.writes = []
 room : -9223372036854775808 ≤ s.room ∧ s.room ≤ 9223372036854775807
theorem Fits.ok {L : Nat} {s : PSt} (h : Fits L s) (hL : L ≤ 1000) : s.Ok := ⟨⟨by have := h.len; omega, h.key⟩, by rw [h.wr]; simp, h.room⟩
structure Well (s : PSt) : Prop where
 down : s.down = false
 refuse : s.refuse = -1
 room : s.room = -1
def stored (s : PSt) (N D : ByteArray) : PSt := { s with good := TMap.put s.seen N D, seen := TMap.put s.seen N D, writes := [] }
theorem put_len (m : TMap) (N D : ByteArray) : (TMap.put m N D).length ≤ m.length + 1 := by
 induction m with
 | nil => simp [TMap.put]
 | cons p m ih =>
   obtain ⟨a, b⟩ := p
   unfold TMap.put
   split <;> simp <;> omega
theorem put_mem {m : TMap} {N D : ByteArray} {x : ByteArray × ByteArray} (h : x ∈ TMap.put m N D) : x = (N, D) ∨ x ∈ m := by
 induction m with
 | nil => simpa [TMap.put] using h
 | cons p m ih =>
   obtain ⟨a, b⟩ := p
   unfold TMap.put at h
   split at h
   ·next he =>
    simp only [List.mem_cons] at h ⊢
    rcases h with h | h
    ·left; simp_all
    ·exact .inr (.inr h)
   ·simp only [List.mem_cons] at h ⊢
    rcases h with h | h
    ·exact .inr (.inl h)
    ·exact (ih h).imp id .inr
theorem stored_fits {L : Nat} {s : PSt} (h : Fits L s) {N D : ByteArray} (hN : N.size ≤ 80) (hD : D.size ≤ 65536) : Fits (L + 1) (stored s N D) where
 len := Nat.le_trans (put_len _ _ _) (by have := h.len; omega)
 key := fun p hp => by
  rcases put_mem hp with rfl | hp
  ·exact ⟨hN, hD⟩
  ·exact h.key p hp
 wr := rfl
 room := h.room
theorem put_well {s : PSt} (h : Well s) {N D : ByteArray} (h0 : N.size ≠ 0) (hN : N.size ≤ 80) (hD : D.size ≤ 65536) : putE s N D = 0 ∧ syncS (putS s N D) = stored s N D ∧ syncV (putS s N D) = 0 := by
 obtain ⟨good, seen, writes, down, refuse, room⟩ := s
 obtain ⟨rfl, rfl, rfl⟩ := h
 have hc : ¬ (N.size = 0 ∨ 80 < N.size ∨ 65536 < D.size) := by omega
 refine ⟨?_, ?_, ?_⟩
 ·simp only [putE, if_neg hc, fullB, refB]
  simp
 ·simp only [putS, if_neg hc, fullB, refB, refS]
  rfl
 ·simp only [putS, if_neg hc, fullB, refB, refS]
  rfl
/-! ### the shards of a blob -/
def shardOf (k n : Nat) (d : List UInt8) (s : ByteArray) (i : Nat) : Shd.Shard := ⟨k, n, i, d, payB k n s i⟩
def datB (k n : Nat) (d : List UInt8) (s : ByteArray) (i : Nat) : ByteArray := ⟨((shardOf k n d s i).data Shd.sumL).toArray⟩
theorem nmB_size (d : ByteArray) (hd : d.size = 32) (i : Nat) (hi : i < 12) : (nmB d i).size ≠ 0 ∧ (nmB d i).size ≤ 80 := by
 have h1 := Shd.hex_len d.data.toList
 have h2 := Shd.itoa_len i hi
 have h3 : d.data.toList.length = d.size := by simp
 have h4 : (nmB d i).size = (nmL d i).length := rfl
 rw [h4]
 unfold nmL Shd.nameL
 simp only [List.length_append, List.length_cons, List.length_nil]
 omega
theorem datB_size {k n : Nat} {d : List UInt8} {s : ByteArray} {i : Nat} (hk : 0 < k) (hk2 : k ≤ 12) (hd : d.length = 32) (hs : s.size ≤ 32768) : (datB k n d s i).size ≤ 65536 := by
 have h1 : (datB k n d s i).size = ((shardOf k n d s i).data Shd.sumL).length := rfl
 rw [h1, Shd.data_len Shd.sumL_len _ hd]
 have h2 := payB_len (k := k) n s i hk
 have h3 := Cod.sizeZ_le k s.size hk
 show 75 + (payB k n s i).length ≤ _
 omega
def filled (p : PW) (k n : Nat) (d s : ByteArray) (q : Nat) : PW := { PW.adv p (2 * q) with st := fun i => if i < q then stored (p.st i) (nmB d i) (datB k n d.data.toList s i) else p.st i }
theorem filled_zero (p : PW) (k n : Nat) (d s : ByteArray) : filled p k n d s 0 = p := by
 unfold filled
 obtain ⟨n', st, sus, calls, left, dark⟩ := p
 simp [PW.adv]
theorem filled_calm {p : PW} (h : Calm p) (k n : Nat) (d s : ByteArray) (q : Nat) : Calm (filled p k n d s q) := adv_calm h (2 * q)
theorem callP_calm {p : PW} (h : Calm p) {i : Nat} (hi : i < p.n) (s' : PSt) (e : Int) : callP p i s' = { p with calls := wrap64 (p.calls + 1), st := upd p.st i s' } ∧ callE p i e = e := by
 have hh : p.has i = true := by simp [PW.has]; omega
 unfold callP callE
 rw [if_pos hh, if_pos hh, h.stepd]
 simp only [Bool.false_eq_true, if_false, Int.toNat_natCast]
 rw [step_calm h]
 exact ⟨rfl, trivial⟩
theorem upd_upd {α : Type} (f : Nat → α) (i : Nat) (x y : α) : upd (upd f i x) i y = upd f i y := by
 funext j
 unfold upd
 split <;> rfl
theorem filled_succ {p : PW} (h : Calm p) (k n : Nat) (d s : ByteArray) {q : Nat} (hq : q < p.n) (s1 : PSt) (h2 : syncS s1 = stored (p.st q) (nmB d q) (datB k n d.data.toList s q)) :
 callP (callP (filled p k n d s q) q s1) q (syncS ((callP (filled p k n d s q) q s1).st (q : Int).toNat)) = filled p k n d s (q + 1) := by
 have hn := (adv_st p (2 * q)).1
 have hc := filled_calm h k n d s q
 have hqn : q < (filled p k n d s q).n := by show q < (PW.adv p (2 * q)).n; omega
 rw [(callP_calm hc hqn s1 0).1]
 have hc2 : Calm { filled p k n d s q with calls := wrap64 ((filled p k n d s q).calls + 1), st := upd (filled p k n d s q).st q s1 } := hc
 rw [(callP_calm hc2 hqn _ 0).1]
 simp only [Int.toNat_natCast, upd_same, upd_upd, h2]
 have hfun : upd (filled p k n d s q).st q (stored (p.st q) (nmB d q) (datB k n d.data.toList s q)) = (filled p k n d s (q + 1)).st := by
  funext j
  unfold upd filled
  simp only
  by_cases hj : j = q
  ·subst hj; simp
  ·rw [if_neg hj]
   by_cases hl : j < q
   ·rw [if_pos hl, if_pos (by omega)]
   ·rw [if_neg hl, if_neg (by omega)]
 rw [hfun]
 rfl
end Hlt
end Go.Proofs.YtnbkhdbligjifaaGreatDoor
namespace Go.Proofs.YtnbkhdbligjifaaGreatDoor
open Go Go.RowKit Vm
namespace Hlt
def FillPost (w : World) (O : List Nat) (b : Nat) (p : PW) (k n : Nat) (d s : ByteArray) (e : Ending) (w' : World) : Prop :=
 ∃ O', e = .returned (.tuple #[.string d, .bool true]) ∧ WB w O b (filled p k n d s n) O' w'
structure FInv (w : World) (O : List Nat) (b : Nat) (p : PW) (k n : Nat) (d s : ByteArray) (bx : Nat) (v : Value) (p' : PW) (O' : List Nat) (wr : World) : Prop where
 wb : WB w O b p' O' wr
 box : Blk wr bx 25 #[.int .i64 (k : Int), .int .i64 (n : Int)]
 row : OwnG wr 0 9 1 v n (Cod.paysV (Cod.matL k n) (Cod.dataL s k (Cod.sizeZ k s.size)) n)
 off : bx ∉ O' ∧ ∀ g, v.ownBlock = some g → g ∉ O'
section
variable {w w2 w3 : World} {O : List Nat} {b : Nat} {p : PW} {k n : Nat} {d s : ByteArray} {bx : Nat} {v : Value} {p' p2 : PW} {O' : List Nat}
theorem FInv.ext (h : FInv w O b p k n d s bx v p' O' w2) (hE : Stab.Ext w2 w3) : FInv w O b p k n d s bx v p' O' w3 := ⟨h.wb.ext hE, h.box.below hE h.box.lt, h.row.ext hE, h.off⟩
theorem FInv.next (h : FInv w O b p k n d s bx v p' O' w2) {x : Value} {e : Ending} (hp : WPost w2 b O' x p2 e w3) : ∃ O3, FInv w O b p k n d s bx v p2 O3 w3 ∧ Fr O' w2 w3 := by
 obtain ⟨O3, h1, h2, h3⟩ := h.wb.next hp
 have hl := h.box.lt
 refine ⟨O3, ⟨h1, h2.blk h.box h.off.1, h.row.keep fun g hg => h2.block g (h.row.lt g hg).2 (h.off.2 g hg), fun hm => ?_, fun g hg hm => ?_⟩, h2⟩
 ·rcases h3 _ hm with h4 | h4
  ·exact h.off.1 h4
  ·omega
 ·rcases h3 _ hm with h4 | h4
  ·exact h.off.2 g hg h4
  ·have := (h.row.lt g hg).2; omega
end
theorem make_of {s : Shd.Shard} {e : Ending} (h : Shd.MakeEnd s e) (k : s.May) (hp : s.pay.length ≤ 65461) : e = .returned (.tuple #[Shd.objV (Shd.nameL s.dig s.idx) (s.data Shd.sumL), .int .i64 0]) := by
 rcases h with ⟨_, _, rfl⟩ | ⟨_, h, _⟩ | ⟨h, _⟩
 ·rfl
 ·omega
 ·exact absurd k h
structure MRd (bx g i : Nat) (k n : Int) (u : Value) (W : World) : Prop where
 c0 : W.cell? ⟨bx, 0, none⟩ = some (.int .i64 k)
 c1 : W.cell? ⟨bx, 1, none⟩ = some (.int .i64 n)
 c2 : W.cell? ⟨g, i, none⟩ = some u
 vars : Shd.Vars W
theorem MRd.ext {bx g i : Nat} {k n : Int} {u : Value} {W W' : World} (h : MRd bx g i k n u W) (hE : Stab.Ext W W') : MRd bx g i k n u W' := ⟨hE.cell h.c0, hE.cell h.c1, hE.cell h.c2, h.vars.below hE⟩
section
variable {W : World} {b : Nat} {p : PW} {O' : List Nat} {k n : Nat} {d s : ByteArray} {q L : Nat}
theorem put_step (h : WAt W b (filled p k n d s q) O') (hc : Calm p) (hq : q < p.n) (hfit : Fits L (p.st q)) (hL : L ≤ 1000) (hw : Well (p.st q)) (h0 : (nmB d q).size ≠ 0) (hN : (nmB d q).size ≤ 80) (hD : (datB k n d.data.toList s q).size ≤ 65536) :
 Calls Tryz.prog 39 #[.pointer (some ⟨b, 0, none⟩), .int .i64 (q : Int), .agg #[.string (nmB d q), .string (datB k n d.data.toList s q)]] W (WPost W b O' (.int .i64 0) (callP (filled p k n d s q) q (putS (p.st q) (nmB d q) (datB k n d.data.toList s q)))) := by
 have hst : (filled p k n d s q).st (q : Int).toNat = p.st q := by
  rw [Int.toNat_natCast]
  unfold filled
  simp
 have hh := wput_any h (q : Int) (nmL d q) ((shardOf k n d.data.toList s q).data Shd.sumL) (by have : (nmL d q).length = (nmB d q).size := rfl; omega) (by have : ((shardOf k n d.data.toList s q).data Shd.sumL).length = (datB k n d.data.toList s q).size := rfl; omega) (by rw [hst]; exact hfit.ok hL)
 rw [hst] at hh
 have he : callE (filled p k n d s q) (q : Int) (putE (p.st q) (nmB d q) (datB k n d.data.toList s q)) = 0 := by
  rw [(callP_calm (filled_calm hc k n d s q) (by show q < (PW.adv p (2 * q)).n; rw [(adv_st p _).1]; exact hq) (p.st q) _).2]
  exact (put_well hw h0 hN hD).1
 change Calls _ _ _ _ (WPost W b O' (.int .i64 (callE (filled p k n d s q) (q : Int) (putE (p.st q) (nmB d q) (datB k n d.data.toList s q)))) _) at hh
 rw [he] at hh
 exact hh
theorem sync_step (h : WAt W b (callP (filled p k n d s q) q (putS (p.st q) (nmB d q) (datB k n d.data.toList s q))) O') (hc : Calm p) (hq : q < p.n) (hw : Well (p.st q)) (h0 : (nmB d q).size ≠ 0) (hN : (nmB d q).size ≤ 80) (hD : (datB k n d.data.toList s q).size ≤ 65536) :
 Calls Tryz.prog 40 #[.pointer (some ⟨b, 0, none⟩), .int .i64 (q : Int)] W (WPost W b O' (.int .i64 0) (filled p k n d s (q + 1))) := by
 have hpw := put_well hw h0 hN hD
 have hqn : q < (filled p k n d s q).n := by show q < (PW.adv p (2 * q)).n; rw [(adv_st p _).1]; exact hq
 have hP := (callP_calm (filled_calm hc k n d s q) hqn (putS (p.st q) (nmB d q) (datB k n d.data.toList s q)) 0).1
 have hst : (callP (filled p k n d s q) q (putS (p.st q) (nmB d q) (datB k n d.data.toList s q))).st (q : Int).toNat = putS (p.st q) (nmB d q) (datB k n d.data.toList s q) := by
  rw [hP, Int.toNat_natCast]
  exact upd_same _ _ _
 have hh := wsync_any h (q : Int)
 have hs := filled_succ hc k n d s hq (putS (p.st q) (nmB d q) (datB k n d.data.toList s q)) hpw.2.1
 rw [hs, hst, hpw.2.2] at hh
 have he : callE (callP (filled p k n d s q) q (putS (p.st q) (nmB d q) (datB k n d.data.toList s q))) (q : Int) 0 = 0 := by
  rw [hP]
  exact (callP_calm (p := { filled p k n d s q with calls := wrap64 ((filled p k n d s q).calls + 1), st := upd (filled p k n d s q).st q (putS (p.st q) (nmB d q) (datB k n d.data.toList s q)) }) (filled_calm hc k n d s q) hqn (p.st q) 0).2
 rw [he] at hh
 exact hh
end
theorem fill_any {G : Nat} (hnew : ∀ w : World, G ≤ w.heap.size → Calls Tryz.prog 139 #[] w (Spr.NewPost w)) {w : World} (hG : G ≤ w.heap.size) {b : Nat} {p : PW} {O : List Nat} (h : WAt w b p O) (hc : Calm p) (hO : Far O) (hv : Shd.Vars w)
 (k n : Nat) (hk : Shd.codeB (k : Int) (n : Int) = true) (hn : n = p.n) (s : ByteArray) (hs : s.size ≤ 32768) (L : Nat) (hL : L ≤ 1000) (hfit : ∀ i, i < n → Fits L (p.st i) ∧ Well (p.st i)) :
 Calls Tryz.prog 12 #[.pointer (some ⟨b, 0, none⟩), .agg #[.int .i64 (k : Int), .int .i64 (n : Int)], .string s] w (FillPost w O b p k n ⟨(Shd.sumL s.data.toList).toArray⟩ s) := by
 obtain ⟨h1, h2, h3⟩ := (Shd.codeB_iff _ _).1 hk
 have hE0 := Stab.Ext.alloc w (.cells #[.int .i64 (k : Int), .int .i64 (n : Int)] 25)
 have bx := Blk.new w 25 #[.int .i64 (k : Int), .int .i64 (n : Int)]
 have hsum : ∀ W : World, Calls Tryz.prog 33 #[.string s] W fun e w' => e = .returned (.string ⟨(Shd.sumL s.data.toList).toArray⟩) ∧ Below W.heap.size W w' := fun W => Sha.sum_any s (by omega) W
 have hdl : (⟨(Shd.sumL s.data.toList).toArray⟩ : ByteArray).size = 32 := Shd.sumL_len _
 have hdt : (⟨(Shd.sumL s.data.toList).toArray⟩ : ByteArray).data.toList = Shd.sumL s.data.toList := by simp
 generalize hd : (⟨(Shd.sumL s.data.toList).toArray⟩ : ByteArray) = d at *
 have HSUM := Lib.hid hsum
 clear hsum hd hdt
 have HNEW := Lib.hid hnew
 have HG := Lib.hid hG
 have HA := Lib.hid ((WB.refl (h.keep (Fr.of_below (O := []) hE0) (by simp))).front hE0)
 have HBX := Lib.hid bx
 have HE0 := Lib.hid hE0
 have HC := Lib.hid hc
 have HO := Lib.hid hO
 have HV := Lib.hid hv
 have HK := Lib.hid hk
 have HN := Lib.hid hn
 have HFIT := Lib.hid hfit
 have HLT := Lib.hid h.lt
 clear h hc hO hv hk hn hfit hG hnew hE0 bx
 go_enter Tryz.func12, Tryz.ntmps12
 go_wp2_with (go_at_call 33; with_reducible refine (HSUM.out _).mono ?_)
 rintro e w1 ⟨rfl, hb1⟩
 have hE1 : Stab.Ext w w1 := HE0.out.trans hb1
 have hA1 := HA.out.ext hb1
 have hx1 := HBX.out.below hb1 HBX.out.lt
 have k0 := hx1.cell 0
 have k1 := hx1.cell 1
 have HENC := Lib.hid (Cod.encode_any HNEW.out w1 (Nat.le_trans HG.out hE1.size) k n HK.out s hs)
 have HA1 := Lib.hid hA1
 have HX1 := Lib.hid hx1
 have HE1 := Lib.hid hE1
 clear hb1 hE1 hA1 hx1
 go_wp2_with (go_at_call 36; with_reducible refine HENC.out.mono ?_)
 rintro e w2 ⟨v, rfl, hrow, hb2⟩
 rw [Cod.matL_len] at hrow
 have hbx : w.heap.size < w1.heap.size := HX1.out.lt
 have hI : FInv w O b p k n d s w.heap.size v p O w2 := by
  have ha := HA1.out.ext hb2
  refine ⟨ha, HX1.out.below hb2 HX1.out.lt, ⟨hrow.1, ?_⟩, fun hm => ?_, fun g hg hm => ?_⟩
  ·rcases hrow.2 with h | ⟨g, cap, cur, fz, q1, q2, q3⟩
   ·exact .inl h
   ·exact .inr ⟨g, cap, cur, fz, q1, Nat.zero_le _, q3⟩
  ·have := HLT.out _ hm; omega
  ·have := HLT.out _ hm; have := (hrow.lt g hg).1; omega
 obtain ⟨A, cap, hvs⟩ := hrow.shape
 subst hvs
 have HN0 := Lib.hid (show Calls Tryz.prog 37 #[.pointer (some ⟨b, 0, none⟩)] w2 fun e w' => e = .returned (.int .i64 (n : Int)) ∧ w2 = w' from by have := n_any hI.wb.at_; rwa [← HN.out] at this)
 have HI := Lib.hid hI
 clear hI hrow hb2 k0 k1
 go_wp2_with (go_at_call 37; with_reducible refine HN0.out.mono ?_)
 rintro e w9 ⟨rfl, rfl⟩
 go_wp2_with fail
 go_loopw [11] (fun i wr => ∃ (q : Nat) (O' : List Nat), q ≤ n ∧ i = .int .i64 (q : Int) ∧ FInv w O b p k n d s w.heap.size (.slice A n cap) (filled p k n d s q) O' wr) (fun i _ => n - (intOf i).toNat)
 case atStart => exact ⟨0, O, by omega, rfl, by rw [filled_zero]; exact HI.out⟩
 case round =>
  obtain ⟨q, O', hq, rfl, hI⟩ := hrel
  by_cases hlt : q < n
  ·have hlt2 : (q : Int) < (n : Int) := by omega
   have hpay : (Cod.paysV (Cod.matL k n) (Cod.dataL s k (Cod.sizeZ k s.size)) n)[q]? = some (.string ⟨(payB k n s q).toArray⟩) := by
    unfold Cod.paysV
    rw [List.getElem?_map, List.getElem?_range hlt]
    rfl
   obtain ⟨g, cap', hv', -, -, hgl⟩ := hI.row.addr (by omega)
   obtain ⟨rfl, rfl⟩ : A = some ⟨g, 0, none⟩ ∧ cap = cap' := by cases hv'; exact ⟨rfl, rfl⟩
   have hcell := hI.row.cells (g := g) rfl q _ hpay
   have s0 := hI.box.cell 0
   have s1 := hI.box.cell 1
   have HVV := Lib.hid (vars_fr HV.out hI.wb.fr HO.out)
   have hmay : (shardOf k n d.data.toList s q).May := ⟨h1, h2, h3, by show d.data.toList.length = 32; simpa using hdl, by show (0 : Int) ≤ (q : Int); omega, hlt2⟩
   have hpl : (shardOf k n d.data.toList s q).pay.length ≤ 65461 := by
    show (payB k n s q).length ≤ _
    rw [payB_len n s q (by omega)]
    have := Cod.sizeZ_le k s.size (by omega)
    omega
   have HMK := Lib.hid (show ∀ W, Stab.Ext wr W → Calls Tryz.prog 38 #[.agg #[.int .i64 (k : Int), .int .i64 (n : Int), .string d, .int .i64 (q : Int), .string ⟨(payB k n s q).toArray⟩]] W fun e w' => e = .returned (.tuple #[.agg #[.string (nmB d q), .string (datB k n d.data.toList s q)], .int .i64 0]) ∧ Below W.heap.size W w' from fun W hW =>
    (Shd.make_any (k : Int) (n : Int) (q : Int) d ⟨(payB k n s q).toArray⟩ ⟨by omega, by omega⟩ W (HVV.out.below hW)).mono fun e w' hh => ⟨make_of hh.1 hmay hpl, hh.2⟩)
   have HII := Lib.hid hI
   have hbxl := lt_cell s0
   have hnm := nmB_size d hdl q (by omega)
   have hds := datB_size (k := k) (n := n) (d := d.data.toList) (s := s) (i := q) (by omega) (by omega) (by simpa using hdl) hs
   obtain ⟨hf1, hf2⟩ := HFIT.out q hlt
   have hqn : q < p.n := by have := HN.out; omega
   have HPUT := Lib.hid (fun W (hE : Stab.Ext wr W) => put_step (hI.wb.ext hE).at_ HC.out hqn hf1 hL hf2 hnm.1 hnm.2 hds)
   have HSYN := Lib.hid (fun W O3 h => sync_step (W := W) (b := b) (p := p) (O' := O3) (k := k) (n := n) (d := d) (s := s) (q := q) h HC.out hqn hf2 hnm.1 hnm.2 hds)
   clear hnm hds hf1 hf2 hqn
   clear hI hpay hv' hmay hpl
   go_wp2_with fail
   go_region_with (go_at_call 38; first
    | (refine (HMK.out wr.drew (Stab.Ext.drew _)).mono ?_; rintro e w4 ⟨rfl, hb4⟩; have HB4 := Lib.hid ((Stab.Ext.drew wr).trans hb4); clear hb4)
    | (refine (HMK.out _ ((Stab.Ext.drew wr).trans (Stab.Ext.alloc _ _))).mono ?_; rintro e w4 ⟨rfl, hb4⟩
       have bz := (Blk.new wr.drew 45 #[.string ⟨#[]⟩, .string ⟨#[]⟩]).below hb4 (Blk.new wr.drew 45 #[.string ⟨#[]⟩, .string ⟨#[]⟩]).lt
       have z0 : w4.cell? ⟨wr.heap.size, 0, none⟩ = some (.string ⟨#[]⟩) := bz.cell 0
       have z1 : w4.cell? ⟨wr.heap.size, 1, none⟩ = some (.string ⟨#[]⟩) := bz.cell 1
       have y0 : w4.frozen? ⟨wr.heap.size, 0, none⟩ = false := bz.frozen 0
       have y1 : w4.frozen? ⟨wr.heap.size, 1, none⟩ = false := bz.frozen 1
       have l0 := lt_cell z0
       have HBZ := Lib.hid (show Blk w4 wr.heap.size 45 #[.string ⟨#[]⟩, .string ⟨#[]⟩] from bz)
       have HB4 := Lib.hid (((Stab.Ext.drew wr).trans (Stab.Ext.alloc _ _)).trans hb4); clear hb4 bz))
   all_goals
    go_wp2_with (go_at_call 39; first
     | refine (HPUT.out _ ((HB4.out).trans (Stab.Ext.alloc _ _))).mono ?_
     | refine (HPUT.out _ ((HB4.out.setCell (p := ⟨wr.heap.size, 0, none⟩) (Nat.le_refl _) _).setCell (p := ⟨wr.heap.size, 1, none⟩) (Nat.le_refl _) _)).mono ?_)
    intro e w5 hq5
    have HI5 := Lib.hid (show ∃ O3, FInv w O b p k n d s w.heap.size (.slice (some ⟨g, 0, none⟩) n cap) (callP (filled p k n d s q) q (putS (p.st q) (nmB d q) (datB k n d.data.toList s q))) O3 w5 from by
     first
      | exact ((HII.out.ext ((HB4.out).trans (Stab.Ext.alloc _ _))).next hq5).imp fun _ h => h.1
      | exact ((HII.out.ext ((HB4.out.setCell (p := ⟨wr.heap.size, 0, none⟩) (Nat.le_refl _) _).setCell (p := ⟨wr.heap.size, 1, none⟩) (Nat.le_refl _) _)).next hq5).imp fun _ h => h.1)
    obtain ⟨rfl, -⟩ := hq5
    obtain ⟨O3, hI5⟩ := HI5.out
    have HS := Lib.hid (HSYN.out _ O3 hI5.wb.at_)
    have HI6 := Lib.hid hI5
    clear HI5 hI5
    go_wp2_with (go_at_call 40; refine HS.out.mono ?_)
    intro e w6 hq6
    have HI7 := Lib.hid (HI6.out.next hq6)
    obtain ⟨rfl, -⟩ := hq6
    go_wp2_with fail
    go_roundw
    case rel =>
     obtain ⟨O4, hI7, -⟩ := HI7.out
     exact ⟨q + 1, O4, by omega, by go_num, hI7⟩
    case measure => simp [intOf]; omega
  ·have hqe : q = n := by omega
   subst hqe
   have HX := Lib.hid hI
   have d1 : ¬ ((q : Int) < (q : Int)) := by omega
   clear hI
   go_wp2_with fail
   go_ret2
   exact ⟨_, rfl, HX.out.wb⟩
end Hlt
end Go.Proofs.YtnbkhdbligjifaaGreatDoor
namespace Go.Proofs.YtnbkhdbligjifaaGreatDoor
open Go Go.RowKit
namespace Vm
theorem ones_set1 (n : Nat) (Bf : Nat → Nat) (u : Nat → Bool) (i : Nat) (x : Bool) (hi : i < n) : (ones n Bf u).set (i * 2 + 1) (.bool x) = ones n Bf (upd u i x) := by
 induction n with
 | zero => omega
 | succ n ih =>
   have hl := ones_len n Bf u
   rw [ones_succ, ones_succ]
   by_cases h : i < n
   ·rw [List.set_append_left _ _ (by omega), ih h, upd_ne _ _ (by omega)]
   ·have he : i = n := by omega
    subst he
    rw [List.set_append_right _ _ (by omega), hl, show i * 2 + 1 - i * 2 = 1 by omega, upd_same, ones_congr (Bf' := Bf) (u' := upd u i x) fun j hj => ⟨rfl, (upd_ne _ _ (by omega)).symm⟩]
    rfl
theorem ones_set0 (n : Nat) (Bf : Nat → Nat) (u : Nat → Bool) (i B : Nat) (hi : i < n) : (ones n Bf u).set (i * 2) (.pointer (some ⟨B, 0, none⟩)) = ones n (upd Bf i B) u := by
 induction n with
 | zero => omega
 | succ n ih =>
   have hl := ones_len n Bf u
   rw [ones_succ, ones_succ]
   by_cases h : i < n
   ·rw [List.set_append_left _ _ (by omega), ih h, upd_ne _ _ (by omega)]
   ·have he : i = n := by omega
    subst he
    rw [List.set_append_right _ _ (by omega), hl, Nat.sub_self, upd_same, ones_congr (Bf' := upd Bf i B) (u' := u) fun j hj => ⟨(upd_ne _ _ (by omega)).symm, rfl⟩]
    rfl
theorem row_set {w : World} {base g : Nat} {e : TypeId} {size n cap : Nat} {xs : List Value} (h : w.ownsRow base e size (.slice (some ⟨g, 0, none⟩) n cap) n xs) (j : Nat) (hj : j < n * size) (u : Value) :
 (w.setCell ⟨g, j, none⟩ u).ownsRow base e size (.slice (some ⟨g, 0, none⟩) n cap) n (xs.set j u) := by
 refine ⟨by rw [List.length_set]; exact h.1, ?_⟩
 rcases h.2 with ⟨h1, _⟩ | ⟨g', cap', cur, h1, hb, hg, hn, hc, hs, ht⟩
 ·cases h1
 ·cases h1
  have hB : Blk w g e cur := hg
  refine .inr ⟨g, cap, cur.setIfInBounds j u, rfl, hb, hB.set_ j u, hn, hc, by simpa using hs, ?_⟩
  rw [Array.toList_setIfInBounds, List.take_set, ht]
theorem WIs.suspect {w : World} {b g cap : Nat} {p : PW} {Bf : Nat → Nat} {Of : Nat → List Nat} (h : WIs w b p (.slice (some ⟨g, 0, none⟩) p.n cap) Bf Of) {i : Nat} (hi : i < p.n) (x : Bool) :
 WIs (w.setCell ⟨g, i * 2 + 1, none⟩ (.bool x)) b { p with sus := upd p.sus i x } (.slice (some ⟨g, 0, none⟩) p.n cap) Bf Of ∧ Fr [g] w (w.setCell ⟨g, i * 2 + 1, none⟩ (.bool x)) := by
 have hf := Fr.cell w ⟨g, i * 2 + 1, none⟩ (.bool x)
 have hgb : g ≠ b := fun he => h.ne (by rw [he]; rfl)
 refine ⟨⟨hf.blk h.blk (by simp only [List.mem_singleton]; exact Ne.symm hgb), ?_, fun j hj => (h.st j hj).keep hf fun k hk hm => ?_, h.apart, h.off, h.ne⟩, hf⟩
 ·have := row_set h.row (i * 2 + 1) (by omega) (.bool x)
  rw [ones_set1 _ _ _ _ _ hi] at this
  exact this
 ·simp only [List.mem_singleton] at hm
  subst hm
  exact (h.off j hj).2 _ rfl hk
def PW.strikeE (p : PW) (f : Flt) : Int := if p.has f.store then hitE f else 1
def PW.struck (p : PW) (f : Flt) : PW :=
 if p.has f.store then (if hitE f = 0 then (if f.kind = 5 then { p with st := upd p.st f.store.toNat (struckS (p.st f.store.toNat) f) } else if f.kind = 7 then { p with st := upd p.st f.store.toNat (struckS (p.st f.store.toNat) f) } else
  { p with st := upd p.st f.store.toNat (struckS (p.st f.store.toNat) f), sus := upd p.sus f.store.toNat true }) else p) else p
structure WRd (bx : Nat) (f : Flt) (W : World) : Prop where
 c0 : W.cell? ⟨bx, 0, none⟩ = some (.int .u8 f.kind)
 c1 : W.cell? ⟨bx, 1, none⟩ = some (.int .i64 f.store)
 c2 : W.cell? ⟨bx, 2, none⟩ = some (.int .i64 f.n)
 c3 : W.cell? ⟨bx, 3, none⟩ = some (.int .i64 f.at_)
 c4 : W.cell? ⟨bx, 4, none⟩ = some (.int .i64 f.c)
def WSEnd (w : World) (b g cap : Nat) (p : PW) (Bf : Nat → Nat) (Of : Nat → List Nat) (i : Nat) (s' : PSt) (w2 : World) : Prop :=
 ∃ O', WIs w2 b { p with st := upd p.st i s' } (.slice (some ⟨g, 0, none⟩) p.n cap) Bf (upd Of i O') ∧ Fr (Of i) w w2 ∧ ∀ k, k ∈ O' → k ∈ Of i ∨ w.heap.size ≤ k
theorem wsp {w w1 : World} {b g cap : Nat} {p : PW} {Bf : Nat → Nat} {Of : Nat → List Nat} {i : Nat} (h : WIs w1 b p (.slice (some ⟨g, 0, none⟩) p.n cap) Bf Of) (hi : i < p.n) (hw : Fr [] w w1) {s' : PSt} {x kx : Value} {bx : Nat} (hbx : w.heap.size ≤ bx) (hbo : ∀ k, k ∈ Of i → k < w.heap.size) (hk : w1.cell? ⟨bx, 0, none⟩ = some kx) :
 ∀ w' e w2, Stab.Ext w1 w' → StPost w' (Bf i) (Of i) x s' e w2 → e = .returned x ∧ w2.cell? ⟨bx, 0, none⟩ = some kx ∧ w2.cell? ⟨g, i * 2 + 1, none⟩ = some (.bool (p.sus i)) ∧ w2.frozen? ⟨g, i * 2 + 1, none⟩ = false ∧ Hid (WSEnd w b g cap p Bf Of i s' w2) := by
 rintro w' e w2 hE ⟨he, O', q1, q2, q3⟩
 have h' := h.keep (Fr.of_below (O := []) hE) (by simp)
 have h2 := h'.store hi q1 q2 q3
 have hbl : bx < w1.heap.size := lt_cell hk
 have hs1 := hE.size
 have hc : w2.cell? ⟨bx, 0, none⟩ = some kx := by
  have e1 : w'.cell? ⟨bx, 0, none⟩ = some kx := (hE.cell hk)
  exact (World.cell?_of_block (q2.block bx (by omega) (fun hm => by have := hbo _ hm; omega))).trans e1
 obtain ⟨g', cap', hv, -, hc2⟩ := h2.rowc (i := i) hi
 cases hv
 have hfz : w2.frozen? ⟨g, i * 2 + 1, none⟩ = false := by
  rcases h2.row.2 with ⟨h1, _⟩ | ⟨g', cap', cur, h1, hb, hg, _⟩
  ·cases h1
  ·cases h1
   exact Blk.frozen (show Blk w2 g _ cur from hg) _
 refine ⟨he, hc, hc2, hfz, Lib.hid ⟨O', h2, (hw.sub (by simp)).trans ((Fr.of_below (O := Of i) hE).next q2) (fun k hk _ => hk), fun k hk => ?_⟩⟩
 rcases q3 k hk with h3 | h3
 ·exact .inl h3
 ·exact .inr (Nat.le_trans hw.size (Nat.le_trans hs1 h3))
theorem WSEnd.own {w w2 : World} {b g cap : Nat} {p : PW} {Bf : Nat → Nat} {Of : Nat → List Nat} {i : Nat} {O' : List Nat} (hi : i < p.n) (q3 : ∀ k, k ∈ O' → k ∈ Of i ∨ w.heap.size ≤ k) (v : Value) :
 ∀ k, k ∈ wOwn b v p.n (upd Of i O') → k ∈ wOwn b v p.n Of ∨ w.heap.size ≤ k := by
 intro k hk
 rcases mem_wOwn.1 hk with rfl | hg | ⟨j, hj, hk⟩
 ·exact .inl (mem_wOwn.2 (.inl rfl))
 ·exact .inl (mem_wOwn.2 (.inr (.inl hg)))
 ·by_cases he : j = i
  ·subst he
   rw [upd_same] at hk
   rcases q3 k hk with h | h
   ·exact .inl (mem_wOwn.2 (.inr (.inr ⟨j, hi, h⟩)))
   ·exact .inr h
  ·rw [upd_ne _ _ he] at hk
   exact .inl (mem_wOwn.2 (.inr (.inr ⟨j, hj, hk⟩)))
theorem WSEnd.plain {w w2 : World} {b g cap : Nat} {p : PW} {Bf : Nat → Nat} {Of : Nat → List Nat} {i : Nat} {s' : PSt} (h : WSEnd w b g cap p Bf Of i s' w2) (hi : i < p.n) {p' : PW} (hp : p' = { p with st := upd p.st i s' }) (x : Value) :
 WPost w b (wOwn b (.slice (some ⟨g, 0, none⟩) p.n cap) p.n Of) x p' (.returned x) w2 := by
 obtain ⟨O', q1, q2, q3⟩ := h
 subst hp
 exact ⟨rfl, _, ⟨_, Bf, _, q1, rfl⟩, q2.sub fun k hk => mem_wOwn.2 (.inr (.inr ⟨i, hi, hk⟩)), WSEnd.own hi q3 _ (w2 := w2) (cap := cap) (Bf := Bf) (g := g)⟩
theorem WSEnd.suspect {w w2 : World} {b g cap : Nat} {p : PW} {Bf : Nat → Nat} {Of : Nat → List Nat} {i : Nat} {s' : PSt} (h : WSEnd w b g cap p Bf Of i s' w2) (hi : i < p.n) {p' : PW} (hp : p' = { p with st := upd p.st i s', sus := upd p.sus i true }) (x : Value) :
 WPost w b (wOwn b (.slice (some ⟨g, 0, none⟩) p.n cap) p.n Of) x p' (.returned x) (w2.setCell ⟨g, i * 2 + 1, none⟩ (.bool true)) := by
 obtain ⟨O', q1, q2, q3⟩ := h
 obtain ⟨h1, hf⟩ := q1.suspect hi true
 subst hp
 exact ⟨rfl, _, ⟨_, Bf, _, h1, rfl⟩, (q2.sub fun k hk => mem_wOwn.2 (.inr (.inr ⟨i, hi, hk⟩))).trans hf (fun k hk _ => by simp only [List.mem_singleton] at hk; subst hk; exact mem_wOwn.2 (.inr (.inl rfl))), WSEnd.own hi q3 _ (w2 := w2) (cap := cap) (Bf := Bf) (g := g)⟩
theorem struck_bad {p : PW} {f : Flt} (hh : p.has f.store = true) (h : ¬ hitE f = 0) : p.strikeE f = hitE f ∧ p.struck f = { p with st := upd p.st f.store.toNat (struckS (p.st f.store.toNat) f) } := by
 have ho : ¬ f.okB = true := fun ho => h (by rw [hitE, if_pos ho])
 refine ⟨by simp [PW.strikeE, hh], ?_⟩
 rw [struckS, if_neg ho, upd_self]
 simp [PW.struck, hh, h]
theorem struck_up {p : PW} {f : Flt} (hh : p.has f.store = true) (h : hitE f = 0) (hk : f.kind = 5 ∨ f.kind = 7) : p.strikeE f = 0 ∧ p.struck f = { p with st := upd p.st f.store.toNat (struckS (p.st f.store.toNat) f) } := by
 refine ⟨by simp [PW.strikeE, hh, h], ?_⟩
 rcases hk with hk | hk <;> simp [PW.struck, hh, h, hk]
theorem struck_sus {p : PW} {f : Flt} (hh : p.has f.store = true) (h : hitE f = 0) (h5 : ¬ f.kind = 5) (h7 : ¬ f.kind = 7) : p.strikeE f = 0 ∧ p.struck f = { p with st := upd p.st f.store.toNat (struckS (p.st f.store.toNat) f), sus := upd p.sus f.store.toNat true } :=
 ⟨by simp [PW.strikeE, hh, h], by simp [PW.struck, hh, h, h5, h7]⟩
theorem wstrike_any {w : World} {b : Nat} {p : PW} {O : List Nat} (h : WAt w b p O) (f : Flt) (hf : f.fits) (hs : Small (p.st f.store.toNat).seen) :
 Calls Tryz.prog 13 #[.pointer (some ⟨b, 0, none⟩), .agg #[.int .u8 f.kind, .int .i64 f.store, .int .i64 f.n, .int .i64 f.at_, .int .i64 f.c]] w (WPost w b O (.int .i64 (p.strikeE f)) (p.struck f)) := by
 obtain ⟨v, Bf, Of, h, rfl⟩ := h
 have hw0 : Fr [] w (w.alloc (.cells #[.int .u8 f.kind, .int .i64 f.store, .int .i64 f.n, .int .i64 f.at_, .int .i64 f.c] 34)) := Fr.alloc _ _
 have bx := Blk.new w 34 #[.int .u8 f.kind, .int .i64 f.store, .int .i64 f.n, .int .i64 f.at_, .int .i64 f.c]
 have HF0 := Lib.hid (hw0.nil (O := wOwn b v p.n Of))
 have h1 := h.keep hw0 (by simp)
 have HHAS := Lib.hid (has_any ⟨v, Bf, Of, h1, rfl⟩ f.store)
 have HLT := Lib.hid h.lt
 have HBX := Lib.hid bx
 cases hh : p.has f.store with
 | false =>
   have HV := Lib.hid (show p.strikeE f = 1 ∧ p.struck f = p from ⟨by simp [PW.strikeE, hh], by simp [PW.struck, hh]⟩)
   have H1 := Lib.hid h1
   have k1 := bx.cell 1
   rw [hh] at HHAS
   clear h h1 hh hw0 bx
   go_enter Tryz.func13, Tryz.ntmps13
   go_wp2_with (go_at_call 41; with_reducible refine HHAS.out.mono ?_)
   intro e w1 hq
   obtain ⟨rfl, rfl⟩ := hq
   go_wp2_with fail
   go_ret
   rw [HV.out.1, HV.out.2]
   exact ⟨rfl, _, ⟨v, Bf, Of, H1.out, rfl⟩, HF0.out, fun k hk => .inl hk⟩
 | true =>
   have hi : 0 ≤ f.store ∧ f.store < (p.n : Int) := of_decide_eq_true hh
   obtain ⟨hi0, hi1⟩ := hi
   obtain ⟨g, cap, rfl, hc1, -⟩ := h1.rowc (i := f.store.toNat) (by omega)
   have c0 := h1.c0
   have hgl : g < w.heap.size := row_lt h.row rfl
   have HST := Lib.hid (fun w' (hE : Stab.Ext (w.alloc (.cells #[.int .u8 f.kind, .int .i64 f.store, .int .i64 f.n, .int .i64 f.at_, .int .i64 f.c] 34)) w') => strike_any ((h1.st f.store.toNat (by omega)).keep (Fr.of_below (O := []) hE) (by simp)) hs f hf)
   have WSP := Lib.hid (wsp (w := w) (x := .int .i64 (hitE f)) (s' := struckS (p.st f.store.toNat) f) h1 (i := f.store.toNat) (by omega) hw0 (Nat.le_refl _) (h.st f.store.toNat (by omega)).lt (bx.cell 0))
   have HLI := Lib.hid (show f.store.toNat < p.n by omega)
   have H1 := Lib.hid h1
   have k0 := bx.cell 0
   have k1 := bx.cell 1
   have k2 := bx.cell 2
   have k3 := bx.cell 3
   have k4 := bx.cell 4
   rw [hh] at HHAS
   clear h h1 hw0 bx
   go_enter Tryz.func13, Tryz.ntmps13
   go_wp2_with (go_at_call 41; with_reducible refine HHAS.out.mono ?_)
   intro e w1 hq
   obtain ⟨rfl, rfl⟩ := hq
   go_wp2_with fail
   go_region
   go_wp2_with fail
   go_region_with (go_at_call 42; refine (HST.out _ ?_).mono ?_; exact (Stab.Ext.drew _).trans (Stab.Ext.drew _); intro e w2 hp; obtain ⟨rfl, d0, d1, z1, hend⟩ := WSP.out _ _ _ ((Stab.Ext.drew _).trans (Stab.Ext.drew _)) hp; clear hp)
   all_goals
    go_wp2_with fail
    all_goals
     go_ret
     first
      | (have hq := struck_bad hh (by simpa using ‹(hitE f != 0) = true›); rw [hq.1]; exact hend.out.plain HLI.out hq.2 _)
      | (have hq := struck_sus hh (by simpa using ‹(hitE f != 0) = false›) (by simpa using (‹(f.kind != 5) = true ∧ (f.kind != 7) = true› : _ ∧ _).1) (by simpa using (‹(f.kind != 5) = true ∧ (f.kind != 7) = true› : _ ∧ _).2); rw [hq.1]; exact hend.out.suspect HLI.out hq.2 _)
      | (have hq := struck_up hh (by simpa using ‹(hitE f != 0) = false›) (.inl (by assumption)); rw [hq.1]; exact hend.out.plain HLI.out hq.2 _)
      | (have hq := struck_up hh (by simpa using ‹(hitE f != 0) = false›) (.inr (by have h := ‹(f.kind != 5) = false ∨ (f.kind != 7) = false›; have h2 := ‹¬ f.kind = 5›; simp at h; omega)); rw [hq.1]; exact hend.out.plain HLI.out hq.2 _)
end Vm
end Go.Proofs.YtnbkhdbligjifaaGreatDoor
namespace Go.Proofs.YtnbkhdbligjifaaGreatDoor
open Go Go.RowKit Vm
open scoped Classical
namespace Hlt
/-! ### faults keep stores small -/
theorem del_mem {m : TMap} {k : ByteArray} {x : ByteArray × ByteArray} (h : x ∈ TMap.del m k) : x ∈ m := by
 induction m with
 | nil => simp [TMap.del] at h
 | cons p m ih =>
   obtain ⟨a, b⟩ := p
   unfold TMap.del at h
   split at h
   ·exact List.mem_cons_of_mem _ h
   ·simp only [List.mem_cons] at h ⊢
    exact h.imp id ih
theorem del_len (m : TMap) (k : ByteArray) : (TMap.del m k).length ≤ m.length := by
 induction m with
 | nil => simp [TMap.del]
 | cons p m ih =>
   obtain ⟨a, b⟩ := p
   unfold TMap.del
   split <;> simp <;> omega
theorem put_len_in {m : TMap} {N D d : ByteArray} (h : TMap.look m N = some d) : (TMap.put m N D).length = m.length := by
 induction m with
 | nil => simp [TMap.look] at h
 | cons p m ih =>
   obtain ⟨a, b⟩ := p
   unfold TMap.put
   unfold TMap.look at h
   split
   ·simp
   ·next hne =>
    rw [if_neg hne] at h
    simp [ih h]
theorem bentB_size (d : ByteArray) (a c : Int) : (bentB d a c).size = d.size := by
 show (d.data.toList.set _ _).length = d.size
 simp
theorem struck_fits {L : Nat} {s : PSt} (h : Fits L s) {f : Flt} (hf : f.fits) : Fits L (struckS s f) := by
 unfold struckS
 by_cases hok : f.okB = true
 case neg => rw [if_neg hok]; exact h
 rw [if_pos hok]
 unfold hitS
 split
 ·exact ⟨Nat.zero_le _, fun p hp => by simp [PSt.settled] at hp, rfl, h.room⟩
 split
 ·have hl : ∀ n, (lostM s.seen n).length ≤ L ∧ ∀ p ∈ lostM s.seen n, p ∈ s.seen := fun n => by
   unfold lostM
   split
   ·exact ⟨Nat.le_trans (del_len _ _) h.len, fun p hp => del_mem hp⟩
   ·exact ⟨h.len, fun p hp => hp⟩
  exact ⟨(hl _).1, fun p hp => h.key p ((hl _).2 p hp), rfl, h.room⟩
 split
 ·have hl : (bentM s.seen f).length ≤ L ∧ ∀ p ∈ bentM s.seen f, p.1.size ≤ 80 ∧ p.2.size ≤ 65536 := by
   unfold bentM
   split
   ·next k hk =>
    split
    ·next d hd =>
     split
     ·exact ⟨h.len, h.key⟩
     ·refine ⟨by rw [put_len_in hd]; exact h.len, fun p hp => ?_⟩
      rcases put_mem hp with rfl | hp
      ·have := h.key _ (TMap.look_mem hd)
       exact ⟨this.1, by rw [bentB_size]; exact this.2⟩
      ·exact h.key p hp
    ·exact ⟨h.len, h.key⟩
   ·exact ⟨h.len, h.key⟩
  exact ⟨hl.1, hl.2, rfl, h.room⟩
 split
 ·exact ⟨h.len, h.key, h.wr, h.room⟩
 split
 ·exact ⟨h.len, h.key, h.wr, h.room⟩
 split
 ·exact ⟨h.len, h.key, h.wr, h.room⟩
 ·exact ⟨h.len, h.key, h.wr, hf.n⟩
structure WFit (L n : Nat) (p : PW) : Prop where
 n_ : p.n = n
 fits : ∀ i, Fits L (p.st i)
 calm : Calm p
theorem struck_world {L n : Nat} {p : PW} (h : WFit L n p) {f : Flt} (hf : f.fits) : WFit L n (p.struck f) ∧ (p.struck f).calls = p.calls := by
 have key : ∀ i, Fits L (upd p.st f.store.toNat (struckS (p.st f.store.toNat) f) i) := fun i => by
  by_cases he : i = f.store.toNat
  ·subst he; rw [upd_same]; exact struck_fits (h.fits _) hf
  ·rw [upd_ne _ _ he]; exact h.fits i
 unfold PW.struck
 by_cases h1 : p.has f.store = true
 case neg => rw [if_neg h1]; exact ⟨h, rfl⟩
 rw [if_pos h1]
 by_cases h2 : hitE f = 0
 case neg => rw [if_neg h2]; exact ⟨h, rfl⟩
 rw [if_pos h2]
 split
 ·exact ⟨⟨h.n_, key, h.calm⟩, rfl⟩
 split
 ·exact ⟨⟨h.n_, key, h.calm⟩, rfl⟩
 ·exact ⟨⟨h.n_, key, h.calm⟩, rfl⟩
end Hlt
end Go.Proofs.YtnbkhdbligjifaaGreatDoor
