/-
 A world in memory: its crash. A row of what survives as an argument, opened. The health package: write. Matrices: may one be? Its rows are as long as the first one.
-/
import Derived.Test.YtnbkhdbligjifaaGreatDoorStoI
import Derived.Test.YtnbkhdbligjifaaGreatDoorHltG
import Derived.Test.YtnbkhdbligjifaaGreatDoorCodA
import Derived.Test.YtnbkhdbligjifaaGreatDoorCodG
set_option linter.unusedVariables false
set_option linter.unusedSimpArgs false
set_option maxRecDepth 100000
set_option maxHeartbeats 40000000
namespace Go.Proofs.YtnbkhdbligjifaaGreatDoor
open Go Go.RowKit
namespace Vm
def KeepAt (O : List Nat) (W : World) (v : Value) (ks : List Int) : Prop := ∃ A cap, v = .slice A ks.length cap ∧ ∀ j x, ks[j]? = some x → ∃ g o, A = some ⟨g, o, none⟩ ∧ g ∉ O ∧ W.cell? ⟨g, o + j, none⟩ = some (.int .i64 x)
def SurvAt (O : List Nat) (W : World) (v : Value) (l : List (List Int)) : Prop := ∃ A cap, v = .slice A l.length cap ∧ ∀ j ks, l[j]? = some ks → ∃ g o x, A = some ⟨g, o, none⟩ ∧ g ∉ O ∧ W.cell? ⟨g, o + j, none⟩ = some x ∧ KeepAt O W x ks
theorem KeepAt.ints {O : List Nat} {W : World} {v : Value} {ks : List Int} (h : KeepAt O W v ks) : IntsAt W v ks := by
 obtain ⟨A, cap, h1, h2⟩ := h
 exact ⟨A, cap, h1, fun j x hx => by obtain ⟨g, o, q1, _, q2⟩ := h2 j x hx; exact ⟨g, o, q1, q2⟩⟩
theorem KeepAt.keep {O : List Nat} {W W' : World} {v : Value} {ks : List Int} (h : KeepAt O W v ks) (hf : Fr O W W') : KeepAt O W' v ks := by
 obtain ⟨A, cap, h1, h2⟩ := h
 exact ⟨A, cap, h1, fun j x hx => by obtain ⟨g, o, q1, q0, q2⟩ := h2 j x hx; exact ⟨g, o, q1, q0, (World.cell?_of_block (hf.block g (lt_cell q2) q0)).trans q2⟩⟩
theorem KeepAt.nil (O : List Nat) (W : World) : KeepAt O W (.slice none 0 0) [] := ⟨none, 0, rfl, fun j x hx => by simp at hx⟩
theorem KeepAt.form {O : List Nat} {W : World} {v : Value} {ks : List Int} (h : KeepAt O W v ks) : ∃ A cap, v = .slice A ks.length cap := by
 obtain ⟨A, cap, h1, _⟩ := h
 exact ⟨A, cap, h1⟩
structure CrashOk (s : PSt) (ks : List Int) : Prop where
 writes : s.writes.length ≤ 1000000
 keep : ks.length ≤ 1000000000
 ints : ∀ x ∈ ks, -9223372036854775808 ≤ x ∧ x ≤ 9223372036854775807
 data : ∀ q ∈ s.writes, q.2.1.size ≤ 1000000
def PW.crashK (p : PW) (l : List (List Int)) (k : Nat) : PW := { p with st := fun j => if j < k then crashS (p.st j) (l.getD j []) else p.st j }
theorem PW.crashK_lt (p : PW) (l : List (List Int)) {k i : Nat} (h : i < k) : (p.crashK l k).st i = crashS (p.st i) (l.getD i []) := if_pos h
theorem PW.crashK_ge (p : PW) (l : List (List Int)) {k i : Nat} (h : k ≤ i) : (p.crashK l k).st i = p.st i := if_neg (by omega)
def PW.crashed (p : PW) (l : List (List Int)) : PW := { p with st := fun j => crashS (p.st j) (l.getD j []), left := -1, dark := false }
theorem WIs.congr {w : World} {b : Nat} {p p' : PW} {v : Value} {Bf : Nat → Nat} {Of : Nat → List Nat} (h : WIs w b p v Bf Of) (hn : p'.n = p.n) (hs : ∀ i, i < p.n → p'.st i = p.st i) (hu : p'.sus = p.sus) (hc : p'.calls = p.calls) (hl : p'.left = p.left) (hd : p'.dark = p.dark) : WIs w b p' v Bf Of where
 blk := by
  have := h.blk
  unfold wCells at this ⊢
  rw [hc, hl, hd]
  exact this
 row := by rw [hn, hu]; exact h.row
 st := fun i hi => by rw [hn] at hi; rw [hs i hi]; exact h.st i hi
 apart := by rw [hn]; exact h.apart
 off := by rw [hn]; exact h.off
 ne := h.ne
theorem WIs.crashStep {w wr w1 w2 : World} {b k : Nat} {p : PW} {l : List (List Int)} {v : Value} {Bf : Nat → Nat} {Of Of' : Nat → List Nat} (hw : WIs wr b (p.crashK l k) v Bf Of') (hk : k < p.n) (hf : Fr (wOwn b v p.n Of) w wr) (hx : ∀ x, x ∈ wOwn b v p.n Of' → x ∈ wOwn b v p.n Of ∨ w.heap.size ≤ x)
 (hE : Fr [] wr w1) {ks : List Int} (hks : l.getD k [] = ks) {u : Value} {e : Ending} (hp : StPost w1 (Bf k) (Of' k) u (crashS (p.st k) ks) e w2) :
 ∃ Of'', WIs w2 b (p.crashK l (k + 1)) v Bf Of'' ∧ Fr (wOwn b v p.n Of) w w2 ∧ ∀ x, x ∈ wOwn b v p.n Of'' → x ∈ wOwn b v p.n Of ∨ w.heap.size ≤ x := by
 obtain ⟨_, O', q1, q2, q3⟩ := hp
 have hw1 := hw.keep hE (by simp)
 have h2 := hw1.store (i := k) hk q1 q2 q3
 have hs1 := hE.size
 have hs0 := hf.size
 refine ⟨_, h2.congr rfl (fun i hi => ?_) rfl rfl rfl rfl, ?_, ?_⟩
 ·show (p.crashK l (k + 1)).st i = upd (p.crashK l k).st k (crashS (p.st k) ks) i
  by_cases he : i = k
  ·subst he
   rw [upd_same, p.crashK_lt l (by omega), hks]
  ·rw [upd_ne _ _ he]
   by_cases hl : i < k
   ·rw [p.crashK_lt l hl, p.crashK_lt l (by omega)]
   ·rw [p.crashK_ge l (by omega), p.crashK_ge l (by omega)]
 ·refine (hf.trans hE (by simp)).trans q2 fun x hx2 hl => ?_
  rcases hx x (mem_wOwn.2 (.inr (.inr ⟨k, hk, hx2⟩))) with h | h
  ·exact h
  ·omega
 ·intro x hx2
  rcases mem_wOwn.1 hx2 with rfl | hg | ⟨j, hj, hx3⟩
  ·exact .inl (mem_wOwn.2 (.inl rfl))
  ·exact .inl (mem_wOwn.2 (.inr (.inl hg)))
  ·by_cases he : j = k
   ·subst he
    rw [upd_same] at hx3
    rcases q3 x hx3 with h | h
    ·exact hx x (mem_wOwn.2 (.inr (.inr ⟨j, hk, h⟩)))
    ·right; omega
   ·rw [upd_ne _ _ he] at hx3
    exact hx x (mem_wOwn.2 (.inr (.inr ⟨j, hj, hx3⟩)))
theorem wcrash_any {w : World} {b : Nat} {p : PW} {O : List Nat} (h : WAt w b p O) (hn : p.n ≤ 1000) (v : Value) (l : List (List Int)) (hl : SurvAt O w v l) (hll : l.length ≤ 1000000000) (hok : ∀ i, i < p.n → CrashOk (p.st i) (l.getD i [])) :
 Calls Tryz.prog 25 #[.pointer (some ⟨b, 0, none⟩), v] w (WPost w b O (.int .i64 0) (p.crashed l)) := by
 obtain ⟨v0, Bf, Of, h, rfl⟩ := h
 obtain ⟨A, cap, rfl⟩ := h.form
 obtain ⟨LA, lc, rfl, hsv⟩ := hl
 have c0 := h.c0
 have HS := Lib.hid hsv
 have HOK := Lib.hid hok
 have H := Lib.hid h
 clear h hsv hok
 go_enter Tryz.func25, Tryz.ntmps25
 go_wp2_with fail
 go_loopw [15] (fun i wr => ∃ (k : Nat) (Of' : Nat → List Nat), k ≤ p.n ∧ i = .int .i64 (k : Int) ∧ WIs wr b (p.crashK l k) (.slice A p.n cap) Bf Of' ∧ Fr (wOwn b (.slice A p.n cap) p.n Of) w wr ∧ ∀ x, x ∈ wOwn b (.slice A p.n cap) p.n Of' → x ∈ wOwn b (.slice A p.n cap) p.n Of ∨ w.heap.size ≤ x) (fun i _ => p.n - (intOf i).toNat)
 case atStart => exact ⟨0, Of, by omega, rfl, H.out.congr rfl (fun i hi => p.crashK_ge l (Nat.zero_le _)) rfl rfl rfl rfl, Fr.refl _ _, fun x hx => .inl hx⟩
 case round =>
  obtain ⟨k, Of', hk, rfl, hw, hf, hx⟩ := hrel
  by_cases hlt : k < p.n
  ·have hlt2 : (k : Int) < (p.n : Int) := by omega
   obtain ⟨g0, cap0, hve, r0, r1⟩ := hw.rowc (i := k) hlt
   obtain ⟨rfl, rfl⟩ : A = some ⟨g0, 0, none⟩ ∧ cap = cap0 := by cases hve; exact ⟨rfl, rfl⟩
   have hE : Fr [] wr (wr.alloc (.cells #[.pointer (some ⟨Bf k, 0, none⟩), .bool (p.sus k)] 78)) := Fr.alloc _ _
   have hst : SAt (wr.alloc (.cells #[.pointer (some ⟨Bf k, 0, none⟩), .bool (p.sus k)] 78)) (Bf k) (p.st k) (Of' k) := by
    have := (hw.st k hlt).keep hE (by simp)
    rwa [p.crashK_ge l (Nat.le_refl _)] at this
   have ho := HOK.out k hlt
   replace r1 : wr.cell? ⟨g0, k * 2 + 1, none⟩ = some (.bool (p.sus k)) := r1
   by_cases hkl : k < l.length
   ·obtain ⟨ks, hks⟩ : ∃ ks, l[k]? = some ks := ⟨_, List.getElem?_eq_getElem hkl⟩
    obtain ⟨gl, ol, x, rfl, hgl, hcl, hka⟩ := HS.out k ks hks
    have hgd : l.getD k [] = ks := by rw [List.getD, hks]; rfl
    rw [hgd] at ho
    have hkr := (hka.keep hf).keep (hE.sub (by simp))
    obtain ⟨KA, kc, rfl⟩ := hka.form
    have HC := Lib.hid (crash_any hst ho.writes _ ks hkr.ints ho.keep ho.ints ho.data)
    have HP := Lib.hid (fun e w2 hp => WIs.crashStep (e := e) (w2 := w2) hw hlt hf hx hE hgd (u := .int .i64 0) hp)
    have hkl2 : (k : Int) < (l.length : Int) := by omega
    have hc2 : wr.cell? ⟨gl, ol + k, none⟩ = some (.slice KA ks.length kc) := (World.cell?_of_block (hf.block gl (lt_cell hcl) hgl)).trans hcl
    have hgll : gl < wr.heap.size := lt_cell hc2
    clear hw hf hx hE hst ho hve hks hgl hcl hka hkr hgd
    go_wp2_with (go_at_call 55; with_reducible refine HC.out.mono ?_)
    intro e w2 hq
    obtain ⟨Of'', q1, q2, q3⟩ := HP.out _ _ hq
    have Q := Lib.hid (And.intro q1 (And.intro q2 q3))
    obtain ⟨rfl, -⟩ := hq
    clear q1 q2 q3
    go_wp2_with fail
    refine ⟨⟨k + 1, Of'', by omega, rfl, Q.out.1, Q.out.2.1, Q.out.2.2⟩, by simp [intOf]; omega⟩
   ·have hgd : l.getD k [] = [] := by rw [List.getD, List.getElem?_eq_none (by omega)]; rfl
    rw [hgd] at ho
    have HC := Lib.hid (crash_any hst ho.writes _ [] (KeepAt.nil [] _).ints ho.keep ho.ints ho.data)
    have HP := Lib.hid (fun e w2 hp => WIs.crashStep (e := e) (w2 := w2) hw hlt hf hx hE hgd (u := .int .i64 0) hp)
    have hkl2 : (l.length : Int) ≤ (k : Int) := by omega
    clear hw hf hx hE hst ho hve hgd hkl
    go_wp2_with (go_at_call 55; with_reducible refine HC.out.mono ?_)
    intro e w2 hq
    obtain ⟨Of'', q1, q2, q3⟩ := HP.out _ _ hq
    have Q := Lib.hid (And.intro q1 (And.intro q2 q3))
    obtain ⟨rfl, -⟩ := hq
    clear q1 q2 q3
    go_wp2_with fail
    refine ⟨⟨k + 1, Of'', by omega, rfl, Q.out.1, Q.out.2.1, Q.out.2.2⟩, by simp [intOf]; omega⟩
  ·have hke : k = p.n := by omega
   subst hke
   have z2 := hw.blk.frozen 2
   have z3 := hw.blk.frozen 3
   have c2 := hw.c2
   have c3 := hw.c3
   have f1 := Fr.cell wr ⟨b, 2, none⟩ (.int .i64 (-1))
   have f2 := f1.trans (Fr.cell (wr.setCell ⟨b, 2, none⟩ (.int .i64 (-1))) ⟨b, 3, none⟩ (.bool false)) (fun k hk _ => hk)
   have HE := Lib.hid ((hw.congr (p' := { p.crashed l with left := p.left, dark := p.dark }) rfl (fun i hi => (p.crashK_lt l hi).symm) rfl rfl rfl rfl).head (p' := p.crashed l) ((hw.blk.set_ 2 (.int .i64 (-1))).set_ 3 (.bool false)) f2 rfl rfl rfl)
   have HF := Lib.hid (hf.next (f2.sub fun k hk => by simp only [List.mem_singleton] at hk; exact mem_wOwn.2 (.inl hk)))
   have HX := Lib.hid hx
   have d1 : ¬ ((p.n : Int) < (p.n : Int)) := by omega
   clear hw hf hx f1 f2
   go_wp2_with fail
   go_ret
   exact ⟨rfl, _, ⟨_, Bf, _, HE.out, rfl⟩, HF.out, HX.out⟩
end Vm
end Go.Proofs.YtnbkhdbligjifaaGreatDoor
namespace Go.Proofs.YtnbkhdbligjifaaGreatDoor
open Go.ChangeShapes Go.WideShapes Go.ChangeAt Go.RowKit Go.Joins Go.Deep
namespace Hlt
open Vm
theorem add_none {a : Addr} {W : World} {v : Value} (h : W.cell? (a.add 0) = some v) : a.spot = none := by
 simpa [Addr.add] using World.cell?_spot h
theorem open_keep {H : Type} {enc : TypeId × Value → H} {w : World} {base : Nat} {held : Bool} {fuel : Nat} {v : Value} {x : DataW H × List MemPlace}
 (h : DataW.trod enc Tryz.prog w base (fun _ => true) held fuel 54 [v] = some x) : ∃ ks : List Int, KeepAt [] w v ks ∧ ∀ k ∈ ks, -9223372036854775808 ≤ k ∧ k ≤ 9223372036854775807 := by
 rcases Go.Deep.open_slice Tryz.underlying54 h with ⟨hc, _⟩ | ⟨a, len, cap, m, n, D, Pl, hc, hb, hlc, hcm, hm, _, hi⟩
 ·obtain rfl : v = .slice none 0 0 := by simpa using hc
  exact ⟨[], KeepAt.nil _ _, by simp⟩
 ·obtain rfl : v = .slice (some a) len cap := by simpa using hc
  simp only [if_true] at hm
  subst hm
  have h1 : Tryz.prog.cellsOf 3 = 1 := by kernel_rfl
  have key : ∀ i, i < len → ∃ k : Int, (-9223372036854775808 ≤ k ∧ k ≤ 9223372036854775807) ∧ w.cell? (a.add i) = some (.int .i64 k) := by
   intro i hil
   obtain ⟨cs', hcs, ht⟩ := hi i (by omega)
   rw [h1, Nat.mul_one] at hcs
   obtain ⟨_, hl, hcell⟩ := World.cells?_some hcs
   obtain ⟨c, rfl⟩ : ∃ c, cs' = [c] := by
    match cs', hl with
    | [c], _ => exact ⟨c, rfl⟩
   obtain ⟨x0, e0, _, w0⟩ := DataW.trod_int Tryz.underlying3 ht
   simp at e0
   subst e0
   have q0 := bounds_i64 w0
   have h0 := hcell 0 (by simp)
   refine ⟨x0, ⟨by omega, by omega⟩, ?_⟩
   have ha : (a.add i).add 0 = a.add i := by simp [Addr.add]
   rw [ha] at h0
   exact h0
  obtain ⟨ks, rfl, hp⟩ := list_of len key
  refine ⟨ks, ⟨some a, _, rfl, fun j k hk => ?_⟩, fun k hk => ?_⟩
  ·obtain ⟨_, hc2⟩ := hp j k hk
   have h00 := (hp 0 _ (List.getElem?_eq_getElem (Nat.lt_of_le_of_lt (Nat.zero_le j) (List.getElem?_eq_some_iff.1 hk).1))).2
   obtain ⟨g, o, sp⟩ := a
   obtain rfl : sp = none := add_none h00
   have hadd : (⟨g, o, none⟩ : Addr).add j = ⟨g, o + j, none⟩ := by unfold Addr.add; split <;> simp_all
   rw [hadd] at hc2
   exact ⟨g, o, rfl, by simp, hc2⟩
  ·obtain ⟨i, hi, rfl⟩ := List.mem_iff_getElem.1 hk
   exact (hp i _ (List.getElem?_eq_getElem hi)).1
theorem open_survives {H : Type} {enc : TypeId × Value → H} {w : World} {base : Nat} {held : Bool} {b0 : Nat} {r : Reach} {v : Value} {d : DataW H} {p : List MemPlace}
 (hv : Value.okWide Tryz.prog w r b0 53 v) (h : DataW.Trod enc Tryz.prog w base (fun _ => true) held 53 v d p) :
 ∃ l : List (List Int), SurvAt [] w v l ∧ ∀ ks ∈ l, ∀ x ∈ ks, -9223372036854775808 ≤ x ∧ x ≤ 9223372036854775807 := by
 obtain ⟨a0, len0, cap0, rfl⟩ := okWide_slice Tryz.underlying53 hv
 obtain ⟨fuel, hf⟩ := h
 rcases Shd.open_slice_fields Tryz.underlying53 Tryz.underlying56 (by kernel_rfl) (by kernel_rfl) hf with ⟨hc, _⟩ | ⟨a, len, cap, m, D, Pl, hc, hb, hlc, hcm, hm, _, hi⟩
 ·simp [Value.cells] at hc
  obtain ⟨rfl, rfl, rfl⟩ := hc
  exact ⟨[], ⟨none, 0, rfl, fun j ks hj => by simp at hj⟩, by simp⟩
 ·simp [Value.cells] at hc
  obtain ⟨rfl, rfl, rfl⟩ := hc
  simp only [if_true] at hm
  subst hm
  have key : ∀ i, i < len0 → ∃ ks : List Int, (∀ x ∈ ks, -9223372036854775808 ≤ x ∧ x ≤ 9223372036854775807) ∧ ∃ x, w.cell? (a.add i) = some x ∧ KeepAt [] w x ks := by
   intro i hil
   obtain ⟨ys, n, _, _, _, hff⟩ := hi i (by omega)
   obtain ⟨v0, y0, c0, _, t0⟩ := hff 0 _ rfl
   obtain ⟨ks, hk, hb⟩ := open_keep t0
   exact ⟨ks, hb, v0, by simpa using c0, hk⟩
  obtain ⟨l, rfl, hp⟩ := list_of len0 key
  refine ⟨l, ⟨some a, _, rfl, fun j ks hj => ?_⟩, fun ks hk => ?_⟩
  ·obtain ⟨_, x, hc2, hk⟩ := hp j ks hj
   obtain ⟨_, x0, h00, _⟩ := hp 0 _ (List.getElem?_eq_getElem (Nat.lt_of_le_of_lt (Nat.zero_le j) (List.getElem?_eq_some_iff.1 hj).1))
   obtain ⟨g, o, sp⟩ := a
   obtain rfl : sp = none := add_none h00
   have hadd : (⟨g, o, none⟩ : Addr).add j = ⟨g, o + j, none⟩ := by unfold Addr.add; split <;> simp_all
   rw [hadd] at hc2
   exact ⟨g, o, x, rfl, by simp, hc2, hk⟩
  ·obtain ⟨i, hi, rfl⟩ := List.mem_iff_getElem.1 hk
   exact (hp i _ (List.getElem?_eq_getElem hi)).1
end Hlt
end Go.Proofs.YtnbkhdbligjifaaGreatDoor
namespace Go.Proofs.YtnbkhdbligjifaaGreatDoor
open Go Go.RowKit Vm
namespace Hlt
def shardP (k n : Nat) (d : ByteArray) (i : Nat) (pay : List UInt8) : Shd.Shard := ⟨k, n, i, d.data.toList, pay⟩
def datP (k n : Nat) (d : ByteArray) (i : Nat) (pay : List UInt8) : ByteArray := ⟨((shardP k n d i pay).data Shd.sumL).toArray⟩
def writeR (p : PW) (i : Nat) (nm dat : ByteArray) : Int × PW :=
 if callE p i (putE (p.st i) nm dat) ≠ 0 then (callE p i (putE (p.st i) nm dat), callP p i (putS (p.st i) nm dat)) else
 (callE (callP p i (putS (p.st i) nm dat)) i (syncV ((callP p i (putS (p.st i) nm dat)).st i)), callP (callP p i (putS (p.st i) nm dat)) i (syncS ((callP p i (putS (p.st i) nm dat)).st i)))
theorem wpost_front {w w' w2 : World} {b : Nat} {O : List Nat} {v : Value} {p' : PW} {e : Ending} (hE : Stab.Ext w w') (h : WPost w' b O v p' e w2) : WPost w b O v p' e w2 := by
 obtain ⟨h1, O', h2, h3, h4⟩ := h
 exact ⟨h1, O', h2, (Fr.of_below (O := O) hE).trans h3 (fun k hk _ => hk), fun k hk => (h4 k hk).imp id (Nat.le_trans hE.size)⟩
theorem wpost_next {w w1 w2 : World} {b : Nat} {O O' : List Nat} {v' : Value} {p2 : PW} {e' : Ending} (h3 : Fr O w w1) (h4 : ∀ k, k ∈ O' → k ∈ O ∨ w.heap.size ≤ k) (h' : WPost w1 b O' v' p2 e' w2) : WPost w b O v' p2 e' w2 := by
 obtain ⟨g1, O2, g2, g3, g4⟩ := h'
 refine ⟨g1, O2, g2, h3.trans g3 fun k hk hl => (h4 k hk).resolve_right (by omega), fun k hk => ?_⟩
 rcases g4 k hk with h5 | h5
 ·exact h4 k h5
 ·exact .inr (Nat.le_trans h3.size h5)
structure WRd (B b r : Nat) (x y : ByteArray) (W : World) : Prop where
 c0 : W.cell? ⟨B, 0, none⟩ = some (.pointer (some ⟨b, 0, none⟩))
 o0 : W.cell? ⟨r, 0, none⟩ = some (.string x)
 o1 : W.cell? ⟨r, 1, none⟩ = some (.string y)
theorem WRd.ext {B b r : Nat} {x y : ByteArray} {W W' : World} (h : WRd B b r x y W) (hE : Stab.Ext W W') : WRd B b r x y W' := ⟨hE.cell h.c0, hE.cell h.o0, hE.cell h.o1⟩
theorem write_any {w : World} {B b : Nat} {p : PW} {O : List Nat} {k n : Nat} {d : ByteArray} {gv : Value} {l : List Got} {i : Nat} {pay : List UInt8} (hb : BlobIs w B b k n d gv l) (h : WAt w b p O) (hO : Far O) (hBO : B ∉ O) (hv : Shd.Vars w)
 (hk : Shd.codeB (k : Int) (n : Int) = true) (hd : d.size = 32) (hi : i < n) (hp : pay.length ≤ 65461) (hDl : ((shardP k n d i pay).data Shd.sumL).length ≤ 1000000) (hok : (p.st i).Ok) :
 Calls Tryz.prog 49 #[.pointer (some ⟨B, 0, none⟩), .int .i64 (i : Nat), .string ⟨pay.toArray⟩] w (WPost w b O (.int .i64 (writeR p i (nmB d i) (datP k n d i pay)).1) (writeR p i (nmB d i) (datP k n d i pay)).2) := by
 obtain ⟨h1, h2, h3⟩ := (Shd.codeB_iff _ _).1 hk
 have hdl : d.data.toList.length = 32 := by rw [← hd]; simp
 have hmay : (shardP k n d i pay).May := ⟨h1, h2, h3, hdl, by show (0 : Int) ≤ (i : Int); omega, by show (i : Int) < (n : Int); omega⟩
 have s0 := hb.blk.cell 0
 have s1 := hb.blk.cell 1
 have s2 := hb.blk.cell 2
 have s3 := hb.blk.cell 3
 simp only [List.getElem?_toArray, List.getElem?_cons_zero, List.getElem?_cons_succ] at s0 s1 s2 s3
 have hbl := lt_cell s0
 have HA := Lib.hid h
 have HBK := Lib.hid hb.blk
 have HBO := Lib.hid hBO
 have HMK := Lib.hid (show ∀ W, Stab.Ext w W → Calls Tryz.prog 38 #[.agg #[.int .i64 (k : Int), .int .i64 (n : Int), .string d, .int .i64 (i : Int), .string ⟨pay.toArray⟩]] W fun e w' => e = .returned (.tuple #[.agg #[.string (nmB d i), .string (datP k n d i pay)], .int .i64 0]) ∧ Below W.heap.size W w' from fun W hW =>
  (Shd.make_any (k : Int) (n : Int) (i : Int) d ⟨pay.toArray⟩ ⟨by omega, by omega⟩ W (hv.below hW)).mono fun e w' hh => ⟨make_of hh.1 hmay hp, hh.2⟩)
 have hnl : (nmL d i).length ≤ 1000000 := by
  have := (nmB_size d hd i (by omega)).2
  have h5 : (nmL d i).length = (nmB d i).size := rfl
  omega
 have HPUT := Lib.hid (fun (W : World) (hW : WAt W b p O) => (show Calls Tryz.prog 39 #[.pointer (some ⟨b, 0, none⟩), .int .i64 (i : Int), .agg #[.string (nmB d i), .string (datP k n d i pay)]] W (WPost W b O (.int .i64 (callE p i (putE (p.st i) (nmB d i) (datP k n d i pay)))) (callP p i (putS (p.st i) (nmB d i) (datP k n d i pay)))) from by
  have := wput_any hW (i : Int) (nmL d i) ((shardP k n d i pay).data Shd.sumL) hnl hDl (by rw [Int.toNat_natCast]; exact hok)
  rw [Int.toNat_natCast] at this
  exact this))
 have HO := Lib.hid hO
 clear h hb hBO hv hk hO hmay
 go_enter Tryz.func49, Tryz.ntmps49
 go_wp2_with fail
 go_region_with (go_at_call 38; first
  | (refine (HMK.out w.drew (Stab.Ext.drew _)).mono ?_; rintro e w4 ⟨rfl, hb4⟩; have HB4 := Lib.hid ((Stab.Ext.drew w).trans hb4); clear hb4)
  | (refine (HMK.out _ ((Stab.Ext.drew w).trans (Stab.Ext.alloc _ _))).mono ?_; rintro e w4 ⟨rfl, hb4⟩
     have bz := (Blk.new w.drew 45 #[.string ⟨#[]⟩, .string ⟨#[]⟩]).below hb4 (Blk.new w.drew 45 #[.string ⟨#[]⟩, .string ⟨#[]⟩]).lt
     have z0 : w4.cell? ⟨w.heap.size, 0, none⟩ = some (.string ⟨#[]⟩) := bz.cell 0
     have z1 : w4.cell? ⟨w.heap.size, 1, none⟩ = some (.string ⟨#[]⟩) := bz.cell 1
     have y0 : w4.frozen? ⟨w.heap.size, 0, none⟩ = false := bz.frozen 0
     have y1 : w4.frozen? ⟨w.heap.size, 1, none⟩ = false := bz.frozen 1
     have l0 := lt_cell z0
     have HBZ := Lib.hid (show Blk w4 w.heap.size 45 #[.string ⟨#[]⟩, .string ⟨#[]⟩] from bz)
     have HB4 := Lib.hid (((Stab.Ext.drew w).trans (Stab.Ext.alloc _ _)).trans hb4); clear hb4 bz))
 all_goals
  first
   | (have HE5 := Lib.hid (show Stab.Ext w ((w4.setCell ⟨w.heap.size, 0, none⟩ (.string (nmB d i))).setCell ⟨w.heap.size, 1, none⟩ (.string (datP k n d i pay))) from (HB4.out.setCell (p := ⟨w.heap.size, 0, none⟩) (Nat.le_refl _) _).setCell (p := ⟨w.heap.size, 1, none⟩) (Nat.le_refl _) _)
      have hbz := (HBZ.out.set_ 0 (.string (nmB d i))).set_ 1 (.string (datP k n d i pay))
      have HRD := Lib.hid (show WRd B b w.heap.size (nmB d i) (datP k n d i pay) ((w4.setCell ⟨w.heap.size, 0, none⟩ (.string (nmB d i))).setCell ⟨w.heap.size, 1, none⟩ (.string (datP k n d i pay))) from ⟨HE5.out.cell s0, hbz.cell 0, hbz.cell 1⟩)
      clear hbz z0 z1 y0 y1 l0 HBZ)
   | (have HE5 := Lib.hid (show Stab.Ext w (w4.alloc (.cells #[.string (nmB d i), .string (datP k n d i pay)] 45)) from (HB4.out).trans (Stab.Ext.alloc _ _))
      have hbz := Blk.new w4 45 #[.string (nmB d i), .string (datP k n d i pay)]
      have HRD := Lib.hid (show WRd B b w4.heap.size (nmB d i) (datP k n d i pay) (w4.alloc (.cells #[.string (nmB d i), .string (datP k n d i pay)] 45)) from ⟨HE5.out.cell s0, hbz.cell 0, hbz.cell 1⟩)
      clear hbz)
  go_wp2_with fail
  refine Stab.rg 6 [[], [0], [1], [2], [], []] [3, 4, 5] (WRd B b _ (nmB d i) (datP k n d i pay)) [Stab.eqv ?_, Stab.eqv ?_, Stab.eqv ?_, Stab.eqv ?_, Stab.eqv ?_, Stab.eqv ?_] (HRD.out.ext (Stab.Ext.drew _)) (fun _ _ h hE => h.ext hE) ?goals4 ?last4
  case goals4 =>
   simp only [List.take_succ_cons, List.take_zero]
   iterate 6
    refine Stab.gp (fun us w _ hE hS hp hK => ?_) ?_
    ·((try have e0 : _ = _ := hp.1); (try have e1 : _ = _ := hp.2.1); (try have e2 : _ = _ := hp.2.2.1); have s0 := hS.c0; have s1 := hS.o0; have s2 := hS.o1; go_simp; exact hK _ _ (by show _ = _; with_reducible rfl) (Stab.Ext.refl _))
   exact Stab.Goals.nil
  case last4 =>
   intro us w5 hE hS hp5
   obtain ⟨q3, q4, q5, -⟩ := hp5
   replace q3 : us 3 = _ := q3
   replace q4 : us 4 = _ := q4
   replace q5 : us 5 = _ := q5
   simp only [List.drop_succ_cons, List.drop_zero, q3, q4, q5, Nat.zero_add, Nat.reduceAdd]
   replace hE := HE5.out.trans ((Stab.Ext.drew _).trans hE)
   have HPU := Lib.hid (HPUT.out w5 (HA.out.keep (Fr.of_below (O := []) hE) (by simp)))
   have HE6 := Lib.hid hE
   clear hE hS q3 q4 q5
   go_wp2_with (go_at_call 39; with_reducible refine HPU.out.mono ?_)
   intro e w6 hq6
   obtain ⟨rfl, O6, hA6, hF6, hown6⟩ := wpost_front HE6.out hq6
   have b1 := (World.cell?_of_block (a := ⟨B, 0, none⟩) (hF6.block B hbl HBO.out)).trans s0
   have hwr : writeR p i (nmB d i) (datP k n d i pay) = if callE p i (putE (p.st i) (nmB d i) (datP k n d i pay)) ≠ 0 then (callE p i (putE (p.st i) (nmB d i) (datP k n d i pay)), callP p i (putS (p.st i) (nmB d i) (datP k n d i pay))) else _ := rfl
   have HF6 := Lib.hid hF6
   have HOW6 := Lib.hid hown6
   have HA6 := Lib.hid hA6
   clear hq6 hA6 hF6 hown6
   generalize callE p i (putE (p.st i) (nmB d i) (datP k n d i pay)) = e1 at *
   generalize callP p i (putS (p.st i) (nmB d i) (datP k n d i pay)) = p1 at *
   by_cases h0 : e1 = 0
   ·subst h0
    have HSY := Lib.hid (wsync_any HA6.out (i : Int))
    rw [Int.toNat_natCast] at HSY
    have HWR := Lib.hid hwr
    clear hwr
    go_wp2_with (go_at_call 40; refine HSY.out.mono ?_)
    intro e w7 hq7
    have HQ7 := Lib.hid (wpost_next HF6.out HOW6.out hq7)
    obtain ⟨rfl, -⟩ := hq7
    go_wp2_with fail
    go_ret
    rw [HWR.out, if_neg (by simp)]
    exact HQ7.out
   ·have h0' : (e1 != 0) = true := by simpa using h0
    have HWR := Lib.hid hwr
    clear hwr
    go_wp2_with fail
    go_ret
    rw [HWR.out, if_pos h0]
    exact ⟨rfl, O6, HA6.out, HF6.out, HOW6.out⟩
end Hlt
end Go.Proofs.YtnbkhdbligjifaaGreatDoor
namespace Go.Proofs.YtnbkhdbligjifaaGreatDoor
open Go Go.RowKit
namespace Sol
structure Rect (ls : List (List Nat)) (n L : Nat) : Prop where
 rows : ls.length = n
 cols : ∀ l ∈ ls, l.length = L
 n1 : 1 ≤ n
 l1 : 1 ≤ L
theorem Rect.row {ls : List (List Nat)} {n L : Nat} (h : Rect ls n L) {i : Nat} (hi : i < n) : ∃ l, ls[i]? = some l ∧ l.length = L ∧ l = ls.getD i [] := by
 have hl := h.rows
 have hg : ls[i]? = some ls[i] := List.getElem?_eq_getElem (by omega)
 exact ⟨ls[i], hg, h.cols _ (List.getElem_mem _), by rw [List.getD, hg]; rfl⟩
def Tbl (w : World) (g o n L : Nat) : Prop := ∀ i, i < n → ∃ b o' c, w.cell? ⟨g, o + i, none⟩ = some (.slice (some ⟨b, o', none⟩) L c)
theorem Tbl.ext {w w' : World} {g o n L : Nat} (h : Tbl w g o n L) (hE : Stab.Ext w w') : Tbl w' g o n L := fun i hi => by
 obtain ⟨b, o', c, h⟩ := h i hi
 exact ⟨b, o', c, hE.cell h⟩
theorem rows_tbl {w : World} {v : Value} {ls : List (List Nat)} {n L : Nat} (h : Spr.Rows w v ls) (hr : Rect ls n L) : ∃ g o cap, v = .slice (some ⟨g, o, none⟩) n cap ∧ Tbl w g o n L := by
 obtain ⟨g, o, cap, rfl, hc⟩ := h
 refine ⟨g, o, cap, by rw [hr.rows], fun i hi => ?_⟩
 obtain ⟨l, hl, hlen, -⟩ := hr.row hi
 obtain ⟨u, hu, b, o', c, rfl, -⟩ := hc i l hl
 exact ⟨b, o', c, by rw [hu, hlen]⟩
def Quiet (v : Value) (w : World) (e : Ending) (w' : World) : Prop := e = .returned v ∧ Below w.heap.size w w'
theorem mMay1_any {w : World} {g o n L cap mb : Nat} (ht : Tbl w g o n L) (hn : 1 ≤ n) (hm : w.cell? ⟨mb, 0, none⟩ = some (.slice (some ⟨g, o, none⟩) n cap)) (A : Option Addr) (c : Nat) :
 Calls Tryz.prog 204 #[.slice A L c, .pointer (some ⟨mb, 0, none⟩)] w fun e w' => e = .returned (.bool false) ∧ w = w' := by
 obtain ⟨b, o', c', h0⟩ := ht 0 (by omega)
 rw [Nat.add_zero] at h0
 have hn0 : (0 : Int) < (n : Int) := by omega
 have hne : ((L : Int) != (L : Int)) = false := by simp
 go_enter Tryz.func204, Tryz.ntmps204
 go_wp2_with fail
 go_ret
 exact ⟨rfl, rfl⟩
theorem mMayidx_any {w : World} {g o n L cap mb : Nat} (ht : Tbl w g o n L) (hn : 1 ≤ n) (hn2 : n ≤ 1000) (hm : w.cell? ⟨mb, 0, none⟩ = some (.slice (some ⟨g, o, none⟩) n cap)) :
 Calls Tryz.prog 225 #[.slice (some ⟨g, o, none⟩) n cap, .func (.func 204) #[] #[.pointer (some ⟨mb, 0, none⟩)]] w fun e w' => e = .returned (.int .i64 (-1)) ∧ w = w' := by
 go_enter Tryz.func225, Tryz.ntmps225
 go_wp2_with fail
 go_loopw [8] (fun i wr => ∃ q : Nat, q ≤ n ∧ i = .int .i64 (q : Int) ∧ wr = w) (fun i _ => n - (intOf i).toNat)
 case atStart => exact ⟨0, by omega, rfl, rfl⟩
 case round =>
  obtain ⟨q, hq, rfl, rfl⟩ := hrel
  by_cases hlt : q < n
  ·have hlt2 : (q : Int) < (n : Int) := by omega
   obtain ⟨b, o', c, hc⟩ := ht q hlt
   have HC := Lib.hid (mMay1_any ht hn hm (some ⟨b, o', none⟩) c)
   go_wp2_with (go_at_call 204; with_reducible refine HC.out.mono ?_; rintro e w1 ⟨rfl, rfl⟩)
   go_roundw
   case rel => exact ⟨q + 1, by omega, by go_num, trivial⟩
   case measure => simp [intOf]; omega
  ·obtain rfl : q = n := by omega
   have d1 : ¬ ((q : Int) < (q : Int)) := by omega
   go_wp2_with fail
   go_ret
   exact ⟨rfl, rfl⟩
theorem mMayhas_any {w : World} {g o n L cap mb : Nat} (ht : Tbl w g o n L) (hn : 1 ≤ n) (hn2 : n ≤ 1000) (hm : w.cell? ⟨mb, 0, none⟩ = some (.slice (some ⟨g, o, none⟩) n cap)) :
 Calls Tryz.prog 203 #[.slice (some ⟨g, o, none⟩) n cap, .func (.func 204) #[] #[.pointer (some ⟨mb, 0, none⟩)]] w fun e w' => e = .returned (.bool false) ∧ w = w' := by
 have HC := Lib.hid (mMayidx_any ht hn hn2 hm)
 clear hm
 go_enter Tryz.func203, Tryz.ntmps203
 go_wp2_with (go_at_call 225; with_reducible refine HC.out.mono ?_; rintro e w1 ⟨rfl, rfl⟩)
 go_ret
 exact ⟨rfl, rfl⟩
theorem mMay_any {w : World} {v : Value} {ls : List (List Nat)} {n L : Nat} (h : Spr.Rows w v ls) (hr : Rect ls n L) (hn : n ≤ 12) (hL : L ≤ 12) : Calls Tryz.prog 178 #[v] w (Quiet (.bool true) w) := by
 obtain ⟨g, o, cap, rfl, ht⟩ := rows_tbl h hr
 have hE := Stab.Ext.alloc w (.cells #[.slice (some ⟨g, o, none⟩) n cap] 132)
 have bx := Blk.new w 132 #[.slice (some ⟨g, o, none⟩) n cap]
 obtain ⟨b, o', c', h0⟩ := ht 0 hr.n1
 rw [Nat.add_zero] at h0
 have hgl := Spr.lt_cell h0
 have HC := Lib.hid (mMayhas_any (ht.ext hE) hr.n1 (by omega) (bx.cell 0))
 have HE := Lib.hid hE
 have hn1 := hr.n1
 have hl1 := hr.l1
 have d1 : ¬ ((n : Int) < 1) := by omega
 have d2 : ¬ ((12 : Int) < (n : Int)) := by omega
 have d3 : ¬ ((L : Int) < 1) := by omega
 have d4 : ¬ ((12 : Int) < (L : Int)) := by omega
 have d5 : (0 : Int) < (n : Int) := by omega
 clear h hr ht hE bx
 go_enter Tryz.func178, Tryz.ntmps178
 go_wp2_with (go_at_call 203; with_reducible refine HC.out.mono ?_; rintro e w1 ⟨rfl, rfl⟩)
 go_ret
 exact ⟨rfl, HE.out⟩
theorem sMay1_any {w : World} {g o n L cap mb : Nat} (ht : Tbl w g o n L) (hn : 1 ≤ n) (hm : w.cell? ⟨mb, 0, none⟩ = some (.slice (some ⟨g, o, none⟩) n cap)) (A : Option Addr) (c : Nat) :
 Calls Tryz.prog 205 #[.slice A L c, .pointer (some ⟨mb, 0, none⟩)] w fun e w' => e = .returned (.bool false) ∧ w = w' := by
 obtain ⟨b, o', c', h0⟩ := ht 0 (by omega)
 rw [Nat.add_zero] at h0
 have hn0 : (0 : Int) < (n : Int) := by omega
 have hne : ((L : Int) != (L : Int)) = false := by simp
 go_enter Tryz.func205, Tryz.ntmps205
 go_wp2_with fail
 go_ret
 exact ⟨rfl, rfl⟩
theorem sMayidx_any {w : World} {g o n L cap mb : Nat} (ht : Tbl w g o n L) (hn : 1 ≤ n) (hn2 : n ≤ 1000) (hm : w.cell? ⟨mb, 0, none⟩ = some (.slice (some ⟨g, o, none⟩) n cap)) :
 Calls Tryz.prog 225 #[.slice (some ⟨g, o, none⟩) n cap, .func (.func 205) #[] #[.pointer (some ⟨mb, 0, none⟩)]] w fun e w' => e = .returned (.int .i64 (-1)) ∧ w = w' := by
 go_enter Tryz.func225, Tryz.ntmps225
 go_wp2_with fail
 go_loopw [8] (fun i wr => ∃ q : Nat, q ≤ n ∧ i = .int .i64 (q : Int) ∧ wr = w) (fun i _ => n - (intOf i).toNat)
 case atStart => exact ⟨0, by omega, rfl, rfl⟩
 case round =>
  obtain ⟨q, hq, rfl, rfl⟩ := hrel
  by_cases hlt : q < n
  ·have hlt2 : (q : Int) < (n : Int) := by omega
   obtain ⟨b, o', c, hc⟩ := ht q hlt
   have HC := Lib.hid (sMay1_any ht hn hm (some ⟨b, o', none⟩) c)
   go_wp2_with (go_at_call 205; with_reducible refine HC.out.mono ?_; rintro e w1 ⟨rfl, rfl⟩)
   go_roundw
   case rel => exact ⟨q + 1, by omega, by go_num, trivial⟩
   case measure => simp [intOf]; omega
  ·obtain rfl : q = n := by omega
   have d1 : ¬ ((q : Int) < (q : Int)) := by omega
   go_wp2_with fail
   go_ret
   exact ⟨rfl, rfl⟩
theorem sMayhas_any {w : World} {g o n L cap mb : Nat} (ht : Tbl w g o n L) (hn : 1 ≤ n) (hn2 : n ≤ 1000) (hm : w.cell? ⟨mb, 0, none⟩ = some (.slice (some ⟨g, o, none⟩) n cap)) :
 Calls Tryz.prog 203 #[.slice (some ⟨g, o, none⟩) n cap, .func (.func 205) #[] #[.pointer (some ⟨mb, 0, none⟩)]] w fun e w' => e = .returned (.bool false) ∧ w = w' := by
 have HC := Lib.hid (sMayidx_any ht hn hn2 hm)
 clear hm
 go_enter Tryz.func203, Tryz.ntmps203
 go_wp2_with (go_at_call 225; with_reducible refine HC.out.mono ?_; rintro e w1 ⟨rfl, rfl⟩)
 go_ret
 exact ⟨rfl, rfl⟩
theorem sMay_any {w : World} {v : Value} {ls : List (List Nat)} {n L : Nat} (h : Spr.Rows w v ls) (hr : Rect ls n L) (hn : n ≤ 255) (hL : L ≤ 255) : Calls Tryz.prog 179 #[v] w (Quiet (.bool true) w) := by
 obtain ⟨g, o, cap, rfl, ht⟩ := rows_tbl h hr
 have hE := Stab.Ext.alloc w (.cells #[.slice (some ⟨g, o, none⟩) n cap] 132)
 have bx := Blk.new w 132 #[.slice (some ⟨g, o, none⟩) n cap]
 obtain ⟨b, o', c', h0⟩ := ht 0 hr.n1
 rw [Nat.add_zero] at h0
 have hgl := Spr.lt_cell h0
 have HC := Lib.hid (sMayhas_any (ht.ext hE) hr.n1 (by omega) (bx.cell 0))
 have HE := Lib.hid hE
 have hn1 := hr.n1
 have hl1 := hr.l1
 have d1 : ¬ ((n : Int) < 1) := by omega
 have d2 : ¬ ((255 : Int) < (n : Int)) := by omega
 have d3 : ¬ ((L : Int) < 1) := by omega
 have d4 : ¬ ((255 : Int) < (L : Int)) := by omega
 have d5 : (0 : Int) < (n : Int) := by omega
 clear h hr ht hE bx
 go_enter Tryz.func179, Tryz.ntmps179
 go_wp2_with (go_at_call 203; with_reducible refine HC.out.mono ?_; rintro e w1 ⟨rfl, rfl⟩)
 go_ret
 exact ⟨rfl, HE.out⟩
end Sol
end Go.Proofs.YtnbkhdbligjifaaGreatDoor
