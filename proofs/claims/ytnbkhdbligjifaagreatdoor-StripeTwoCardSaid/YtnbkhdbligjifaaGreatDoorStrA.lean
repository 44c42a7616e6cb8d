/-
 A world in memory: its crash. A row of what survives as an argument, opened. A code, a bool and rows of bools and texts as arguments, opened. The stripe package: does a code fit a world; may a digest be asked for.
-/
import Derived.Test.YtnbkhdbligjifaaGreatDoorStoI
import Derived.Test.YtnbkhdbligjifaaGreatDoorShdMake
import Derived.Test.YtnbkhdbligjifaaGreatDoorCodA
set_option linter.unusedVariables false
set_option linter.unusedSimpArgs false
set_option maxRecDepth 100000
set_option maxHeartbeats 40000000
namespace Go.Proofs.YtnbkhdbligjifaaGreatDoor
open Go Go.RowKit
namespace Vm
def KeepAt (O : List Nat) (W : World) (v : Value) (ks : List Int) : Prop := ∃ A cap, v = .slice A ks.length cap ∧ ∀ j x, ks[j]? = some x → ∃ g o, A = some ⟨g, o, none⟩ ∧ g ∉ O ∧ W.cell? ⟨g, o + j, none⟩ = some (.int .i64 x)
def SurvAt (O : List Nat) (W : World) (v : Value) (l : List (List Int)) : Prop := ∃ A cap, v = .slice A l.length cap ∧ ∀ j ks, l[j]? = some ks → ∃ g o x, A = some ⟨g, o, none⟩ ∧ g ∉ O ∧ W.cell? ⟨g, o + j, none⟩ = some x ∧ KeepAt O W x ks
theorem KeepAt.ints {O : List Nat} {W : World} {v : Value} {ks : List Int} (h : KeepAt O W v ks) : IntsAt W v ks := by
 obtain ⟨A, cap, h1, h2⟩ := h
 exact ⟨A, cap, h1, fun j x hx => by obtain ⟨g, o, q1, _, q2⟩ := h2 j x hx; exact ⟨g, o, q1, q2⟩⟩
theorem KeepAt.keep {O : List Nat} {W W' : World} {v : Value} {ks : List Int} (h : KeepAt O W v ks) (hf : Fr O W W') : KeepAt O W' v ks := by
 obtain ⟨A, cap, h1, h2⟩ := h
 exact ⟨A, cap, h1, fun j x hx => by obtain ⟨g, o, q1, q0, q2⟩ := h2 j x hx; exact ⟨g, o, q1, q0, (World.cell?_of_block (hf.block g (lt_cell q2) q0)).trans q2⟩⟩
theorem KeepAt.nil (O : List Nat) (W : World) : KeepAt O W (.slice none 0 0) [] := ⟨none, 0, rfl, fun j x hx => by simp at hx⟩
theorem KeepAt.form {O : List Nat} {W : World} {v : Value} {ks : List Int} (h : KeepAt O W v ks) : ∃ A cap, v = .slice A ks.length cap := by
 obtain ⟨A, cap, h1, _⟩ := h
 exact ⟨A, cap, h1⟩
structure CrashOk (s : PSt) (ks : List Int) : Prop where
 writes : s.writes.length ≤ 1000000
 keep : ks.length ≤ 9223372036854775807
 ints : ∀ x ∈ ks, -9223372036854775808 ≤ x ∧ x ≤ 9223372036854775807
 data : ∀ q ∈ s.writes, q.2.1.size ≤ 1000000
def PW.crashK (p : PW) (l : List (List Int)) (k : Nat) : PW := { p with st := fun j => if j < k then crashS (p.st j) (l.getD j []) else p.st j }
theorem PW.crashK_lt (p : PW) (l : List (List Int)) {k i : Nat} (h : i < k) : (p.crashK l k).st i = crashS (p.st i) (l.getD i []) := if_pos h
theorem PW.crashK_ge (p : PW) (l : List (List Int)) {k i : Nat} (h : k ≤ i) : (p.crashK l k).st i = p.st i := if_neg (by omega)
def PW.crashed (p : PW) (l : List (List Int)) : PW := { p with st := fun j => crashS (p.st j) (l.getD j []), left := -1, dark := false }
theorem WIs.congr {w : World} {b : Nat} {p p' : PW} {v : Value} {Bf : Nat → Nat} {Of : Nat → List Nat} (h : WIs w b p v Bf Of) (hn : p'.n = p.n) (hs : ∀ i, i < p.n → p'.st i = p.st i) (hu : p'.sus = p.sus) (hc : p'.calls = p.calls) (hl : p'.left = p.left) (hd : p'.dark = p.dark) : WIs w b p' v Bf Of where
 blk := by
  have := h.blk
  unfold wCells at this ⊢
  rw [hc, hl, hd]
  exact this
 row := by rw [hn, hu]; exact h.row
 st := fun i hi => by rw [hn] at hi; rw [hs i hi]; exact h.st i hi
 apart := by rw [hn]; exact h.apart
 off := by rw [hn]; exact h.off
 ne := h.ne
theorem WIs.crashStep {w wr w1 w2 : World} {b k : Nat} {p : PW} {l : List (List Int)} {v : Value} {Bf : Nat → Nat} {Of Of' : Nat → List Nat} (hw : WIs wr b (p.crashK l k) v Bf Of') (hk : k < p.n) (hf : Fr (wOwn b v p.n Of) w wr) (hx : ∀ x, x ∈ wOwn b v p.n Of' → x ∈ wOwn b v p.n Of ∨ w.heap.size ≤ x)
 (hE : Fr [] wr w1) {ks : List Int} (hks : l.getD k [] = ks) {u : Value} {e : Ending} (hp : StPost w1 (Bf k) (Of' k) u (crashS (p.st k) ks) e w2) :
 ∃ Of'', WIs w2 b (p.crashK l (k + 1)) v Bf Of'' ∧ Fr (wOwn b v p.n Of) w w2 ∧ ∀ x, x ∈ wOwn b v p.n Of'' → x ∈ wOwn b v p.n Of ∨ w.heap.size ≤ x := by
 obtain ⟨_, O', q1, q2, q3⟩ := hp
 have hw1 := hw.keep hE (by simp)
 have h2 := hw1.store (i := k) hk q1 q2 q3
 have hs1 := hE.size
 have hs0 := hf.size
 refine ⟨_, h2.congr rfl (fun i hi => ?_) rfl rfl rfl rfl, ?_, ?_⟩
 ·show (p.crashK l (k + 1)).st i = upd (p.crashK l k).st k (crashS (p.st k) ks) i
  by_cases he : i = k
  ·subst he
   rw [upd_same, p.crashK_lt l (by omega), hks]
  ·rw [upd_ne _ _ he]
   by_cases hl : i < k
   ·rw [p.crashK_lt l hl, p.crashK_lt l (by omega)]
   ·rw [p.crashK_ge l (by omega), p.crashK_ge l (by omega)]
 ·refine (hf.trans hE (by simp)).trans q2 fun x hx2 hl => ?_
  rcases hx x (mem_wOwn.2 (.inr (.inr ⟨k, hk, hx2⟩))) with h | h
  ·exact h
  ·omega
 ·intro x hx2
  rcases mem_wOwn.1 hx2 with rfl | hg | ⟨j, hj, hx3⟩
  ·exact .inl (mem_wOwn.2 (.inl rfl))
  ·exact .inl (mem_wOwn.2 (.inr (.inl hg)))
  ·by_cases he : j = k
   ·subst he
    rw [upd_same] at hx3
    rcases q3 x hx3 with h | h
    ·exact hx x (mem_wOwn.2 (.inr (.inr ⟨j, hk, h⟩)))
    ·right; omega
   ·rw [upd_ne _ _ he] at hx3
    exact hx x (mem_wOwn.2 (.inr (.inr ⟨j, hj, hx3⟩)))
theorem wcrash_any {w : World} {b : Nat} {p : PW} {O : List Nat} (h : WAt w b p O) (hn : p.n ≤ 1000) (v : Value) (l : List (List Int)) (hl : SurvAt O w v l) (hll : l.length ≤ 1000000000) (hok : ∀ i, i < p.n → CrashOk (p.st i) (l.getD i [])) :
 Calls Tryz.prog 25 #[.pointer (some ⟨b, 0, none⟩), v] w (WPost w b O (.int .i64 0) (p.crashed l)) := by
 obtain ⟨v0, Bf, Of, h, rfl⟩ := h
 obtain ⟨A, cap, rfl⟩ := h.form
 obtain ⟨LA, lc, rfl, hsv⟩ := hl
 have c0 := h.c0
 have HS := Lib.hid hsv
 have HOK := Lib.hid hok
 have H := Lib.hid h
 clear h hsv hok
 go_enter Tryz.func25, Tryz.ntmps25
 go_wp2_with fail
 go_loopw [15] (fun i wr => ∃ (k : Nat) (Of' : Nat → List Nat), k ≤ p.n ∧ i = .int .i64 (k : Int) ∧ WIs wr b (p.crashK l k) (.slice A p.n cap) Bf Of' ∧ Fr (wOwn b (.slice A p.n cap) p.n Of) w wr ∧ ∀ x, x ∈ wOwn b (.slice A p.n cap) p.n Of' → x ∈ wOwn b (.slice A p.n cap) p.n Of ∨ w.heap.size ≤ x) (fun i _ => p.n - (intOf i).toNat)
 case atStart => exact ⟨0, Of, by omega, rfl, H.out.congr rfl (fun i hi => p.crashK_ge l (Nat.zero_le _)) rfl rfl rfl rfl, Fr.refl _ _, fun x hx => .inl hx⟩
 case round =>
  obtain ⟨k, Of', hk, rfl, hw, hf, hx⟩ := hrel
  by_cases hlt : k < p.n
  ·have hlt2 : (k : Int) < (p.n : Int) := by omega
   obtain ⟨g0, cap0, hve, r0, r1⟩ := hw.rowc (i := k) hlt
   obtain ⟨rfl, rfl⟩ : A = some ⟨g0, 0, none⟩ ∧ cap = cap0 := by cases hve; exact ⟨rfl, rfl⟩
   have hE : Fr [] wr (wr.alloc (.cells #[.pointer (some ⟨Bf k, 0, none⟩), .bool (p.sus k)] 78)) := Fr.alloc _ _
   have hst : SAt (wr.alloc (.cells #[.pointer (some ⟨Bf k, 0, none⟩), .bool (p.sus k)] 78)) (Bf k) (p.st k) (Of' k) := by
    have := (hw.st k hlt).keep hE (by simp)
    rwa [p.crashK_ge l (Nat.le_refl _)] at this
   have ho := HOK.out k hlt
   replace r1 : wr.cell? ⟨g0, k * 2 + 1, none⟩ = some (.bool (p.sus k)) := r1
   by_cases hkl : k < l.length
   ·obtain ⟨ks, hks⟩ : ∃ ks, l[k]? = some ks := ⟨_, List.getElem?_eq_getElem hkl⟩
    obtain ⟨gl, ol, x, rfl, hgl, hcl, hka⟩ := HS.out k ks hks
    have hgd : l.getD k [] = ks := by rw [List.getD, hks]; rfl
    rw [hgd] at ho
    have hkr := (hka.keep hf).keep (hE.sub (by simp))
    obtain ⟨KA, kc, rfl⟩ := hka.form
    have HC := Lib.hid (crash_any hst ho.writes _ ks hkr.ints ho.keep ho.ints ho.data)
    have HP := Lib.hid (fun e w2 hp => WIs.crashStep (e := e) (w2 := w2) hw hlt hf hx hE hgd (u := .int .i64 0) hp)
    have hkl2 : (k : Int) < (l.length : Int) := by omega
    have hc2 : wr.cell? ⟨gl, ol + k, none⟩ = some (.slice KA ks.length kc) := (World.cell?_of_block (hf.block gl (lt_cell hcl) hgl)).trans hcl
    have hgll : gl < wr.heap.size := lt_cell hc2
    clear hw hf hx hE hst ho hve hks hgl hcl hka hkr hgd
    go_wp2_with (go_at_call 55; with_reducible refine HC.out.mono ?_)
    intro e w2 hq
    obtain ⟨Of'', q1, q2, q3⟩ := HP.out _ _ hq
    have Q := Lib.hid (And.intro q1 (And.intro q2 q3))
    obtain ⟨rfl, -⟩ := hq
    clear q1 q2 q3
    go_wp2_with fail
    refine ⟨⟨k + 1, Of'', by omega, rfl, Q.out.1, Q.out.2.1, Q.out.2.2⟩, by simp [intOf]; omega⟩
   ·have hgd : l.getD k [] = [] := by rw [List.getD, List.getElem?_eq_none (by omega)]; rfl
    rw [hgd] at ho
    have HC := Lib.hid (crash_any hst ho.writes _ [] (KeepAt.nil [] _).ints ho.keep ho.ints ho.data)
    have HP := Lib.hid (fun e w2 hp => WIs.crashStep (e := e) (w2 := w2) hw hlt hf hx hE hgd (u := .int .i64 0) hp)
    have hkl2 : (l.length : Int) ≤ (k : Int) := by omega
    clear hw hf hx hE hst ho hve hgd hkl
    go_wp2_with (go_at_call 55; with_reducible refine HC.out.mono ?_)
    intro e w2 hq
    obtain ⟨Of'', q1, q2, q3⟩ := HP.out _ _ hq
    have Q := Lib.hid (And.intro q1 (And.intro q2 q3))
    obtain ⟨rfl, -⟩ := hq
    clear q1 q2 q3
    go_wp2_with fail
    refine ⟨⟨k + 1, Of'', by omega, rfl, Q.out.1, Q.out.2.1, Q.out.2.2⟩, by simp [intOf]; omega⟩
  ·have hke : k = p.n := by omega
   subst hke
   have z2 := hw.blk.frozen 2
   have z3 := hw.blk.frozen 3
   have c2 := hw.c2
   have c3 := hw.c3
   have f1 := Fr.cell wr ⟨b, 2, none⟩ (.int .i64 (-1))
   have f2 := f1.trans (Fr.cell (wr.setCell ⟨b, 2, none⟩ (.int .i64 (-1))) ⟨b, 3, none⟩ (.bool false)) (fun k hk _ => hk)
   have HE := Lib.hid ((hw.congr (p' := { p.crashed l with left := p.left, dark := p.dark }) rfl (fun i hi => (p.crashK_lt l hi).symm) rfl rfl rfl rfl).head (p' := p.crashed l) ((hw.blk.set_ 2 (.int .i64 (-1))).set_ 3 (.bool false)) f2 rfl rfl rfl)
   have HF := Lib.hid (hf.next (f2.sub fun k hk => by simp only [List.mem_singleton] at hk; exact mem_wOwn.2 (.inl hk)))
   have HX := Lib.hid hx
   have d1 : ¬ ((p.n : Int) < (p.n : Int)) := by omega
   clear hw hf hx f1 f2
   go_wp2_with fail
   go_ret
   exact ⟨rfl, _, ⟨_, Bf, _, HE.out, rfl⟩, HF.out, HX.out⟩
end Vm
end Go.Proofs.YtnbkhdbligjifaaGreatDoor
namespace Go.Proofs.YtnbkhdbligjifaaGreatDoor
open Go.ChangeShapes Go.WideShapes Go.ChangeAt Go.RowKit Go.Joins Go.Deep
namespace Hlt
open Vm
theorem add_none {a : Addr} {W : World} {v : Value} (h : W.cell? (a.add 0) = some v) : a.spot = none := by
 simpa [Addr.add] using World.cell?_spot h
theorem open_keep {H : Type} {enc : TypeId × Value → H} {w : World} {base : Nat} {held : Bool} {fuel : Nat} {v : Value} {x : DataW H × List MemPlace}
 (h : DataW.trod enc Tryz.prog w base (fun _ => true) held fuel 54 [v] = some x) : ∃ ks : List Int, KeepAt [] w v ks ∧ ks.length ≤ 9223372036854775807 ∧ ∀ k ∈ ks, -9223372036854775808 ≤ k ∧ k ≤ 9223372036854775807 := by
 rcases Go.Deep.open_slice Tryz.underlying54 h with ⟨hc, _⟩ | ⟨a, len, cap, m, n, D, Pl, hc, hb, hlc, hcm, hm, _, hi⟩
 ·obtain rfl : v = .slice none 0 0 := by simpa using hc
  exact ⟨[], KeepAt.nil _ _, by simp, by simp⟩
 ·obtain rfl : v = .slice (some a) len cap := by simpa using hc
  simp only [if_true] at hm
  subst hm
  have h1 : Tryz.prog.cellsOf 3 = 1 := by kernel_rfl
  have key : ∀ i, i < len → ∃ k : Int, (-9223372036854775808 ≤ k ∧ k ≤ 9223372036854775807) ∧ w.cell? (a.add i) = some (.int .i64 k) := by
   intro i hil
   obtain ⟨cs', hcs, ht⟩ := hi i (by omega)
   rw [h1, Nat.mul_one] at hcs
   obtain ⟨_, hl, hcell⟩ := World.cells?_some hcs
   obtain ⟨c, rfl⟩ : ∃ c, cs' = [c] := by
    match cs', hl with
    | [c], _ => exact ⟨c, rfl⟩
   obtain ⟨x0, e0, _, w0⟩ := DataW.trod_int Tryz.underlying3 ht
   simp at e0
   subst e0
   have q0 := bounds_i64 w0
   have h0 := hcell 0 (by simp)
   refine ⟨x0, ⟨by omega, by omega⟩, ?_⟩
   have ha : (a.add i).add 0 = a.add i := by simp [Addr.add]
   rw [ha] at h0
   exact h0
  have hml : Go.maxLen = 9223372036854775807 := by decide
  obtain ⟨ks, rfl, hp⟩ := list_of len key
  refine ⟨ks, ⟨some a, _, rfl, fun j k hk => ?_⟩, by omega, fun k hk => ?_⟩
  ·obtain ⟨_, hc2⟩ := hp j k hk
   have h00 := (hp 0 _ (List.getElem?_eq_getElem (Nat.lt_of_le_of_lt (Nat.zero_le j) (List.getElem?_eq_some_iff.1 hk).1))).2
   obtain ⟨g, o, sp⟩ := a
   obtain rfl : sp = none := add_none h00
   have hadd : (⟨g, o, none⟩ : Addr).add j = ⟨g, o + j, none⟩ := by unfold Addr.add; split <;> simp_all
   rw [hadd] at hc2
   exact ⟨g, o, rfl, by simp, hc2⟩
  ·obtain ⟨i, hi, rfl⟩ := List.mem_iff_getElem.1 hk
   exact (hp i _ (List.getElem?_eq_getElem hi)).1
theorem open_survives2 {H : Type} {enc : TypeId × Value → H} {w : World} {base : Nat} {held : Bool} {b0 : Nat} {r : Reach} {v : Value} {d : DataW H} {p : List MemPlace}
 (hv : Value.okWide Tryz.prog w r b0 53 v) (h : DataW.Trod enc Tryz.prog w base (fun _ => true) held 53 v d p) :
 ∃ l : List (List Int), SurvAt [] w v l ∧ ∀ ks ∈ l, ks.length ≤ 9223372036854775807 ∧ ∀ x ∈ ks, -9223372036854775808 ≤ x ∧ x ≤ 9223372036854775807 := by
 obtain ⟨a0, len0, cap0, rfl⟩ := okWide_slice Tryz.underlying53 hv
 obtain ⟨fuel, hf⟩ := h
 rcases Shd.open_slice_fields Tryz.underlying53 Tryz.underlying56 (by kernel_rfl) (by kernel_rfl) hf with ⟨hc, _⟩ | ⟨a, len, cap, m, D, Pl, hc, hb, hlc, hcm, hm, _, hi⟩
 ·simp [Value.cells] at hc
  obtain ⟨rfl, rfl, rfl⟩ := hc
  exact ⟨[], ⟨none, 0, rfl, fun j ks hj => by simp at hj⟩, by simp⟩
 ·simp [Value.cells] at hc
  obtain ⟨rfl, rfl, rfl⟩ := hc
  simp only [if_true] at hm
  subst hm
  have key : ∀ i, i < len0 → ∃ ks : List Int, (ks.length ≤ 9223372036854775807 ∧ ∀ x ∈ ks, -9223372036854775808 ≤ x ∧ x ≤ 9223372036854775807) ∧ ∃ x, w.cell? (a.add i) = some x ∧ KeepAt [] w x ks := by
   intro i hil
   obtain ⟨ys, n, _, _, _, hff⟩ := hi i (by omega)
   obtain ⟨v0, y0, c0, _, t0⟩ := hff 0 _ rfl
   obtain ⟨ks, hk, hb⟩ := open_keep t0
   exact ⟨ks, hb, v0, by simpa using c0, hk⟩
  obtain ⟨l, rfl, hp⟩ := list_of len0 key
  refine ⟨l, ⟨some a, _, rfl, fun j ks hj => ?_⟩, fun ks hk => ?_⟩
  ·obtain ⟨_, x, hc2, hk⟩ := hp j ks hj
   obtain ⟨_, x0, h00, _⟩ := hp 0 _ (List.getElem?_eq_getElem (Nat.lt_of_le_of_lt (Nat.zero_le j) (List.getElem?_eq_some_iff.1 hj).1))
   obtain ⟨g, o, sp⟩ := a
   obtain rfl : sp = none := add_none h00
   have hadd : (⟨g, o, none⟩ : Addr).add j = ⟨g, o + j, none⟩ := by unfold Addr.add; split <;> simp_all
   rw [hadd] at hc2
   exact ⟨g, o, x, rfl, by simp, hc2, hk⟩
  ·obtain ⟨i, hi, rfl⟩ := List.mem_iff_getElem.1 hk
   exact (hp i _ (List.getElem?_eq_getElem hi)).1
end Hlt
end Go.Proofs.YtnbkhdbligjifaaGreatDoor
namespace Go.Proofs.YtnbkhdbligjifaaGreatDoor
open Go.ChangeShapes Go.WideShapes Go.ChangeAt Go.RowKit Go.Joins Go.Deep
namespace Hlt
open Vm
section
variable {H : Type} {enc : TypeId × Value → H} {w : World} {base : Nat} {held : Bool} {b0 : Nat} {r : Reach}
theorem open_code {v : Value} {d : DataW H} {p : List MemPlace} (hv : Value.okWide Tryz.prog w r b0 25 v) (h : DataW.Trod enc Tryz.prog w base (fun _ => true) held 25 v d p) :
 ∃ (K N : Int), v = .agg #[.int .i64 K, .int .i64 N] ∧ Shd.I64 K ∧ Shd.I64 N := by
 obtain ⟨v0, v1, y0, y1, n, rfl, _, _, h0, h1⟩ := open_agg2 Tryz.underlying25 (by kernel_rfl) (by kernel_rfl) hv h
 obtain ⟨K, e0, _, w0⟩ := DataW.trod_int Tryz.underlying3 h0
 obtain ⟨N, e1, _, w1⟩ := DataW.trod_int Tryz.underlying3 h1
 simp at e0 e1
 subst e0; subst e1
 have q0 := bounds_i64 w0
 have q1 := bounds_i64 w1
 exact ⟨K, N, rfl, ⟨by omega, by omega⟩, ⟨by omega, by omega⟩⟩
theorem open_b {v : Value} {d : DataW H} {p : List MemPlace} (hv : Value.okWide Tryz.prog w r b0 4 v) (h : DataW.Trod enc Tryz.prog w base (fun _ => true) held 4 v d p) : ∃ b : Bool, v = .bool b := by
 obtain ⟨b, rfl, _⟩ := Go.RowKit.open_bool Tryz.underlying4 hv h
 exact ⟨b, rfl⟩
end
end Hlt
end Go.Proofs.YtnbkhdbligjifaaGreatDoor
namespace Go.Proofs.YtnbkhdbligjifaaGreatDoor
open Go Go.RowKit Vm
namespace Str
open Hlt
def fitsE (p : PW) (k n : Int) : Int := if Cod.codeB k n = true ∧ (p.n : Int) = n then 0 else 1
theorem fitsE_ok {p : PW} {k n : Int} : fitsE p k n = 0 ↔ Cod.codeB k n = true ∧ (p.n : Int) = n := by unfold fitsE; split <;> simp_all
structure FtRd (bx b : Nat) (k n : Int) (p : PW) (O : List Nat) (W : World) : Prop where
 c0 : W.cell? ⟨bx, 0, none⟩ = some (.int .i64 k)
 c1 : W.cell? ⟨bx, 1, none⟩ = some (.int .i64 n)
 at_ : WAt W b p O
theorem FtRd.ext {bx b : Nat} {k n : Int} {p : PW} {O : List Nat} {w w' : World} (h : FtRd bx b k n p O w) (hE : Stab.Ext w w') : FtRd bx b k n p O w' := ⟨hE.cell h.c0, hE.cell h.c1, h.at_.keep (Fr.of_below (O := []) hE) (by simp)⟩
theorem fits_any {w : World} {b : Nat} {p : PW} {O : List Nat} (h : WAt w b p O) (k n : Int) :
 Calls Tryz.prog 57 #[.pointer (some ⟨b, 0, none⟩), .agg #[.int .i64 k, .int .i64 n]] w fun e w' => e = .returned (.int .i64 (fitsE p k n)) ∧ Below w.heap.size w w' := by
 have hE0 := Stab.Ext.alloc w (.cells #[.int .i64 k, .int .i64 n] 25)
 have bx := Blk.new w 25 #[.int .i64 k, .int .i64 n]
 have HB0 := Lib.hid hE0
 have HR := Lib.hid (show FtRd w.heap.size b k n p O (w.alloc (.cells #[.int .i64 k, .int .i64 n] 25)) from ⟨bx.cell 0, bx.cell 1, h.keep (Fr.of_below (O := []) hE0) (by simp)⟩)
 have HCD := Lib.hid (show ∀ W : World, Calls Tryz.prog 87 #[.agg #[.int .i64 k, .int .i64 n]] W fun e w' => e = .returned (.bool (Cod.codeB k n)) ∧ Below W.heap.size W w' from fun W => Cod.mayCode_any k n W)
 have HN := Lib.hid (show ∀ W : World, FtRd w.heap.size b k n p O W → Calls Tryz.prog 37 #[.pointer (some ⟨b, 0, none⟩)] W fun e w' => e = .returned (.int .i64 (p.n : Int)) ∧ W = w' from fun W hW => n_any hW.at_)
 clear h hE0 bx
 cases hc : Cod.codeB k n with
 | false =>
   rw [hc] at HCD
   have HF := Lib.hid (show fitsE p k n = 1 by simp [fitsE, hc])
   clear hc
   go_enter Tryz.func57, Tryz.ntmps57
   go_wp2_with fail
   refine Stab.wp_region_stable 11 19 [some 9, some 10, some 11, some 12, some 13, some 14, some 15, some 16, some 17, some 18, some 8] [[], [0], [1], [2], [3], [4, 3], [3], [6, 3], [5, 7, 3], [3, 8], [9]] [10] (FtRd w.heap.size b k n p O) [Stab.eqv ?r3fe0, Stab.eqv ?r3fe1, Stab.eqv ?r3fe2, Stab.eqv ?r3fe3, Stab.eqv ?r3fe4, Stab.eqv ?r3fe5, Stab.eqv ?r3fe6, Stab.eqv ?r3fe7, Stab.eqv ?r3fe8, Stab.eqv ?r3fe9, Stab.eqv ?r3fe10] (by kernel_rfl) rfl (by kernel_rfl) (by kernel_rfl) (fun us => by simp only [Stab.putAll, Act.put, List.setIfInBounds_toArray, List.set_cons_zero, List.set_cons_succ]; rfl) (HR.out.ext (Stab.Ext.drew _)) (fun _ _ h hE => h.ext hE) ?goals3f ?last3f
   case goals3f =>
    simp only [List.take_succ_cons, List.take_zero]
    refine Stab.Goals.plain rfl rfl (fun us w cK hE hS hp hK => ?_) ?_
    ·obtain ⟨s0, s1, -⟩ := hS
     go_simp
     refine hK _ _ ?_ (Stab.Ext.refl _)
     show _ = _
     with_reducible rfl
    refine Stab.Goals.plain rfl rfl (fun us w cK hE hS hp hK => ?_) ?_
    ·obtain ⟨h0, -⟩ := hp
     replace h0 : us 0 = _ := h0
     go_simp
     go_wp2_with (go_at_call 87; ((with_reducible refine (HCD.out _).mono ?_); rintro e w1 ⟨rfl, hb⟩))
     refine hK _ _ ?_ hb
     show _ = _
     with_reducible rfl
    refine Stab.Goals.plain rfl rfl (fun us w cK hE hS hp hK => ?_) ?_
    ·obtain ⟨h1, -⟩ := hp
     replace h1 : us 1 = _ := h1
     go_simp
     refine hK _ _ ?_ (Stab.Ext.refl _)
     show _ = _
     with_reducible rfl
    refine Stab.Goals.plain rfl rfl (fun us w cK hE hS hp hK => ?_) ?_
    ·obtain ⟨h2, -⟩ := hp
     replace h2 : us 2 = _ := h2
     go_simp
     refine hK _ _ ?_ (Stab.Ext.refl _)
     show _ = _
     with_reducible rfl
    refine Stab.Goals.guarded rfl rfl (fun us w cK hE hS hp hK => ?_) ?_
    ·obtain ⟨h3, -⟩ := hp
     replace h3 : us 3 = _ := h3
     refine ⟨_, h3, fun h => (by cases h), fun _ => ?_⟩
     refine hK _ _ ?_ (Stab.Ext.refl _)
     show _ = _
     with_reducible rfl
    refine Stab.Goals.guarded rfl rfl (fun us w cK hE hS hp hK => ?_) ?_
    ·obtain ⟨h4, h3, -⟩ := hp
     replace h4 : us 4 = _ := h4
     replace h3 : us 3 = _ := h3
     refine ⟨_, h3, fun h => (by cases h), fun _ => ?_⟩
     refine hK _ _ ?_ (Stab.Ext.refl _)
     show _ = _
     with_reducible rfl
    refine Stab.Goals.guarded rfl rfl (fun us w cK hE hS hp hK => ?_) ?_
    ·obtain ⟨h3, -⟩ := hp
     replace h3 : us 3 = _ := h3
     refine ⟨_, h3, fun h => (by cases h), fun _ => ?_⟩
     refine hK _ _ ?_ (Stab.Ext.refl _)
     show _ = _
     with_reducible rfl
    refine Stab.Goals.guarded rfl rfl (fun us w cK hE hS hp hK => ?_) ?_
    ·obtain ⟨h6, h3, -⟩ := hp
     replace h6 : us 6 = _ := h6
     replace h3 : us 3 = _ := h3
     refine ⟨_, h3, fun h => (by cases h), fun _ => ?_⟩
     refine hK _ _ ?_ (Stab.Ext.refl _)
     show _ = _
     with_reducible rfl
    refine Stab.Goals.guarded rfl rfl (fun us w cK hE hS hp hK => ?_) ?_
    ·obtain ⟨h5, h7, h3, -⟩ := hp
     replace h5 : us 5 = _ := h5
     replace h7 : us 7 = _ := h7
     replace h3 : us 3 = _ := h3
     refine ⟨_, h3, fun h => (by cases h), fun _ => ?_⟩
     refine hK _ _ ?_ (Stab.Ext.refl _)
     show _ = _
     with_reducible rfl
    refine Stab.Goals.plain rfl rfl (fun us w cK hE hS hp hK => ?_) ?_
    ·obtain ⟨h3, h8, -⟩ := hp
     replace h3 : us 3 = _ := h3
     replace h8 : us 8 = _ := h8
     go_simp
     refine hK _ _ ?_ (Stab.Ext.refl _)
     show _ = _
     with_reducible rfl
    refine Stab.Goals.plain rfl rfl (fun us w cK hE hS hp hK => ?_) ?_
    ·obtain ⟨h9, -⟩ := hp
     replace h9 : us 9 = _ := h9
     go_simp
     refine hK _ _ ?_ (Stab.Ext.refl _)
     show _ = _
     with_reducible rfl
    exact Stab.Goals.nil
   case last3f =>
    intro us w1 hE hS hp
    obtain ⟨h9, -⟩ := hp
    replace h9 : us 10 = _ := h9
    have HE1 := Lib.hid (HB0.out.trans ((Stab.Ext.drew _).trans hE))
    simp only [List.drop_succ_cons, List.drop_zero, h9, Nat.zero_add, Nat.reduceAdd]
    clear hS hE
    go_wp2_with fail
    go_ret
    rw [HF.out]
    exact ⟨rfl, HE1.out⟩
 | true =>
   rw [hc] at HCD
   have HF := Lib.hid (show fitsE p k n = if (p.n : Int) = n then 0 else 1 by simp [fitsE, hc])
   clear hc
   by_cases hn : (p.n : Int) = n
   case pos =>
    rw [if_pos hn] at HF
    have hnn : ((p.n : Int) == n) = true := by simp [hn]
    go_enter Tryz.func57, Tryz.ntmps57
    go_wp2_with fail
    refine Stab.wp_region_stable 11 19 [some 9, some 10, some 11, some 12, some 13, some 14, some 15, some 16, some 17, some 18, some 8] [[], [0], [1], [2], [3], [4, 3], [3], [6, 3], [5, 7, 3], [3, 8], [9]] [10] (FtRd w.heap.size b k n p O) [Stab.eqv ?r3ge0, Stab.eqv ?r3ge1, Stab.eqv ?r3ge2, Stab.eqv ?r3ge3, Stab.eqv ?r3ge4, Stab.eqv ?r3ge5, Stab.eqv ?r3ge6, Stab.eqv ?r3ge7, Stab.eqv ?r3ge8, Stab.eqv ?r3ge9, Stab.eqv ?r3ge10] (by kernel_rfl) rfl (by kernel_rfl) (by kernel_rfl) (fun us => by simp only [Stab.putAll, Act.put, List.setIfInBounds_toArray, List.set_cons_zero, List.set_cons_succ]; rfl) (HR.out.ext (Stab.Ext.drew _)) (fun _ _ h hE => h.ext hE) ?goals3g ?last3g
    case goals3g =>
     simp only [List.take_succ_cons, List.take_zero]
     refine Stab.Goals.plain rfl rfl (fun us w cK hE hS hp hK => ?_) ?_
     ·obtain ⟨s0, s1, -⟩ := hS
      go_simp
      refine hK _ _ ?_ (Stab.Ext.refl _)
      show _ = _
      with_reducible rfl
     refine Stab.Goals.plain rfl rfl (fun us w cK hE hS hp hK => ?_) ?_
     ·obtain ⟨h0, -⟩ := hp
      replace h0 : us 0 = _ := h0
      go_simp
      go_wp2_with (go_at_call 87; ((with_reducible refine (HCD.out _).mono ?_); rintro e w1 ⟨rfl, hb⟩))
      refine hK _ _ ?_ hb
      show _ = _
      with_reducible rfl
     refine Stab.Goals.plain rfl rfl (fun us w cK hE hS hp hK => ?_) ?_
     ·obtain ⟨h1, -⟩ := hp
      replace h1 : us 1 = _ := h1
      go_simp
      refine hK _ _ ?_ (Stab.Ext.refl _)
      show _ = _
      with_reducible rfl
     refine Stab.Goals.plain rfl rfl (fun us w cK hE hS hp hK => ?_) ?_
     ·obtain ⟨h2, -⟩ := hp
      replace h2 : us 2 = _ := h2
      go_simp
      refine hK _ _ ?_ (Stab.Ext.refl _)
      show _ = _
      with_reducible rfl
     refine Stab.Goals.guarded rfl rfl (fun us w cK hE hS hp hK => ?_) ?_
     ·obtain ⟨h3, -⟩ := hp
      replace h3 : us 3 = _ := h3
      refine ⟨_, h3, fun _ => ?_, fun h => absurd rfl h⟩
      go_simp
      refine hK _ _ ?_ (Stab.Ext.refl _)
      show _ = _
      with_reducible rfl
     refine Stab.Goals.guarded rfl rfl (fun us w cK hE hS hp hK => ?_) ?_
     ·obtain ⟨h4, h3, -⟩ := hp
      replace h4 : us 4 = _ := h4
      replace h3 : us 3 = _ := h3
      refine ⟨_, h3, fun _ => ?_, fun h => absurd rfl h⟩
      go_simp
      go_wp2_with (go_at_call 37; ((with_reducible refine (HN.out _ hS).mono ?_); rintro e w1 ⟨rfl, rfl⟩))
      refine hK _ _ ?_ (Stab.Ext.refl _)
      show _ = _
      with_reducible rfl
     refine Stab.Goals.guarded rfl rfl (fun us w cK hE hS hp hK => ?_) ?_
     ·obtain ⟨h3, -⟩ := hp
      replace h3 : us 3 = _ := h3
      refine ⟨_, h3, fun _ => ?_, fun h => absurd rfl h⟩
      go_simp
      refine hK _ _ ?_ (Stab.Ext.refl _)
      show _ = _
      with_reducible rfl
     refine Stab.Goals.guarded rfl rfl (fun us w cK hE hS hp hK => ?_) ?_
     ·obtain ⟨h6, h3, -⟩ := hp
      replace h6 : us 6 = _ := h6
      replace h3 : us 3 = _ := h3
      refine ⟨_, h3, fun _ => ?_, fun h => absurd rfl h⟩
      obtain ⟨s0, s1, -⟩ := hS
      go_simp
      refine hK _ _ ?_ (Stab.Ext.refl _)
      show _ = _
      with_reducible rfl
     refine Stab.Goals.guarded rfl rfl (fun us w cK hE hS hp hK => ?_) ?_
     ·obtain ⟨h5, h7, h3, -⟩ := hp
      replace h5 : us 5 = _ := h5
      replace h7 : us 7 = _ := h7
      replace h3 : us 3 = _ := h3
      refine ⟨_, h3, fun _ => ?_, fun h => absurd rfl h⟩
      go_simp
      refine hK _ _ ?_ (Stab.Ext.refl _)
      show _ = _
      with_reducible rfl
     refine Stab.Goals.plain rfl rfl (fun us w cK hE hS hp hK => ?_) ?_
     ·obtain ⟨h3, h8, -⟩ := hp
      replace h3 : us 3 = _ := h3
      replace h8 : us 8 = _ := h8
      go_simp
      refine hK _ _ ?_ (Stab.Ext.refl _)
      show _ = _
      with_reducible rfl
     refine Stab.Goals.plain rfl rfl (fun us w cK hE hS hp hK => ?_) ?_
     ·obtain ⟨h9, -⟩ := hp
      replace h9 : us 9 = _ := h9
      go_simp
      refine hK _ _ ?_ (Stab.Ext.refl _)
      show _ = _
      with_reducible rfl
     exact Stab.Goals.nil
    case last3g =>
     intro us w1 hE hS hp
     obtain ⟨h9, -⟩ := hp
     replace h9 : us 10 = _ := h9
     have HE1 := Lib.hid (HB0.out.trans ((Stab.Ext.drew _).trans hE))
     simp only [List.drop_succ_cons, List.drop_zero, h9, Nat.zero_add, Nat.reduceAdd]
     clear hS hE
     go_wp2_with fail
     go_ret
     rw [HF.out]
     exact ⟨rfl, HE1.out⟩
   case neg =>
    rw [if_neg hn] at HF
    have hnn : ((p.n : Int) == n) = false := by simp [hn]
    go_enter Tryz.func57, Tryz.ntmps57
    go_wp2_with fail
    refine Stab.wp_region_stable 11 19 [some 9, some 10, some 11, some 12, some 13, some 14, some 15, some 16, some 17, some 18, some 8] [[], [0], [1], [2], [3], [4, 3], [3], [6, 3], [5, 7, 3], [3, 8], [9]] [10] (FtRd w.heap.size b k n p O) [Stab.eqv ?r3he0, Stab.eqv ?r3he1, Stab.eqv ?r3he2, Stab.eqv ?r3he3, Stab.eqv ?r3he4, Stab.eqv ?r3he5, Stab.eqv ?r3he6, Stab.eqv ?r3he7, Stab.eqv ?r3he8, Stab.eqv ?r3he9, Stab.eqv ?r3he10] (by kernel_rfl) rfl (by kernel_rfl) (by kernel_rfl) (fun us => by simp only [Stab.putAll, Act.put, List.setIfInBounds_toArray, List.set_cons_zero, List.set_cons_succ]; rfl) (HR.out.ext (Stab.Ext.drew _)) (fun _ _ h hE => h.ext hE) ?goals3h ?last3h
    case goals3h =>
     simp only [List.take_succ_cons, List.take_zero]
     refine Stab.Goals.plain rfl rfl (fun us w cK hE hS hp hK => ?_) ?_
     ·obtain ⟨s0, s1, -⟩ := hS
      go_simp
      refine hK _ _ ?_ (Stab.Ext.refl _)
      show _ = _
      with_reducible rfl
     refine Stab.Goals.plain rfl rfl (fun us w cK hE hS hp hK => ?_) ?_
     ·obtain ⟨h0, -⟩ := hp
      replace h0 : us 0 = _ := h0
      go_simp
      go_wp2_with (go_at_call 87; ((with_reducible refine (HCD.out _).mono ?_); rintro e w1 ⟨rfl, hb⟩))
      refine hK _ _ ?_ hb
      show _ = _
      with_reducible rfl
     refine Stab.Goals.plain rfl rfl (fun us w cK hE hS hp hK => ?_) ?_
     ·obtain ⟨h1, -⟩ := hp
      replace h1 : us 1 = _ := h1
      go_simp
      refine hK _ _ ?_ (Stab.Ext.refl _)
      show _ = _
      with_reducible rfl
     refine Stab.Goals.plain rfl rfl (fun us w cK hE hS hp hK => ?_) ?_
     ·obtain ⟨h2, -⟩ := hp
      replace h2 : us 2 = _ := h2
      go_simp
      refine hK _ _ ?_ (Stab.Ext.refl _)
      show _ = _
      with_reducible rfl
     refine Stab.Goals.guarded rfl rfl (fun us w cK hE hS hp hK => ?_) ?_
     ·obtain ⟨h3, -⟩ := hp
      replace h3 : us 3 = _ := h3
      refine ⟨_, h3, fun _ => ?_, fun h => absurd rfl h⟩
      go_simp
      refine hK _ _ ?_ (Stab.Ext.refl _)
      show _ = _
      with_reducible rfl
     refine Stab.Goals.guarded rfl rfl (fun us w cK hE hS hp hK => ?_) ?_
     ·obtain ⟨h4, h3, -⟩ := hp
      replace h4 : us 4 = _ := h4
      replace h3 : us 3 = _ := h3
      refine ⟨_, h3, fun _ => ?_, fun h => absurd rfl h⟩
      go_simp
      go_wp2_with (go_at_call 37; ((with_reducible refine (HN.out _ hS).mono ?_); rintro e w1 ⟨rfl, rfl⟩))
      refine hK _ _ ?_ (Stab.Ext.refl _)
      show _ = _
      with_reducible rfl
     refine Stab.Goals.guarded rfl rfl (fun us w cK hE hS hp hK => ?_) ?_
     ·obtain ⟨h3, -⟩ := hp
      replace h3 : us 3 = _ := h3
      refine ⟨_, h3, fun _ => ?_, fun h => absurd rfl h⟩
      go_simp
      refine hK _ _ ?_ (Stab.Ext.refl _)
      show _ = _
      with_reducible rfl
     refine Stab.Goals.guarded rfl rfl (fun us w cK hE hS hp hK => ?_) ?_
     ·obtain ⟨h6, h3, -⟩ := hp
      replace h6 : us 6 = _ := h6
      replace h3 : us 3 = _ := h3
      refine ⟨_, h3, fun _ => ?_, fun h => absurd rfl h⟩
      obtain ⟨s0, s1, -⟩ := hS
      go_simp
      refine hK _ _ ?_ (Stab.Ext.refl _)
      show _ = _
      with_reducible rfl
     refine Stab.Goals.guarded rfl rfl (fun us w cK hE hS hp hK => ?_) ?_
     ·obtain ⟨h5, h7, h3, -⟩ := hp
      replace h5 : us 5 = _ := h5
      replace h7 : us 7 = _ := h7
      replace h3 : us 3 = _ := h3
      refine ⟨_, h3, fun _ => ?_, fun h => absurd rfl h⟩
      go_simp
      refine hK _ _ ?_ (Stab.Ext.refl _)
      show _ = _
      with_reducible rfl
     refine Stab.Goals.plain rfl rfl (fun us w cK hE hS hp hK => ?_) ?_
     ·obtain ⟨h3, h8, -⟩ := hp
      replace h3 : us 3 = _ := h3
      replace h8 : us 8 = _ := h8
      go_simp
      refine hK _ _ ?_ (Stab.Ext.refl _)
      show _ = _
      with_reducible rfl
     refine Stab.Goals.plain rfl rfl (fun us w cK hE hS hp hK => ?_) ?_
     ·obtain ⟨h9, -⟩ := hp
      replace h9 : us 9 = _ := h9
      go_simp
      refine hK _ _ ?_ (Stab.Ext.refl _)
      show _ = _
      with_reducible rfl
     exact Stab.Goals.nil
    case last3h =>
     intro us w1 hE hS hp
     obtain ⟨h9, -⟩ := hp
     replace h9 : us 10 = _ := h9
     have HE1 := Lib.hid (HB0.out.trans ((Stab.Ext.drew _).trans hE))
     simp only [List.drop_succ_cons, List.drop_zero, h9, Nat.zero_add, Nat.reduceAdd]
     clear hS hE
     go_wp2_with fail
     go_ret
     rw [HF.out]
     exact ⟨rfl, HE1.out⟩
def askedE (p : PW) (k n : Int) (d : ByteArray) : Int := if fitsE p k n = 0 then if d.size = 32 then 0 else 1 else fitsE p k n
theorem asked_any {w : World} {b : Nat} {p : PW} {O : List Nat} (h : WAt w b p O) (k n : Int) (d : ByteArray) (hdz : d.size ≤ 1000000000) :
 Calls Tryz.prog 60 #[.pointer (some ⟨b, 0, none⟩), .agg #[.int .i64 k, .int .i64 n], .string d] w fun e w' => e = .returned (.int .i64 (askedE p k n d)) ∧ Below w.heap.size w w' := by
 have hE0 := Stab.Ext.alloc w (.cells #[.int .i64 k, .int .i64 n] 25)
 have HE0 := Lib.hid hE0
 have HF := Lib.hid (fits_any (h.keep (Fr.of_below (O := []) hE0) (by simp)) k n)
 have HA := Lib.hid (show askedE p k n d = if fitsE p k n = 0 then if d.size = 32 then 0 else 1 else fitsE p k n from rfl)
 clear h hE0
 generalize askedE p k n d = a at *
 generalize fitsE p k n = f at *
 go_enter Tryz.func60, Tryz.ntmps60
 go_wp2_with (go_at_call 57; with_reducible refine HF.out.mono ?_)
 rintro e w1 ⟨rfl, hb⟩
 have HB := Lib.hid (HE0.out.trans hb)
 clear hb
 by_cases hf : f = 0
 ·subst hf
  by_cases hd : d.size = 32
  ·have hdi : (d.size : Int) = 32 := by omega
   go_wp2_with fail
   go_ret
   exact ⟨by simp [HA.out, hd], HB.out⟩
  ·have hdi : ¬ (d.size : Int) = 32 := by omega
   go_wp2_with fail
   go_ret
   exact ⟨by simp [HA.out, hd], HB.out⟩
 ·go_wp2_with fail
  go_ret
  exact ⟨by simp [HA.out, hf], HB.out⟩
end Str
end Go.Proofs.YtnbkhdbligjifaaGreatDoor
