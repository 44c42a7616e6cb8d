/-
  The document's Filled; writes one behind another.
-/
import Derived.Test.YtnbkhdbligjifaaGreatDoorStrQ
import Derived.Test.YtnbkhdbligjifaaGreatDoorStrA
import Derived.Test.YtnbkhdbligjifaaGreatDoorRef01Turn
import Derived.Test.YtnbkhdbligjifaaGreatDoorStrO
import Derived.Test.YtnbkhdbligjifaaGreatDoorVMaps
import Derived.Test.YtnbkhdbligjifaaGreatDoorInfo
import Derived.Test.YtnbkhdbligjifaaGreatDoorShaCopy
set_option linter.unusedVariables false
set_option linter.unusedSimpArgs false
namespace Go.Proofs.YtnbkhdbligjifaaGreatDoor
open Go.RowKit
section
variable {P : Program} {t e : TypeId} {z : Value} {size bytes : Nat}
theorem ownG_text {src dst : TypeId} (hs : P.underlying src = some (.slice e)) (he : P.underlying e = some (.int .u8)) (hd : P.underlying dst = some .string) {w : World} {base : Nat} {et : TypeId} {v : Value} {l : List UInt8} {n : Nat}
    (hv : OwnG w base et 1 v n (Lib.byteCells l)) : (convert src dst v).run P w = .ok (.string ⟨l.toArray⟩) w := by
  have hn : l.length = n := by have := hv.1; rw [Lib.byteCells_length, Nat.mul_one] at this; exact this
  subst hn
  rcases hv.form with ⟨h0, rfl⟩ | ⟨g, cap, rfl, _⟩
  · have hl : l = [] := List.eq_nil_of_length_eq_zero h0
    subst hl
    exact run_convert_bytes_nil w src e hs he _ 0 dst hd
  · refine run_convert_bytes_back w src dst e ⟨g, 0, none⟩ cap l hs he hd (fun j hj => ?_)
    have hp : (⟨g, 0, none⟩ : Addr).add j = ⟨g, j, none⟩ := by unfold Addr.add; split <;> simp_all
    rw [hp]
    exact hv.cells rfl j _ (by simp [Lib.byteCells, hj])

theorem ownG_bytes (w : World) (e : TypeId) (s : ByteArray) (base : Nat) (hb : base ≤ w.heap.size) (hs : s.size ≤ 70368744177664) : OwnG (Lib.bytesWorld w e s) base e 1 (.slice (some ⟨w.heap.size, 0, none⟩) s.size (grownCap w s.size 0 e)) s.size (Lib.byteCells s.data.toList) := by
  have hge := grownCap_ge w s.size 0 e
  have hle : grownCap w s.size 0 e ≤ maxLen := grownCap_le_maxLen w s.size 0 e (by unfold maxLen; omega)
  have hsz : (Lib.bytesCells w e s).size = grownCap w s.size 0 e := by
    simp only [Lib.bytesCells, Array.size_append, Array.size_map, Array.size_replicate]
    have : s.data.size = s.size := rfl
    omega
  refine ⟨by rw [Lib.byteCells_length]; simp, .inr ⟨w.heap.size, _, _, _, rfl, hb, Lib.bytesWorld_at_new w e s, .inr (Nat.le_refl _), hge, hle, by rw [hsz, Nat.mul_one], ?_⟩⟩
  simp only [Lib.bytesCells, Array.toList_append, Array.toList_map, Nat.mul_one]
  rw [List.take_append_of_le_length (by simp), List.take_of_length_le (by simp)]
  rfl
end
end Go.Proofs.YtnbkhdbligjifaaGreatDoor
namespace Go.Proofs.YtnbkhdbligjifaaGreatDoor
open Go Go.RowKit
namespace Vm
namespace TMap
theorem look_put {m : TMap} {k v : ByteArray} (x : ByteArray) : look (put m k v) x = if x = k then some v else look m x := by
  induction m with
  | nil => simp only [put, look]
  | cons p r ih =>
    rw [put]
    by_cases hk : k = p.1
    · rw [if_pos hk, look, look]
      simp only [hk]
      split <;> rfl
    · rw [if_neg hk, look, look, ih]
      by_cases hx : x = p.1
      · rw [if_pos hx, if_pos hx, if_neg (by rw [hx]; exact fun e => hk e.symm)]
      · rw [if_neg hx, if_neg hx]
end TMap
end Vm
end Go.Proofs.YtnbkhdbligjifaaGreatDoor
namespace Go.Proofs.YtnbkhdbligjifaaGreatDoor
open Go Go.RowKit Vm
namespace Str
open Hlt
section
variable {p : PW} {L k n : Nat} {d s : ByteArray}
theorem readP_calm (hc : Hlt.Calm p) (hn : p.n = n) (d : ByteArray) (hk : 0 < k) : ∃ m, m ≤ n ∧ readP p d k n = PW.adv p m := by
  have hE := eachF_end p d k n hk (fun q hq => cut_calm hc d (by omega)) n 0 (by omega) (by simp [hvL, hk])
  have hr : eachF (cutN p d) (moreR p d k n) n 0 = runR p d k n := rfl
  rw [hr] at hE
  have hle := runR_le p d k n
  refine ⟨(runR p d k n).2, hle, ?_⟩
  unfold readP
  rw [if_neg (by rw [hE.1]; exact Bool.false_ne_true)]
  exact getsP_calm hc d _ (by omega)
theorem wellS_look (nm dt : ByteArray) (st : PSt) : TMap.look (wellS nm dt st).seen nm = some dt ∧ ∀ x, x ≠ nm → TMap.look (wellS nm dt st).seen x = TMap.look st.seen x := by
  unfold wellS
  split
  · rename_i h; exact ⟨h, fun x _ => rfl⟩
  · exact ⟨by rw [TMap.look_put, if_pos rfl], fun x hx => by rw [TMap.look_put, if_neg hx]⟩
end
end Str
end Go.Proofs.YtnbkhdbligjifaaGreatDoor
set_option maxHeartbeats 40000000
set_option maxRecDepth 100000
namespace Go.Proofs.YtnbkhdbligjifaaGreatDoor
open Go Go.RowKit Vm
open scoped Classical
namespace Str
open Hlt
structure Two (k n : Nat) (xs : List ByteArray) (p : PW) : Prop where
 well : WellW xs.length n p
 has : ∀ x ∈ xs, ∃ y ∈ xs, dgB y = dgB x ∧ ∀ i, i < n → TMap.look (p.st i).seen (nmB (dgB x) i) = some (dtB k n (dgB x) y i)
theorem two_new (k n : Nat) : Two k n [] (newP n) := ⟨newP_well n, fun x hx => by cases hx⟩
theorem num_of {k n : Nat} (hc : Shd.codeB (k : Int) (n : Int) = true) {s : ByteArray} (hs : s.size ≤ 32768) : Num k n (dgB s) s := ⟨hc, dgB_size s, hs⟩
theorem nmB_ne {d e : ByteArray} (h : d ≠ e) (i : Nat) : nmB d i ≠ nmB e i := fun he => h (by
 have h2 : nmL d i = nmL e i := by
  have := congrArg (fun b : ByteArray => b.data.toList) he
  simpa [nmB] using this
 have h3 := (Shd.name_inj _ _ _ _ h2).1
 obtain ⟨⟨d⟩⟩ := d
 obtain ⟨⟨e⟩⟩ := e
 simp at h3
 rw [h3])
section
variable {k n : Nat} {xs : List ByteArray} {p : PW}
theorem Two.write (h : Two k n xs p) (hc : Shd.codeB (k : Int) (n : Int) = true) {s : ByteArray} (hs : s.size ≤ 32768) : (writeR p k n s).1 = 0 ∧ Two k n (xs ++ [s]) (writeR p k n s).2 := by
 obtain ⟨h1, h2, h3, _⟩ := written_well (num_of hc hs) rfl h.well
 refine ⟨h1, ⟨by rw [List.length_append]; exact h2, fun x hx => ?_⟩⟩
 by_cases he : dgB x = dgB s
 ·refine ⟨s, by simp, he.symm, fun i hi => ?_⟩
  rw [h3 i hi, he]
  exact (wellS_look _ _ _).1
 ·have hx2 : x ∈ xs := by
   rcases List.mem_append.1 hx with h | h
   ·exact h
   ·simp only [List.mem_singleton] at h
    subst h
    exact absurd rfl he
  obtain ⟨y, hy, hyd, hyl⟩ := h.has x hx2
  refine ⟨y, by simp [hy], hyd, fun i hi => ?_⟩
  rw [h3 i hi, (wellS_look _ _ _).2 _ (nmB_ne he i)]
  exact hyl i hi
theorem Two.adv (h : Two k n xs p) (m : Nat) : Two k n xs (PW.adv p m) := by
 obtain ⟨h1, h2, h3, h4, h5⟩ := adv_st p m
 exact ⟨⟨h1.trans h.well.n_, adv_calm h.well.calm m, fun i hi => by rw [h2]; exact h.well.well i hi, fun i hi => by rw [h2]; exact h.well.sync i hi, fun i => by rw [h2]; exact h.well.bnd i⟩, fun x hx => by rw [h2]; exact h.has x hx⟩
theorem Two.read (h : Two k n xs p) (hc : Shd.codeB (k : Int) (n : Int) = true) (hs : ∀ x ∈ xs, x.size ≤ 32768) {x : ByteArray} (hx : x ∈ xs) : ∃ y ∈ xs, dgB y = dgB x ∧ readR p (dgB x) k n = (y, 0) := by
 obtain ⟨y, hy, hyd, hyl⟩ := h.has x hx
 have hN : Num k n (dgB x) y := ⟨hc, dgB_size x, hs y hy⟩
 have ho : Only k n (dgB x) y p := fun i hi z hz _ => by
  rw [hyl i hi] at hz
  exact (Option.some.inj hz).symm
 refine ⟨y, hy, hyd, ?_⟩
 rw [read_calm hN hyd.symm h.well.calm h.well.n_ ho, if_pos]
 unfold cntN hvL
 rw [List.filter_eq_self.2 fun i hi => ?_, List.length_range]
 ·exact hN.ks.2.1
 ·have hi := List.mem_range.1 hi
  have := (got_iff hN h.well.calm h.well.n_ ho k hi).2 ⟨rfl, (h.well.well i hi).down, hyl i hi⟩
  simpa using this
def Clashes (xs : List ByteArray) : Prop := ∃ x ∈ xs, ∃ y ∈ xs, dgB x = dgB y ∧ x ≠ y
def tot : List ByteArray → Nat
 | [] => 0
 | x :: xs => 100 + x.size + tot xs
theorem tot_app (xs : List ByteArray) (s : ByteArray) : tot (xs ++ [s]) = tot xs + (100 + s.size) := by
 induction xs with
 | nil => simp [tot]
 | cons x xs ih => simp only [List.cons_append, tot, ih]; omega
theorem tot_mem {x : ByteArray} : ∀ {xs : List ByteArray}, x ∈ xs → x.size ≤ tot xs
 | y :: xs, h => by
   rcases List.mem_cons.1 h with rfl | h
   ·simp only [tot]; omega
   ·have := tot_mem h
    simp only [tot]; omega
theorem tot_len : ∀ xs : List ByteArray, 100 * xs.length ≤ tot xs
 | [] => by simp
 | x :: xs => by
   have := tot_len xs
   simp only [tot, List.length_cons]; omega
end
end Str
end Go.Proofs.YtnbkhdbligjifaaGreatDoor
namespace Go.Proofs.YtnbkhdbligjifaaGreatDoor
open Go.RowKit
namespace R1
open Sha
attribute [local go_sem ↓] appSem_eq
def slen : Value → Nat
 | .slice _ n _ => n
 | _ => 0
def onez (k : Nat) : List UInt8 := 128 :: List.replicate k 0
theorem onez_snoc (k : Nat) : onez (k + 1) = onez k ++ [0] := by simp [onez, List.replicate_succ']
theorem cells_snoc (l : List UInt8) (b : UInt8) (x : Int) (h : x = (b.toNat : Int)) : Lib.byteCells l ++ [Value.int .u8 x] = Lib.byteCells (l ++ [b]) := by rw [h]; simp [Lib.byteCells]
def FilledEnd (s : ByteArray) (w : World) (e : Ending) (w' : World) : Prop := ∃ v, e = .returned v ∧ OwnG w' w.heap.size 5 1 v (s.data.toList ++ pad s.size).length (Lib.byteCells (s.data.toList ++ pad s.size)) ∧ Below w.heap.size w w'
theorem filled_any (s : ByteArray) (hs : s.size ≤ 70368744177664) (w : World) :
 Calls Tryz.prog 96 #[.string s] w (FilledEnd s w) := by
 have hsl : s.data.toList.length = s.size := by simp
 have hcv := fun (w : World) => Lib.run_convert_string_bytes (P := Tryz.prog) w 9 136 5 s Tryz.underlying9 Tryz.underlying136 Tryz.underlying5
 have hcw := hcv w
 have hb1 := Lib.bytesWorld_below w 5 s
 have ho1 := ownG_bytes w 5 s w.heap.size (Nat.le_refl _) hs
 have hz1 := Lib.bytesWorld_size w 5 s
 clear hcv
 generalize Lib.bytesWorld w 5 s = w1 at *
 generalize grownCap w s.size 0 5 = c1 at *
 obtain ⟨g5, c5, w5, hrun, hown, hb5, _⟩ := ownG_new (c := 1) (m := 1) (C := #[.int .u8 128]) Tryz.underlying136 info_u8 rfl (by omega) (by omega) ho1 rfl (by simp [Value.oneCell']) (by omega) (by omega) hb1.size
 have HO := Lib.hid hown
 have HB := Lib.hid (hb1.trans hb5)
 have HZ := Lib.hid hz1
 clear hown hb5 hb1 hz1 ho1
 go_enter Tryz.func96, Tryz.ntmps96
 go_wp2_with fail
 have ho := HO.out
 rw [show Lib.byteCells s.data.toList ++ (#[Value.int IntKind.u8 128] : Array Value).toList = Lib.byteCells (s.data.toList ++ onez 0) from cells_snoc _ 128 _ rfl] at ho
 have hbb := HB.out
 clear hrun hcw
 go_loopw [3] (fun v wr => ∃ k : Nat, k ≤ zeros s.size ∧ OwnG wr w.heap.size 5 1 v (s.size + 1 + k) (Lib.byteCells (s.data.toList ++ onez k)) ∧ Below w.heap.size w wr) (fun v _ => s.size + 1 + zeros s.size - slen v)
 case atStart => exact ⟨0, by omega, ho, hbb⟩
 case round =>
  obtain ⟨k, hk, hv, hbl⟩ := hrel
  clear ho hbb
  obtain ⟨A', cap', rfl⟩ := hv.shape
  have hzd : zeros s.size = (119 - s.size % 64) % 64 := rfl
  have hu : (0 : Int) ≤ ((s.size + 1 + k : Nat) : Int) := by omega
  by_cases hlt : k < zeros s.size
  ·have t1 : (((s.size + 1 + k : Nat) : Int) % 64 != 56) = true := by simp; omega
   have hm : (Nat.cast (s.size + 1 + k) : Int) = (s.size : Int) + 1 + (k : Int) := by omega
   rw [hm] at t1 hu
   obtain ⟨g6, c6, w6, hrun, hown, hb6, _⟩ := ownG_new (c := 1) (m := 1) (C := #[.int .u8 0]) Tryz.underlying136 info_u8 rfl (by omega) (by omega) hv rfl (by simp [Value.oneCell']) (by omega) (by omega) hbl.size
   have HO2 := Lib.hid hown
   have HB2 := Lib.hid (hbl.trans hb6)
   clear hown hb6 hzd hm
   go_wp2_with fail
   go_roundw
   case rel => exact ⟨k + 1, by omega, by rw [onez_snoc, ← List.append_assoc, ← cells_snoc _ 0 0 rfl]; exact HO2.out, HB2.out⟩
   case measure => simp [slen]; omega
  ·obtain rfl : k = zeros s.size := by omega
   have t1 : (((s.size + 1 + zeros s.size : Nat) : Int) % 64 != 56) = false := by simp; omega
   have hm : (Nat.cast (s.size + 1 + zeros s.size) : Int) = (s.size : Int) + 1 + (zeros s.size : Int) := by omega
   rw [hm] at t1 hu
   clear hzd hm
   go_wp2_with fail
   have hv0 : OwnG wr w.heap.size 5 1 (.slice A' (s.size + 1 + zeros s.size) cap') (s.size + 1 + zeros s.size + 0) (Lib.byteCells (s.data.toList ++ onez (zeros s.size) ++ (lenBytes s.size).take 0)) := by simpa using hv
   go_loopw [3, 5] (fun v i wr => ∃ (j : Nat) (I : Int), j ≤ 8 ∧ I = 56 - 8 * (j : Int) ∧ i = .int .i64 I ∧ OwnG wr w.heap.size 5 1 v (s.size + 1 + zeros s.size + j) (Lib.byteCells (s.data.toList ++ onez (zeros s.size) ++ (lenBytes s.size).take j)) ∧ Below w.heap.size w wr) (fun _ i _ => (intOf i + 8).toNat)
   case atStart => exact ⟨0, 56, by omega, rfl, rfl, hv0, hbl⟩
   case round =>
    obtain ⟨j, I, hj, hI, rfl, hv, hbl⟩ := hrel
    clear hv0
    obtain ⟨A', cap', rfl⟩ := hv.shape
    by_cases hlt : j < 8
    ·have hlb : (lenBytes s.size).take (j + 1) = (lenBytes s.size).take j ++ [UInt8.ofNat (s.size * 8 % 18446744073709551616 / 256 ^ (7 - j))] := by
      rw [List.take_succ_eq_append_getElem (by simp [lenBytes]; omega)]
      simp [lenBytes]
     have HLB := Lib.hid hlb
     clear hlb
     have HV := Lib.hid hv
     have HBL := Lib.hid hbl
     have HI := Lib.hid hI
     have i0 : 0 ≤ I := by omega
     have i1 : I < 64 := by omega
     clear hv hbl hI
     obtain ⟨X, hX⟩ : ∃ X : Int, (s.size : Int) * 8 / 2 ^ I.toNat % 256 = X := ⟨_, rfl⟩
     have hXB : X = ((UInt8.ofNat (s.size * 8 % 18446744073709551616 / 256 ^ (7 - j))).toNat : Int) := by
      have e1 : I.toNat = 8 * (7 - j) := by have := HI.out; omega
      rw [← hX, e1, UInt8.toNat_ofNat', Nat.mod_eq_of_lt (by omega : s.size * 8 < 18446744073709551616)]
      have e2 : ((s.size : Int) * 8 / 2 ^ (8 * (7 - j))) = ((s.size * 8 / 2 ^ (8 * (7 - j)) : Nat) : Int) := by
       rw [Int.natCast_ediv, Int.natCast_pow, Int.natCast_mul]; rfl
      rw [e2, Nat.pow_mul, show (2 : Nat) ^ 8 = 256 from rfl]
      generalize s.size * 8 / 256 ^ (7 - j) = q
      omega
     obtain ⟨g6, c6, w6, hrun, hown, hb6, _⟩ := ownG_new (c := 1) (m := 1) (C := #[.int .u8 X]) Tryz.underlying136 info_u8 rfl (by omega) (by omega) HV.out rfl (by simp [Value.oneCell']) (by omega) (by have : zeros s.size < 64 := Nat.mod_lt _ (by omega); omega) HBL.out.size
     have HO2 := Lib.hid hown
     have HB2 := Lib.hid (HBL.out.trans hb6)
     have HXB := Lib.hid hXB
     clear hown hb6 hXB
     go_wp2_with fail
     go_roundw
     case rel =>
      refine ⟨j + 1, I - 8, by omega, by have := HI.out; omega, rfl, ?_, HB2.out⟩
      have h1 := HO2.out
      rw [cells_snoc _ _ X HXB.out] at h1
      rw [HLB.out, ← List.append_assoc]
      exact h1
     case measure => simp [intOf]; omega
    ·have hj8 : j = 8 := by omega
     subst hj8
     have hI8 : I = -8 := by omega
     have i0 : ¬ (0 ≤ I) := by omega
     have hz : zeros s.size < 64 := Nat.mod_lt _ (by omega)
     have hpad : s.data.toList ++ onez (zeros s.size) ++ (lenBytes s.size).take 8 = s.data.toList ++ pad s.size := by
      rw [List.take_of_length_le (by simp [lenBytes]), List.append_assoc]; rfl
     have hpl : (s.data.toList ++ pad s.size).length = s.size + 1 + zeros s.size + 8 := by
      rw [List.length_append, hsl, pad]; simp [lenBytes]; omega
     have HV := Lib.hid hv
     have HBL := Lib.hid hbl
     have HP := Lib.hid hpad
     have HL := Lib.hid hpl
     clear hv hbl hpad hpl hI8 hI
     go_wp2_with fail
     go_ret
     refine ⟨_, rfl, ?_, HBL.out⟩
     rw [HL.out, ← HP.out]
     exact HV.out
end R1
end Go.Proofs.YtnbkhdbligjifaaGreatDoor
