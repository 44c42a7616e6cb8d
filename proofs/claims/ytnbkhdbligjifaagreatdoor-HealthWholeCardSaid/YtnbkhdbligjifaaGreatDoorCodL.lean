/-
 A builder written with bytes out of memory. strings.Trim at one ASCII byte: the library's contract is laid with the others (Shelf), if Derived.Shelf.Strings.Trim is built ahead of shelf.sh. The blob of the first payloads. A map from numbers to payloads, in memory. The payloads that are at hand.
-/
import Derived.Test.YtnbkhdbligjifaaGreatDoorShaSched
import Derived.Test.YtnbkhdbligjifaaGreatDoorCodJ
import Derived.Test.YtnbkhdbligjifaaGreatDoorShelf
import Derived.Lib.EndianBits
import Derived.Test.YtnbkhdbligjifaaGreatDoorVMaps
import Derived.Maps.RangeRun
set_option linter.unusedVariables false
set_option linter.unusedSimpArgs false
set_option maxRecDepth 100000
set_option maxHeartbeats 40000000
namespace Go.Proofs.YtnbkhdbligjifaaGreatDoor
open Go.RowKit
theorem wbytes_any (B b : Nat) (l : List UInt8) (ls : List Nat) (bb o c : Nat) (w : World) (h : Bld B b l w) (hlen : l.length + ls.length ≤ 140737488355328) (hBw : B ≤ w.heap.size) (hb : bb < B) (hc : ∀ j x, ls[j]? = some x → x < 256 ∧ w.cell? ⟨bb, o + j, none⟩ = some (.int .u8 (x : Nat))) :
 Calls Tryz.prog 75 #[.pointer (some ⟨b, 0, none⟩), .slice (some ⟨bb, o, none⟩) ls.length c] w fun e w' =>
  (∃ v, e = .returned v) ∧ Bld B b (l ++ ls.map UInt8.ofNat) w' ∧ Below B w w' ∧ BKept b w w' := by
 obtain ⟨i0, hi, hz0, hz1, hz2⟩ := info_parts info5
 have hl := Lib.byteCells_length l
 have HCC := Lib.hid hc
 have hlm : (ls.map UInt8.ofNat).length = ls.length := by simp
 clear hc
 go_enter Tryz.func75, Tryz.ntmps75
 go_wp2_with (go_at_call 105; refine (check_any B b _ _ h).mono ?_)
 rintro e w1 ⟨rfl, ⟨hB, v, hbk, hown, hne⟩, hb1, hk1, _⟩
 have c0 : w1.cell? ⟨b, 0, none⟩ = some (.pointer (some ⟨b, 0, none⟩)) := by rw [Lib.cell_of_heap hbk]; rfl
 have c1 : w1.cell? ⟨b, 1, none⟩ = some v := by rw [Lib.cell_of_heap hbk]; rfl
 have hnews : ∀ j u, (Lib.byteCells (ls.map UInt8.ofNat))[j]? = some u → w1.cell? ((⟨bb, o, none⟩ : Addr).add j) = some u := fun j u hu => by
  have ha : (⟨bb, o, none⟩ : Addr).add j = ⟨bb, o + j, none⟩ := by unfold Addr.add; split <;> simp_all
  simp only [Lib.byteCells, List.map_map, List.getElem?_map, Option.map_eq_some_iff] at hu
  obtain ⟨x, hx, rfl⟩ := hu
  obtain ⟨h1, h2⟩ := HCC.out j x hx
  rw [ha, World.cell?_of_block (a := ⟨bb, o + j, none⟩) (hb1.block bb hb), h2]
  simp
  omega
 go_wp2_with (at_builtin; refine wpList_append_ownF _ rfl _ _ 136 rfl B 5 i0 (.int .u8 0) 1 1 Tryz.underlying136 hi hz0 hz1 hz2 rfl (by decide) _ _ _ rfl hown ⟨bb, o, none⟩ ls.length c (Lib.byteCells (ls.map UInt8.ofNat)) rfl (by rw [Lib.byteCells_length, hlm, Nat.mul_one]) hnews (by intro u hu; simp only [Lib.byteCells, List.mem_map] at hu; obtain ⟨x, _, rfl⟩ := hu; rfl) (by rw [hl]; unfold maxLen; omega) (by rw [hl]; omega) (by have := hb1.size; omega) ?_)
 intro v' w2 hown' hgrow _
 have hlt : b < w1.heap.size := by
  rcases Nat.lt_or_ge b w1.heap.size with h | h
  ·exact h
  ·rw [Array.getElem?_eq_none h] at hbk; cases hbk
 have hb2 := (hgrow.block b hlt (fun e => hne e.symm)).trans hbk
 have d1 : w2.cell? ⟨b, 1, none⟩ = some v := by rw [Lib.cell_of_heap hb2]; rfl
 have f1 : w2.frozen? ⟨b, 1, none⟩ = false := Lib.frozen_of_heap hb2 1
 have hP := bput (bs' := Lib.byteCells (l ++ ls.map UInt8.ofNat)) hBw hB hb1 hk1 hbk hown hgrow (by rw [Lib.byteCells_append]; simpa [Lib.byteCells_length] using hown')
 obtain ⟨ao, cap, rfl⟩ := ownF_slice hown'
 go_wp2
 go_ret2
 exact ⟨⟨_, rfl⟩, hP⟩
end Go.Proofs.YtnbkhdbligjifaaGreatDoor

namespace Go.Proofs.YtnbkhdbligjifaaGreatDoor
open Go Go.RowKit
namespace Cod
def beN (l : List UInt8) : Nat := l.foldl (fun n b => n * 256 + b.toNat) 0
theorem beN_snoc (l : List UInt8) (b : UInt8) : beN (l ++ [b]) = beN l * 256 + b.toNat := by simp [beN]
theorem beN_lt (l : List UInt8) : beN l < 256 ^ l.length := by
 generalize hn : l.length = n
 induction n generalizing l with
 | zero => have : l = [] := List.eq_nil_of_length_eq_zero hn; subst this; simp [beN]
 | succ n ih =>
   rcases List.eq_nil_or_concat l with rfl | ⟨l', b, rfl⟩
   ·simp at hn
   ·rw [List.concat_eq_append] at hn ⊢
    have h1 := ih l' (by simpa using hn)
    have h2 := b.toNat_lt
    rw [beN_snoc, Nat.pow_succ]
    omega
theorem or_byte (n y : Nat) (hn : n < 72057594037927936) (hy : y < 256) : bits .or .u64 (IntKind.u64.wrap ((n : Int) * 256)) (IntKind.u64.wrap (y : Int)) = ((n * 256 + y : Nat) : Int) := by
 rw [wraps_u64 _ (by omega) (by omega), wraps_u64 _ (by omega) (by omega)]
 rw [bits_join .u64 64 (by decide) wraps_u64 8 _ _ (by omega) (by omega) (by omega) (by omega) (by omega) (by omega)]
 omega
theorem ext_drop (S : List UInt8) (a b : Nat) : (⟨S.toArray⟩ : ByteArray).extract a b = ⟨((S.drop a).take (b - a)).toArray⟩ := by
 apply ByteArray.ext
 simp [List.extract_eq_take_drop]
theorem flat_len {L : Nat} : ∀ (l : List (List Nat)), (∀ y ∈ l, y.length = L) → l.flatten.length = l.length * L
 | [], _ => by simp
 | y :: t, h => by
   rw [List.flatten_cons, List.length_append, flat_len t (fun y' h' => h y' (by simp [h'])), h y (by simp), List.length_cons, Nat.add_mul]
   omega
def wholeL (ls : List (List Nat)) : List UInt8 := ls.flatten.map UInt8.ofNat
def blobF (K : Nat) (L : Nat) (s : List UInt8) : Option (List UInt8) :=
 if s.length < 8 then none else
 if 32768 < beN (s.take 8) then none else
 if sizeZ K (beN (s.take 8)) ≠ L then none else
 if Lib.trimB (s.drop (8 + beN (s.take 8))) 0 ≠ [] then none else some ((s.drop 8).take (beN (s.take 8)))
def BlobPost (w : World) (K L : Nat) (s : List UInt8) (e : Ending) (w' : World) : Prop :=
 Below w.heap.size w w' ∧ match blobF K L s with
  | none => e = .returned (.tuple #[.string ⟨#[]⟩, .bool false])
  | some b => e = .returned (.tuple #[.string ⟨b.toArray⟩, .bool true])
theorem blob_any {w : World} {K N L : Nat} {v : Value} {ls : List (List Nat)} (hc : codeB (K : Int) (N : Int) = true) (hr : Spr.Rows w v ls) (h1 : ls.length = K) (h2 : ∀ l ∈ ls, l.length = L) (hL1 : 1 ≤ L) (hL : L ≤ 1000000) :
 Calls Tryz.prog 125 #[.agg #[.int .i64 (K : Int), .int .i64 (N : Int)], v] w (BlobPost w K L (wholeL ls)) := by
 obtain ⟨k1, k2, k3⟩ := (codeB_iff _ _).1 hc
 have hE0 := Stab.Ext.alloc w (.cells #[.int .i64 (K : Int), .int .i64 (N : Int)] 25)
 have bx := Blk.new w 25 #[.int .i64 (K : Int), .int .i64 (N : Int)]
 have hE1 := Stab.Ext.alloc (w.alloc (.cells #[.int .i64 (K : Int), .int .i64 (N : Int)] 25)) (.cells #[.pointer none, .slice none 0 0] 138)
 have HR := Lib.hid ((show ERd w.heap.size (K : Int) (N : Int) _ from ⟨bx.cell 0, bx.cell 1⟩).ext hE1)
 have HV := Lib.hid ((hr.ext hE0).ext hE1)
 have HB0 := Lib.hid (show Stab.Ext w _ from hE0.trans hE1)
 have HBD := Lib.hid (Bld.new (w.alloc (.cells #[.int .i64 (K : Int), .int .i64 (N : Int)] 25)))
 have HC := Lib.hid hc
 have HLS := Lib.hid h2
 have H1 := Lib.hid h1
 have hbxl := bx.lt
 obtain ⟨g, o, c, rfl, hrc⟩ := hr
 have HRC := Lib.hid hrc
 rw [h1]
 clear h1 hE0 hE1 bx h2 hrc hc
 go_enter Tryz.func125, Tryz.ntmps125
 go_wp2_with fail
 generalize hw1 : w.alloc (.cells #[.int .i64 (K : Int), .int .i64 (N : Int)] 25) = w1 at *
 have hs1 : w1.heap.size = w.heap.size + 1 := by rw [← hw1]; simp
 rw [hs1] at HBD
 go_loopw [16] (fun i wr => ∃ z : Nat, z ≤ K ∧ i = .int .i64 (z : Int) ∧ Bld (w.heap.size + 1) (w.heap.size + 1) (wholeL (ls.take z)) wr ∧ Below (w.heap.size + 1) (w1.alloc (.cells #[.pointer none, .slice none 0 0] 138)) wr) (fun i _ => K - (intOf i).toNat)
 case atStart => exact ⟨0, by omega, rfl, by simpa [wholeL] using HBD.out, Below.refl _ _⟩
 case round =>
  obtain ⟨z, hz, rfl, hbd, hbl⟩ := hrel
  by_cases hzK : z < K
  ·have hz2 : (z : Int) < (K : Int) := by omega
   have hkeep : ∀ k, k < w.heap.size → wr.heap[k]? = w.heap[k]? := fun k hk => (hbl.block k (by omega)).trans (Below.block HB0.out k hk)
   obtain ⟨l, hl⟩ : ∃ l, ls[z]? = some l := ⟨_, List.getElem?_eq_getElem (by rw [H1.out]; exact hzK)⟩
   have hlL := HLS.out l (List.mem_of_getElem? hl)
   obtain ⟨u, hu, b', o', c', rfl, hc'⟩ := HRC.out z l hl
   have hu2 := (World.cell?_of_block (a := ⟨g, o + z, none⟩) (hkeep g (Spr.lt_cell hu))).trans hu
   have hb' : b' < w.heap.size := by
    obtain ⟨x, hx⟩ : ∃ x, l[0]? = some x := ⟨_, List.getElem?_eq_getElem (by omega)⟩
    have := (hc' 0 x hx).2
    exact Spr.lt_cell this
   have hlen : (wholeL (ls.take z)).length ≤ 12000000 := by
    have h5 : ∀ (n : Nat) (l' : List (List Nat)), l'.length ≤ n → (∀ y ∈ l', y.length = L) → l'.flatten.length ≤ n * L := fun n => by
     induction n with
     | zero => intro l' h _; have : l' = [] := List.eq_nil_of_length_eq_zero (by omega); subst this; simp
     | succ n ih =>
       intro l' h hy
       cases l' with
       | nil => simp
       | cons y t =>
         have := ih t (by simpa using h) (fun y' h' => hy y' (by simp [h']))
         have h7 := hy y (by simp)
         rw [List.flatten_cons, List.length_append, h7, Nat.add_mul]
         omega
    have h6 := h5 12 (ls.take z) (by simp; omega) (fun y hy => HLS.out y (List.mem_of_mem_take hy))
    have : (wholeL (ls.take z)).length = (ls.take z).flatten.length := by unfold wholeL; rw [List.length_map]
    omega
   have HW := Lib.hid (wbytes_any (w.heap.size + 1) (w.heap.size + 1) (wholeL (ls.take z)) l b' o' c' wr hbd (by omega) (by have := hbl.size; simp at this; omega) (by omega) (fun j x hj => ⟨(hc' j x hj).1, (World.cell?_of_block (a := ⟨b', o' + j, none⟩) (hkeep b' hb')).trans (hc' j x hj).2⟩))
   rw [hlL] at HW
   have hnx : wholeL (ls.take z) ++ l.map UInt8.ofNat = wholeL (ls.take (z + 1)) := by
    unfold wholeL
    rw [List.take_add_one, hl]
    simp
   have HNX := Lib.hid hnx
   have HBL := Lib.hid hbl
   clear hkeep hc' hu hb' hlen hnx hbd hbl
   go_wp2_with (go_at_call 75; with_reducible refine HW.out.mono ?_)
   rintro e w2 ⟨⟨v2, rfl⟩, hbd2, hbl2, -⟩
   rw [HNX.out] at hbd2
   have HBD2 := Lib.hid hbd2
   have HBL2 := Lib.hid (HBL.out.trans hbl2)
   clear hbd2 hbl2
   go_wp2_with fail
   go_roundw
   case rel => exact ⟨z + 1, by omega, by go_num, HBD2.out, HBL2.out⟩
   case measure => simp [intOf]; omega
  ·obtain rfl : z = K := by omega
   have d1 : ¬ ((z : Int) < (z : Int)) := by omega
   rw [List.take_of_length_le (by rw [H1.out]; exact Nat.le_refl _)] at hbd
   have HT := Lib.hid (text_any (w.heap.size + 1) (w.heap.size + 1) (wholeL ls) wr hbd (by have := hbl.size; simp at this; omega))
   have HBL := Lib.hid hbl
   clear hbd hbl
   go_wp2_with (go_at_call 77; with_reducible refine HT.out.mono ?_)
   rintro e w3 rfl hbd3 hbl3 hbk3
   clear hbd3 hbk3
   have hB3 := HBL.out.trans hbl3
   have hk3 : Stab.Ext w w3 := Below.trans (show Below w.heap.size w _ from HB0.out) (Below.mono hB3 (by omega))
   have k0 := (World.cell?_of_block (a := ⟨w.heap.size, 0, none⟩) (hB3.block w.heap.size (by omega))).trans HR.out.c0
   have k1' := (World.cell?_of_block (a := ⟨w.heap.size, 1, none⟩) (hB3.block w.heap.size (by omega))).trans HR.out.c1
   have HK3 := Lib.hid hk3
   have hss : ∀ s : List UInt8, (⟨s.toArray⟩ : ByteArray).size = s.length := fun s => by simp [ByteArray.size]
   obtain ⟨S, hS⟩ : ∃ S, S = wholeL ls := ⟨_, rfl⟩
   rw [← hS]
   have HS := Lib.hid hS
   clear hbl3 hB3 hk3 hS
   by_cases h8 : S.length < 8
   ·have h82 : (S.length : Int) < 8 := by omega
    have hf : blobF z L S = none := by unfold blobF; rw [if_pos h8]
    have HF := Lib.hid hf
    clear hf
    go_wp2_with fail
    go_ret2
    exact ⟨HK3.out, by rw [← HS.out, HF.out]; rfl⟩
   ·have h82 : ¬ (S.length : Int) < 8 := by omega
    go_wp2_with fail
    go_loopw [10, 27] (fun n i wx => ∃ q : Nat, q ≤ 8 ∧ i = .int .i64 (q : Int) ∧ n = .int .u64 (beN (S.take q) : Nat) ∧ wx = w3) (fun _ i _ => 8 - (intOf i).toNat)
    case atStart => exact ⟨0, by omega, rfl, rfl, rfl⟩
    case round =>
     obtain ⟨q, hq, rfl, rfl, rfl⟩ := hrel
     by_cases hq8 : q < 8
     ·have hq2 : (q : Int) < 8 := by omega
      have hqS : q < S.length := by omega
      obtain ⟨y, hy⟩ : ∃ y, S[q]? = some y := ⟨_, List.getElem?_eq_getElem hqS⟩
      have hnx : beN (S.take (q + 1)) = beN (S.take q) * 256 + y.toNat := by rw [List.take_add_one, hy]; exact beN_snoc _ _
      have hlt := beN_lt (S.take q)
      have HNX := Lib.hid hnx
      have hql : (q : Int) < (S.length : Int) := by omega
      generalize hn : beN (S.take q) = n at *
      clear hnx hn
      have hyS : ∀ h, (⟨S.toArray⟩ : ByteArray)[q]'h = y := fun h => by
       have : S[q]'hqS = y := by simpa [List.getElem?_eq_getElem hqS] using hy
       show S.toArray[q]'_ = y
       simpa using this
      have hn56 : n < 72057594037927936 := by
       have h7 : (S.take q).length ≤ 7 := by simp; omega
       exact Nat.lt_of_lt_of_le hlt (Nat.le_trans (Nat.pow_le_pow_right (by decide) h7) (by decide))
      have hor := or_byte n y.toNat hn56 y.toNat_lt
      go_wp2_with fail
      go_roundw
      case rel => exact ⟨q + 1, by omega, by go_num, by rw [HNX.out, ← hor, wraps_u64 ((n : Int) * 256) (by omega) (by omega)], trivial⟩
      case measure => simp [intOf]; omega
     ·obtain rfl : q = 8 := by omega
      have hd8 : ¬ ((8 : Int) < 8) := by omega
      obtain ⟨n, hn⟩ : ∃ n, n = beN (S.take 8) := ⟨_, rfl⟩
      rw [← hn]
      have HN := Lib.hid hn
      clear hn
      by_cases hn3 : 32768 < n
      ·have hn4 : (32768 : Int) < (n : Int) := by omega
       have hf : blobF z L S = none := by unfold blobF; rw [if_neg h8, ← HN.out, if_pos hn3]
       have HF := Lib.hid hf
       clear hf
       go_wp2_with fail
       go_ret2
       exact ⟨HK3.out, by rw [← HS.out, HF.out]; rfl⟩
      ·have hn4 : ¬ (32768 : Int) < (n : Int) := by omega
       have hn5 : IntKind.i64.wrap (n : Int) = (n : Int) := by rw [IntKind.wrap_i64]; omega
       have HSZ := Lib.hid (size_any (z : Int) (N : Int) (n : Int) wr)
       have hzn := sizeN_nat z n (by omega)
       unfold SizePost at HSZ
       rw [if_neg (by simp [HC.out]), if_neg (by omega), hzn] at HSZ
       go_wp2_with (go_at_call 70; with_reducible refine HSZ.out.mono ?_)
       rintro e w4 rfl hb4
       have hK4 : Stab.Ext w w4 := HK3.out.trans hb4
       have hlen : S.length = z * L := by
        rw [HS.out]
        unfold wholeL
        rw [List.length_map, flat_len ls HLS.out, H1.out]
       obtain ⟨l0, hl0⟩ : ∃ l, ls[0]? = some l := ⟨_, List.getElem?_eq_getElem (by rw [H1.out]; omega)⟩
       have hl0L := HLS.out l0 (List.mem_of_getElem? hl0)
       obtain ⟨u, hu, b', o', c', rfl, -⟩ := HRC.out 0 l0 hl0
       rw [Nat.add_zero, hl0L] at hu
       have hu4 := hK4.cell hu
       have HK4 := Lib.hid hK4
       have hz0 : (0 : Int) < (z : Int) := by omega
       have hmul := sizeZ_mul z n (by omega)
       clear hu hb4 hK4 k0 k1'
       generalize hzz : sizeZ z n = M at *
       have HZZ := Lib.hid hzz
       clear hzz
       by_cases hML : M = L
       ·subst hML
        have hMM : ((M : Int) != (M : Int)) = false := by simp
        have hS8 : 8 + n ≤ S.length := by rw [hlen, Nat.mul_comm]; omega
        obtain ⟨p, hp⟩ : ∃ p : Nat, p = 8 + n := ⟨_, rfl⟩
        have hp1 : IntKind.i64.wrap (8 + (n : Int)) = (p : Int) := by rw [IntKind.wrap_i64]; omega
        have hp2 : (p : Int) ≤ (S.length : Int) := by omega
        have hp3 : (0 : Int) ≤ (p : Int) := by omega
        have HP := Lib.hid hp
        have HLEN := Lib.hid hlen
        have hts : ((⟨S.toArray⟩ : ByteArray).extract p S.length).data.toList = S.drop p := by
         rw [ext_drop]
         simp only [List.toList_toArray]
         exact List.take_of_length_le (by simp)
        have p8 : (8 : Int) ≤ (p : Int) := by omega
        have htr : Calls Tryz.prog 150 #[.string ((⟨S.toArray⟩ : ByteArray).extract p S.length), .string ⟨#[0]⟩] w4 fun e w' => e = .returned (.string ⟨(Lib.trimB (S.drop p) 0).toArray⟩) ∧ Stab.Ext w4 w' :=
         (Tryz.strings_Trim_one ((⟨S.toArray⟩ : ByteArray).extract p S.length) 0 (by decide) w4 (by rw [ByteArray.size_extract, hss]; rw [hlen]; have : z * M ≤ 12 * 1000000 := Nat.mul_le_mul (by omega) (by omega); omega)).mono fun e w' h => ⟨by rw [h.1, hts], by
          rcases h.2 with rfl | rfl
          ·exact Stab.Ext.refl _
          ·exact Stab.Ext.drew _⟩
        have HTR := Lib.hid htr
        have hpn : p - 8 = n := by omega
        clear hp hlen htr hts hmul hpn
        go_wp2_with (go_at_call 150; with_reducible refine HTR.out.mono ?_)
        rintro e w5 ⟨rfl, hb5⟩
        have HK5 := Lib.hid (show Stab.Ext w w5 from HK4.out.trans hb5)
        generalize hT : Lib.trimB (S.drop p) 0 = T at *
        have HTT := Lib.hid hT
        clear hT hb5
        by_cases hTn : T = []
        ·subst hTn
         have hf : blobF z M S = some ((S.drop 8).take n) := by
          unfold blobF
          rw [if_neg h8, ← HN.out, if_neg hn3, HZZ.out, if_neg (by simp), ← HP.out, HTT.out, if_neg (by simp)]
         have HF := Lib.hid hf
         have HX := Lib.hid (show (⟨S.toArray⟩ : ByteArray).extract 8 p = ⟨((S.drop 8).take n).toArray⟩ by
          rw [ext_drop, show p - 8 = n by rw [HP.out]; omega])
         clear hf
         go_wp2_with fail
         go_ret2
         exact ⟨HK5.out, by rw [← HS.out, HF.out, HX.out]; rfl⟩
        ·have hT3 : T.isEmpty = false := by
          cases T with
          | nil => exact absurd rfl hTn
          | cons => rfl
         have hT2 : ¬ (⟨T.toArray⟩ : ByteArray) = ⟨#[]⟩ := fun h => hTn (by
          have := congrArg (fun b => b.data.toList) h
          simpa using this)
         have hf : blobF z M S = none := by
          unfold blobF
          rw [if_neg h8, ← HN.out, if_neg hn3, HZZ.out, if_neg (by simp), ← HP.out, HTT.out, if_pos hTn]
         have HF := Lib.hid hf
         clear hf
         go_wp2_with fail
         go_ret2
         exact ⟨HK5.out, by rw [← HS.out, HF.out]; rfl⟩
       ·have hML2 : ¬ (M : Int) = (L : Int) := by omega
        have hf : blobF z L S = none := by
         unfold blobF
         rw [if_neg h8, ← HN.out, if_neg hn3, HZZ.out, if_pos hML]
        have HF := Lib.hid hf
        clear hf hmul
        go_wp2_with fail
        go_ret2
        exact ⟨HK4.out, by rw [← HS.out, HF.out]; rfl⟩
end Cod
end Go.Proofs.YtnbkhdbligjifaaGreatDoor
namespace Go.Proofs.YtnbkhdbligjifaaGreatDoor
open Go Go.RowKit
namespace Held
abbrev HMap := List (Nat × List UInt8)
def keyV (p : Nat × List UInt8) : Value := .int .i64 (p.1 : Nat)
def valV (p : Nat × List UInt8) : Value := .agg #[.string ⟨p.2.toArray⟩]
structure Ents (es : Array MapEntry) (cl : Nat) (m : HMap) : Prop where
 ents : es.toList.map (fun e => (e.key, e.val)) = m.map (fun p => (keyV p, valV p))
 born : ∀ e ∈ es.toList, e.born < cl
 once : (es.toList.map (·.born)).Nodup
def Is (w : World) (b : Nat) (m : HMap) : Prop := ∃ es cl, w.heap[b]? = some (.map es cl) ∧ Ents es cl m
theorem Is.of_heap {w w' : World} {b : Nat} {m : HMap} (h : Is w b m) (e : w'.heap[b]? = w.heap[b]?) : Is w' b m := by
 obtain ⟨es, cl, h, r⟩ := h
 exact ⟨es, cl, e.trans h, r⟩
theorem Is.lt {w : World} {b : Nat} {m : HMap} (h : Is w b m) : b < w.heap.size := by
 obtain ⟨es, cl, h, r⟩ := h
 exact (Array.getElem?_eq_some_iff.1 h).1
theorem Is.ext {w w' : World} {b : Nat} {m : HMap} (h : Is w b m) (hE : Stab.Ext w w') : Is w' b m := h.of_heap (Below.block hE b h.lt)
theorem empty_is (w : World) : Is (w.alloc (.map #[] 0)) w.heap.size [] := ⟨#[], 0, heap_alloc_new w _, rfl, by simp, by simp⟩
theorem findNow_miss (k : Nat) : ∀ (es : List MapEntry) (m : HMap), es.map (fun e => (e.key, e.val)) = m.map (fun p => (keyV p, valV p)) → k ∉ m.map (·.1) → ∀ i, Instr.findNow (.int .i64) (.int .i64 (k : Nat)) es i = some none
 | [], [], _, _, i => rfl
 | [], _ :: _, h, _, _ => by simp at h
 | _ :: _, [], h, _, _ => by simp at h
 | e :: es, p :: m, h, hk, i => by
   simp only [List.map_cons, List.cons.injEq, Prod.mk.injEq] at h
   obtain ⟨⟨h1, h2⟩, h3⟩ := h
   have hne : ((k : Int) == ((p.1 : Nat) : Int)) = false := by
    have : k ≠ p.1 := fun e => hk (by simp [e])
    have h9 : (k : Int) ≠ ((p.1 : Nat) : Int) := by omega
    simpa using h9
   simp only [Instr.findNow, h1, keyV, Instr.sameNow, if_true, hne]
   exact findNow_miss k es m h3 (fun h => hk (by simp [h])) (i + 1)
section
variable {P : Program} {t key e : TypeId} (h1 : P.underlying t = some (.map key e)) (h2 : P.underlying key = some (.int .i64))
include h2
theorem check_int (w : World) (b : Bool) (v : Value) : (Instr.checkKey b 10000 key v).run P w = .ok () w := by
 have key : ∀ n : Nat, (Instr.checkKey b (n + 1) key v).run P w = .ok () w := fun n => by
  simp only [Instr.checkKey, Sem.run_bind, run_underlying h2, Result.andThen_ok]
  rfl
 exact key 9999
include h1
theorem run_miss {w : World} {b : Nat} {m : HMap} (hm : Is w b m) {z : Value} (hz : (zeroValue e).run P w = .ok z w) {k : Nat} (hk : k ∉ m.map (·.1)) :
 (Instr.lookup t (.map (some b)) (.int .i64 (k : Nat)) true).run P w = .ok (.tuple #[z, .bool false]) w := by
 obtain ⟨es, cl, hb, hf⟩ := hm
 have hgo : (getObj b).run P w = .ok (.map es cl) w := by simp only [getObj, Sem.run, hb]
 simp only [Instr.lookup, Sem.run_bind, run_underlying h1, Result.andThen_ok, hgo, Sem.run_pure, check_int h2, Instr.findKey, run_underlying h2, findNow_miss k _ _ hf.ents hk, hz]
 rfl
theorem run_push {w : World} {b : Nat} {m : HMap} (hm : Is w b m) {k : Nat} (hk : k ∉ m.map (·.1)) (v : List UInt8) :
 ∃ w', (Instr.mapUpdate t (.map (some b)) (.int .i64 (k : Nat)) (.agg #[.string ⟨v.toArray⟩])).run P w = .ok () w' ∧ Is w' b (m ++ [(k, v)]) ∧ Vm.Fr [b] w w' := by
 obtain ⟨es, cl, hb, hf⟩ := hm
 have hgo : (getObj b).run P w = .ok (.map es cl) w := by simp only [getObj, Sem.run, hb]
 have hso : ∀ o, (setObj b o).run P w = .ok () (Vm.setObjAt w b o) := fun o => by simp only [setObj, Sem.run, hb]; rfl
 have hbl : b < w.heap.size := (Array.getElem?_eq_some_iff.1 hb).1
 refine ⟨Vm.setObjAt w b (.map (es.push { key := .int .i64 (k : Nat), val := .agg #[.string ⟨v.toArray⟩], born := cl }) (cl + 1)), ?_, ⟨_, _, Vm.at_setObjAt w b _ hbl, ?_, ?_, ?_⟩, Vm.Fr.set_ w b _⟩
 ·simp only [Instr.mapUpdate, Sem.run_bind, run_underlying h1, Result.andThen_ok, hgo, check_int h2, Instr.findKey, run_underlying h2, findNow_miss k _ _ hf.ents hk, Sem.run_pure, hso]
 ·have := hf.ents
  simp [this, keyV, valV]
 ·intro x hx
  rw [Array.toList_push, List.mem_append, List.mem_singleton] at hx
  rcases hx with hx | hx
  ·have := hf.born x hx; omega
  ·rw [hx]; show cl < cl + 1; omega
 ·rw [Array.toList_push, List.map_append]
  refine List.nodup_append.2 ⟨hf.once, by simp, fun a ha b hb => ?_⟩
  rw [List.map_cons, List.map_nil, List.mem_singleton] at hb
  obtain ⟨x, hx, rfl⟩ := List.mem_map.1 ha
  have := hf.born x hx
  exact fun e => by
   have e : x.born = cl := e.trans hb
   omega
omit h2 in
theorem run_len {w : World} {b : Nat} {m : HMap} (hm : Is w b m) (ty : TypeId) : (Builtin.len_ #[t] ty #[.map (some b)]).run P w = .ok (.int .i64 (m.length : Nat)) w := by
 obtain ⟨es, cl, hb, hf⟩ := hm
 have hgo : (getObj b).run P w = .ok (.map es cl) w := by simp only [getObj, Sem.run, hb]
 have hl : es.size = m.length := by
  have := congrArg List.length hf.ents
  simpa using this
 simp [Builtin.len_, run_underlying h1, hgo, hl, goInt]
end
end Held
end Go.Proofs.YtnbkhdbligjifaaGreatDoor
namespace Go.Proofs.YtnbkhdbligjifaaGreatDoor
open Go Go.RowKit
namespace Cod
def IntsN (w : World) (v : Value) (l : List Nat) : Prop := ∃ A c, v = .slice A l.length c ∧ l.length ≤ c ∧ ∀ i x, l[i]? = some x → ∃ b o, A = some ⟨b, o, none⟩ ∧ w.cell? ⟨b, o + i, none⟩ = some (.int .i64 (x : Nat))
def StrsN (w : World) (v : Value) (l : List (List UInt8)) : Prop := ∃ A c, v = .slice A l.length c ∧ l.length ≤ c ∧ ∀ i s, l[i]? = some s → ∃ b o, A = some ⟨b, o, none⟩ ∧ w.cell? ⟨b, o + i, none⟩ = some (.string ⟨s.toArray⟩)
theorem IntsN.ext {w w' : World} {v : Value} {l : List Nat} (h : IntsN w v l) (hE : Stab.Ext w w') : IntsN w' v l := by
 obtain ⟨A, c, h1, h5, h2⟩ := h
 exact ⟨A, c, h1, h5, fun i x hi => by obtain ⟨b, o, h3, h4⟩ := h2 i x hi; exact ⟨b, o, h3, hE.cell h4⟩⟩
theorem StrsN.ext {w w' : World} {v : Value} {l : List (List UInt8)} (h : StrsN w v l) (hE : Stab.Ext w w') : StrsN w' v l := by
 obtain ⟨A, c, h1, h5, h2⟩ := h
 exact ⟨A, c, h1, h5, fun i x hi => by obtain ⟨b, o, h3, h4⟩ := h2 i x hi; exact ⟨b, o, h3, hE.cell h4⟩⟩
theorem IntsN.ints {w : World} {v : Value} {l : List Nat} (h : IntsN w v l) (h0 : 0 < l.length) : Sol.Ints w v l := by
 obtain ⟨A, c, rfl, hc, h2⟩ := h
 obtain ⟨x, hx⟩ : ∃ x, l[0]? = some x := ⟨_, List.getElem?_eq_getElem h0⟩
 obtain ⟨b, o, rfl, _⟩ := h2 0 x hx
 exact ⟨b, o, c, rfl, hc, fun i x hi => by obtain ⟨b', o', he, h4⟩ := h2 i x hi; cases he; exact h4⟩
theorem StrsN.strs {w : World} {v : Value} {l : List (List UInt8)} (h : StrsN w v l) (h0 : 0 < l.length) : Strs w v l := by
 obtain ⟨A, c, rfl, hc, h2⟩ := h
 obtain ⟨x, hx⟩ : ∃ x, l[0]? = some x := ⟨_, List.getElem?_eq_getElem h0⟩
 obtain ⟨b, o, rfl, _⟩ := h2 0 x hx
 exact ⟨b, o, c, rfl, hc, fun i x hi => by obtain ⟨b', o', he, h4⟩ := h2 i x hi; cases he; exact h4⟩
theorem zip_take_len {hs : List Nat} {ps : List (List UInt8)} (h : ps.length = hs.length) : ((hs.zip ps).take hs.length).length = hs.length := by simp [h]
theorem zip_take_all {hs : List Nat} {ps : List (List UInt8)} (h : ps.length = hs.length) : (hs.zip ps).take hs.length = hs.zip ps := List.take_of_length_le (by simp; omega)
theorem zip_keys {hs : List Nat} {ps : List (List UInt8)} (h : ps.length = hs.length) (q : Nat) : ((hs.zip ps).take q).map (·.1) = hs.take q := by
 rw [List.map_take, List.map_fst_zip (by omega)]
theorem zip_next {hs : List Nat} {ps : List (List UInt8)} {q x : Nat} {s : List UInt8} (hx : hs[q]? = some x) (hs' : ps[q]? = some s) : (hs.zip ps).take (q + 1) = (hs.zip ps).take q ++ [(x, s)] := by
 have : (hs.zip ps)[q]? = some (x, s) := by simp [List.getElem?_zip_eq_some, hx, hs']
 rw [List.take_add_one, this]; rfl
theorem fresh_key {hs : List Nat} (hn : hs.Nodup) {q x : Nat} (hx : hs[q]? = some x) : x ∉ hs.take q := by
 intro hm
 obtain ⟨i, hi, he⟩ := List.mem_iff_getElem?.1 hm |>.imp fun i h => (show i < q ∧ hs[i]? = some x by
  rw [List.getElem?_take] at h
  split at h
  ·exact ⟨‹_›, h⟩
  ·cases h)
 have hil := (List.getElem?_eq_some_iff.1 he).1
 have hql := (List.getElem?_eq_some_iff.1 hx).1
 have h1 := (List.getElem?_eq_some_iff.1 he).2
 have h2 := (List.getElem?_eq_some_iff.1 hx).2
 exact List.pairwise_iff_getElem.1 hn i q hil hql hi (h1.trans h2.symm)
theorem info_held : (Tryz.prog.info? 200).map (fun i => (i.zero, i.size, i.bytes)) = some (some (.agg #[.string ⟨#[]⟩]), 1, 16) := by kernel_rfl
theorem zero_held (w : World) : (zeroValue 200).run Tryz.prog w = .ok (.agg #[.string ⟨#[]⟩]) w := by
 obtain ⟨i, hi, hz, _⟩ := info_parts info_held
 simp [zeroValue, typeInfo, hi, hz]
def HandPost (w : World) (K : Nat) (hs : List Nat) (ps : List (List UInt8)) (e : Ending) (w' : World) : Prop :=
 Below w.heap.size w w' ∧ if hs.length < K then e = .returned (.tuple #[.map none, .int .i64 54]) else ∃ b, e = .returned (.tuple #[.map (some b), .int .i64 0]) ∧ Held.Is w' b (hs.zip ps)
theorem hand_any {w : World} {K N : Nat} {vh vp : Value} {hs : List Nat} {ps : List (List UInt8)} (hc : codeB (K : Int) (N : Int) = true) (hh : IntsN w vh hs) (hp : StrsN w vp ps) (h2 : ps.length = hs.length) (hnd : hs.Nodup) (hlt : ∀ x ∈ hs, x < N) (h12 : hs.length ≤ 12) :
 Calls Tryz.prog 123 #[.agg #[.int .i64 (K : Int), .int .i64 (N : Int)], vh, vp] w (HandPost w K hs ps) := by
 obtain ⟨k1, k2, k3⟩ := (codeB_iff _ _).1 hc
 have hE0 := Stab.Ext.alloc w (.cells #[.int .i64 (K : Int), .int .i64 (N : Int)] 25)
 have bx := Blk.new w 25 #[.int .i64 (K : Int), .int .i64 (N : Int)]
 have HR := Lib.hid (show ERd w.heap.size (K : Int) (N : Int) _ from ⟨bx.cell 0, bx.cell 1⟩)
 have HH := Lib.hid (hh.ext hE0)
 have HP := Lib.hid (hp.ext hE0)
 have HB0 := Lib.hid hE0
 have HLT := Lib.hid hlt
 have HND := Lib.hid hnd
 have H2 := Lib.hid h2
 have HM := Lib.hid (mayCode_any (K : Int) (N : Int) (w.alloc (.cells #[.int .i64 (K : Int), .int .i64 (N : Int)] 25)))
 rw [hc] at HM
 have k0 := HR.out.c0
 have k1' := HR.out.c1
 obtain ⟨Ah, ch, rfl, -, -⟩ := hh
 obtain ⟨Ap, cp, rfl, -, -⟩ := hp
 have hmm := @run_makeMap Tryz.prog
 rw [h2]
 obtain ⟨n, hn⟩ : ∃ n, n = hs.length := ⟨_, rfl⟩
 rw [← hn] at h12
 rw [← hn]
 have HNL := Lib.hid hn
 clear h2 hE0 bx hlt hnd hc hn
 go_enter Tryz.func123, Tryz.ntmps123
 go_wp2_with (go_at_call 87; with_reducible refine HM.out.mono ?_)
 rintro e w1 ⟨rfl, hb1⟩
 have hE1 : Stab.Ext (w.alloc (.cells #[.int .i64 (K : Int), .int .i64 (N : Int)] 25)) (w1.alloc (.map #[] 0)) := hb1.trans ((Stab.Ext.alloc w1 _).mono hb1.size)
 have HH1 := Lib.hid (HH.out.ext hE1)
 have HP1 := Lib.hid (HP.out.ext hE1)
 have HR1 := Lib.hid (HR.out.ext hE1)
 have HB1 := Lib.hid (show Stab.Ext w (w1.alloc (.map #[] 0)) from HB0.out.trans hE1)
 have HI1 := Lib.hid (Held.empty_is w1)
 have hbx : w.heap.size < w1.heap.size := by have := hb1.size; simp at this; omega
 have HE1 := Lib.hid hE1
 clear hb1 hE1 k0 k1'
 go_wp2_with fail
 go_loopw [26] (fun i wr => ∃ q : Nat, q ≤ n ∧ i = .int .i64 (q : Int) ∧ Held.Is wr w1.heap.size ((hs.zip ps).take q) ∧ Vm.Fr [w1.heap.size] (w1.alloc (.map #[] 0)) wr) (fun i _ => n - (intOf i).toNat)
 case atStart => exact ⟨0, by omega, rfl, by simpa using HI1.out, Vm.Fr.refl _ _⟩
 case round =>
  obtain ⟨q, hq, rfl, hI, hfr⟩ := hrel
  have hcellk : ∀ {b o : Nat} {u : Value}, (w1.alloc (.map #[] 0)).cell? ⟨b, o, none⟩ = some u → b ≠ w1.heap.size → wr.cell? ⟨b, o, none⟩ = some u := fun {b o u} h1 h2 => (World.cell?_of_block (a := ⟨b, o, none⟩) (hfr.block b (Spr.lt_cell h1) (by simpa using h2))).trans h1
  have k0 := hcellk HR1.out.c0 (by omega)
  have k1' := hcellk HR1.out.c1 (by omega)
  by_cases hqn : q < n
  ·have hq2 : (q : Int) < (n : Int) := by omega
   have hqs : q < hs.length := by rw [← HNL.out]; exact hqn
   obtain ⟨x, hx⟩ : ∃ x, hs[q]? = some x := ⟨_, List.getElem?_eq_getElem hqs⟩
   obtain ⟨s, hs'⟩ : ∃ s, ps[q]? = some s := ⟨_, List.getElem?_eq_getElem (by rw [H2.out]; exact hqs)⟩
   obtain ⟨A9, c9, he9, -, hA9⟩ := HH.out
   cases he9
   obtain ⟨b9, o9, rfl, hcx⟩ := hA9 q x hx
   obtain ⟨A8, c8, he8, -, hA8⟩ := HP.out
   cases he8
   obtain ⟨b8, o8, rfl, hcs⟩ := hA8 q s hs'
   have l9 := Spr.lt_cell hcx
   have l8 := Spr.lt_cell hcs
   simp only [World.size_alloc] at l9 l8
   have c1 := hcellk (HE1.out.cell hcx) (by omega)
   have c2 := hcellk (HE1.out.cell hcs) (by omega)
   have hxN := HLT.out x (List.mem_of_getElem? hx)
   have g1 : ¬ ((x : Int) < 0) := by omega
   have g2 : ¬ ((N : Int) ≤ (x : Int)) := by omega
   have hfk : x ∉ ((hs.zip ps).take q).map (·.1) := by rw [zip_keys H2.out]; exact fresh_key HND.out hx
   have hlk := Held.run_miss (P := Tryz.prog) Tryz.underlying193 Tryz.underlying3 hI (zero_held wr) hfk
   have hx3 := Stab.Ext.alloc wr (.cells #[.string ⟨#[]⟩] 200)
   obtain ⟨w7, hpush, hI7, hfr7⟩ := Held.run_push (P := Tryz.prog) Tryz.underlying193 Tryz.underlying3 (hI.ext hx3) hfk s
   have k1'' := hx3.cell k1'
   have c2' := hx3.cell c2
   rw [← zip_next hx hs'] at hI7
   have HI7 := Lib.hid hI7
   have HF7 := Lib.hid ((hfr.next (Vm.Fr.of_below hx3)).next hfr7)
   clear hI hfr hI7 hfr7 hx3 hcs hcx hcellk hfk hx hs'
   go_wp2_with fail
   go_roundw
   case rel => exact ⟨q + 1, by omega, by go_num, HI7.out, HF7.out⟩
   case measure => simp [intOf]; omega
  ·obtain rfl : q = n := by omega
   have d1 : ¬ ((q : Int) < (q : Int)) := by omega
   have hlen := Held.run_len (P := Tryz.prog) Tryz.underlying193 hI 3
   have hq7 := HNL.out
   rw [hq7, zip_take_len H2.out, ← hq7] at hlen
   rw [hq7, zip_take_all H2.out] at hI
   have HI := Lib.hid hI
   have HB := Lib.hid (show Below w.heap.size w wr from Sol.below_fr HB1.out (Nat.le_refl _) hfr (by simp; omega))
   clear hI hfr hcellk
   by_cases hqK : q < K
   ·have hqK2 : (q : Int) < (K : Int) := by omega
    go_wp2_with fail
    go_ret2
    exact ⟨HB.out, by rw [if_pos (by rw [← HNL.out]; exact hqK)]; rfl⟩
   ·have hqK2 : ¬ (q : Int) < (K : Int) := by omega
    go_wp2_with fail
    go_ret2
    exact ⟨HB.out, by rw [if_neg (by rw [← HNL.out]; exact hqK)]; exact ⟨_, rfl, HI.out⟩⟩
end Cod
end Go.Proofs.YtnbkhdbligjifaaGreatDoor
