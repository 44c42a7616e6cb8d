/-
 The walks of package shard: Code, binary, Make (where the name is told by whoever calls). Oracles of the interpreter: digests and their signs. An oracle of the interpreter: shard.Make, which writes on behind a text that it has told.
-/
import Derived.Test.YtfkchheildfkpaaGreatDoorShaHex
import Derived.WalkSmall
import Derived.Lib.AppendIntMem
import Derived.Test.YtfkchheildfkpaaGreatDoorShdObj
import Derived.Test.YtfkchheildfkpaaGreatDoorSumL
import Derived.Test.YtfkchheildfkpaaGreatDoorBuilderW
import Derived.Test.YtfkchheildfkpaaGreatDoorRfNat
namespace Go.Proofs.YtfkchheildfkpaaGreatDoor
open Go.RowKit
namespace Shd
theorem codeB_mk {k n : Int} {b : Bool} (h : codeB k n = b) : Ending.returned (.bool b) = .returned (.bool (codeB k n)) := by rw [h]
set_option maxRecDepth 100000 in
set_option maxHeartbeats 2000000 in
theorem code_any (k n : Int) (w : World) :
   Calls Tryz.prog 250 #[.agg #[.int .i64 k, .int .i64 n]] w fun e w' => e = .returned (.bool (codeB k n)) ∧ Below w.heap.size w w' := by
 by_cases h1 : 1 ≤ k
 · by_cases h2 : k ≤ n
   · by_cases h3 : n ≤ 12
     · go_enter Tryz.func250, Tryz.ntmps250
       go_wp2_with fail
       go_ret
       exact ⟨codeB_mk (by simp [codeB, h1, h2, h3]), (Below.refl _ _).alloc (Nat.le_refl _) _⟩
     · go_enter Tryz.func250, Tryz.ntmps250
       go_wp2_with fail
       go_ret
       exact ⟨codeB_mk (by simp [codeB, h1, h2, h3]), (Below.refl _ _).alloc (Nat.le_refl _) _⟩
   · go_enter Tryz.func250, Tryz.ntmps250
     go_wp2_with fail
     go_ret
     exact ⟨codeB_mk (by simp [codeB]; omega), (Below.refl _ _).alloc (Nat.le_refl _) _⟩
 · go_enter Tryz.func250, Tryz.ntmps250
   go_wp2_with fail
   go_ret
   exact ⟨codeB_mk (by simp [codeB]; omega), (Below.refl _ _).alloc (Nat.le_refl _) _⟩
set_option maxRecDepth 100000 in
set_option maxHeartbeats 2000000 in
theorem binary_any (k n i len : Int) (w : World) :
   Calls Tryz.prog 282 #[.int .i64 k, .int .i64 n, .int .i64 i, .int .i64 len] w fun e w' =>
     e = .returned (.slice (some ⟨w.heap.size, 0, none⟩) 7 7) ∧ Blk w' w.heap.size 5 (nums (binL k n i len)) ∧ Below w.heap.size w w' := by
 go_enter Tryz.func282, Tryz.ntmps282
 go_wp2_with fail
 go_ret
 refine ⟨rfl, ?_, (Below.refl _ _).alloc (Nat.le_refl _) _⟩
 have e : nums (binL k n i len) = #[.int .u8 (k % 256), .int .u8 (n % 256), .int .u8 (i % 256), .int .u8 (len / 16777216 % 256), .int .u8 (len / 65536 % 256), .int .u8 (len / 256 % 256), .int .u8 (len % 256)] := by
   unfold nums binL
   simp only [List.map_cons, List.map_nil, by8_toNat]
 rw [e]
 exact Blk.new w _ _
theorem bld_below {B b : Nat} {l : List UInt8} {w w' : World} (h : Bld B b l w) (hb : Below w.heap.size w w') : Bld B b l w' := by
 have hg : w.grownBy w' none := ⟨hb.os, hb.tape, hb.output, hb.size, fun k hk _ => hb.block k hk⟩
 have key : ∀ p, Lib.BuilderAtF 149 5 B b p (Lib.byteCells l) w → Lib.BuilderAtF 149 5 B b p (Lib.byteCells l) w' := fun p h => by
   obtain ⟨h1, v, h2, h3, h4⟩ := h
   refine ⟨h1, v, (hb.block b (Array.getElem?_eq_some_iff.1 h2).1).trans h2, h3.kept hg ?_, h4⟩
   cases v.ownBlock
   · exact .inl rfl
   · exact .inr (by simp)
 rcases h with h | h
 · exact .inl (key _ h)
 · exact .inr (key _ h)
def shardC (K N : Int) (dig : ByteArray) (idx : Int) (pay : ByteArray) : Array Value := #[.int .i64 K, .int .i64 N, .string dig, .int .i64 idx, .string pay]
def toS (K N : Int) (dig : ByteArray) (idx : Int) (pay : ByteArray) : Shard := ⟨K, N, idx, dig.data.toList, pay.data.toList⟩
theorem set_two {W : World} {g : Nat} {t : TypeId} {a b : Value} (h : Blk W g t #[a, b]) (x y : Value) : Blk ((W.setCell ⟨g, 0, none⟩ x).setCell ⟨g, 1, none⟩ y) g t #[x, y] := (h.set_ 0 x).set_ 1 y
theorem below_two {w W : World} {n : Nat} (h : Below n w W) (x y : Value) : Below n w ((W.setCell ⟨n + 1, 0, none⟩ x).setCell ⟨n + 1, 1, none⟩ y) := (h.setCell (p := ⟨n + 1, 0, none⟩) (by simp) _).setCell (p := ⟨n + 1, 1, none⟩) (by simp) _
set_option maxRecDepth 100000 in
set_option maxHeartbeats 4000000 in
theorem make_by (K N idx : Int) (dig pay nm : ByteArray) (hmay : (toS K N dig idx pay).May) (hpsz : pay.size ≤ 65461) (w : World)
   (hname : ∀ w', Below w.heap.size w w' → Calls Tryz.prog 245 #[.string dig, .int .i64 idx] w' fun e w'' => e = .returned (.string nm) ∧ Below w'.heap.size w' w'') :
   Calls Tryz.prog 214 #[.agg #[.int .i64 K, .int .i64 N, .string dig, .int .i64 idx, .string pay]] w fun e w' => e = .returned (.tuple #[.agg #[.string nm, .string ⟨((toS K N dig idx pay).data sumL).toArray⟩], .int .i64 0]) ∧ Below w.heap.size w w' := by
 have HV := Lib.hid hname
 clear hname
 have hdl : dig.data.toList.length = dig.size := by simp
 have hpl : pay.data.toList.length = pay.size := by simp
 go_enter Tryz.func214, Tryz.ntmps214
 go_wp2_with fail
 have hbx : Blk ((w.alloc (.cells #[.int .i64 K, .int .i64 N, .string dig, .int .i64 idx, .string pay] 321)).alloc (.cells #[.string ⟨#[]⟩, .string ⟨#[]⟩] 122)) w.heap.size 321 (shardC K N dig idx pay) := (Blk.new w _ _).alloc _
 have hrs : Blk ((w.alloc (.cells #[.int .i64 K, .int .i64 N, .string dig, .int .i64 idx, .string pay] 321)).alloc (.cells #[.string ⟨#[]⟩, .string ⟨#[]⟩] 122)) (w.heap.size + 1) 122 #[.string ⟨#[]⟩, .string ⟨#[]⟩] := by
   have h := Blk.new (w.alloc (.cells #[.int .i64 K, .int .i64 N, .string dig, .int .i64 idx, .string pay] 321)) 122 #[.string ⟨#[]⟩, .string ⟨#[]⟩]
   simpa using h
 have hb2 : Below w.heap.size w ((w.alloc (.cells #[.int .i64 K, .int .i64 N, .string dig, .int .i64 idx, .string pay] 321)).alloc (.cells #[.string ⟨#[]⟩, .string ⟨#[]⟩] 122)) := ((Below.refl _ _).alloc (Nat.le_refl _) _).alloc (by simp) _
 obtain ⟨n0, hn0⟩ : ∃ n, n = w.heap.size := ⟨_, rfl⟩
 rw [← hn0] at hbx hrs hb2 ⊢
 have HN0 := Lib.hid hn0
 clear hn0
 generalize (w.alloc (.cells #[.int .i64 K, .int .i64 N, .string dig, .int .i64 idx, .string pay] 321)).alloc (.cells #[.string ⟨#[]⟩, .string ⟨#[]⟩] 122) = w2 at *
 refine (code_any K N w2).mono ?_
 rintro e w3 ⟨rfl, hb3⟩
 have hbx3 := hbx.below hb3 hbx.lt
 have hrs3 := hrs.below hb3 hrs.lt
 have hb03 : Below n0 w w3 := hb2.trans (hb3.mono (Nat.le_of_lt hbx.lt))
 clear hbx hrs hb2 hb3
 have c0 : w3.cell? ⟨n0, 0, none⟩ = some (.int .i64 K) := hbx3.cell 0
 have c1 : w3.cell? ⟨n0, 1, none⟩ = some (.int .i64 N) := hbx3.cell 1
 have c2 : w3.cell? ⟨n0, 2, none⟩ = some (.string dig) := hbx3.cell 2
 have c3 : w3.cell? ⟨n0, 3, none⟩ = some (.int .i64 idx) := hbx3.cell 3
 have c4 : w3.cell? ⟨n0, 4, none⟩ = some (.string pay) := hbx3.cell 4
 have r0 : w3.cell? ⟨n0 + 1, 0, none⟩ = some (.string ⟨#[]⟩) := hrs3.cell 0
 have r1 : w3.cell? ⟨n0 + 1, 1, none⟩ = some (.string ⟨#[]⟩) := hrs3.cell 1
 have f0 := hrs3.frozen 0
 have f1 := hrs3.frozen 1
 have HBX := Lib.hid hbx3
 have HRS := Lib.hid hrs3
 clear hbx3 hrs3
 obtain ⟨m1, m2, m3, m4, m5, m6⟩ := hmay
 have m4 : dig.data.toList.length = 32 := m4
 have m5 : 0 ≤ idx := m5
 have m6 : idx < N := m6
 have hcode : codeB K N = true := (codeB_iff K N).2 ⟨m1, m2, m3⟩
 have h32 : dig.size = 32 := by omega
 have hi0 : ¬ (idx < 0) := by omega
 have hiN : ¬ (N ≤ idx) := by omega
 clear m1 m2 m3 m4 m5 m6
 rw [hcode]
 clear hcode
 have hd : ¬ ((65461 : Int) < (pay.size : Int)) := by omega
 clear c0 c1 c2 c3 c4
 have hbx3 := HBX.out
 have c0 : w3.cell? ⟨n0, 0, none⟩ = some (.int .i64 K) := hbx3.cell 0
 have c1 : w3.cell? ⟨n0, 1, none⟩ = some (.int .i64 N) := hbx3.cell 1
 have c2 : w3.cell? ⟨n0, 2, none⟩ = some (.string dig) := hbx3.cell 2
 have c3 : w3.cell? ⟨n0, 3, none⟩ = some (.int .i64 idx) := hbx3.cell 3
 have c4 : w3.cell? ⟨n0, 4, none⟩ = some (.string pay) := hbx3.cell 4
 go_wp2_with fail
 clear c0 c1 c2 c3 c4 r0 r1 f0 f1
 have hB4 := Bld.new w3
 have hbx4 := hbx3.alloc (.cells #[.pointer none, .slice none 0 0] 149)
 have hrs4 := HRS.out.alloc (.cells #[.pointer none, .slice none 0 0] 149)
 have hs3 := HRS.out.lt
 have hb04 : Below n0 w (w3.alloc (.cells #[.pointer none, .slice none 0 0] 149)) := hb03.alloc (by omega) _
 have hs4 : (w3.alloc (.cells #[.pointer none, .slice none 0 0] 149)).heap.size = w3.heap.size + 1 := by simp
 generalize (w3.alloc (.cells #[.pointer none, .slice none 0 0] 149)) = w4 at *
 obtain ⟨b, hb⟩ : ∃ b, b = w3.heap.size := ⟨_, rfl⟩
 rw [← hb] at hB4 hs3 hs4 ⊢
 clear hbx3 hb hb03
 have HBX4 := Lib.hid hbx4
 have HRS4 := Lib.hid hrs4
 have HB4 := Lib.hid hB4
 clear hbx4 hrs4 hB4 HBX HRS
 -- the mark
 refine (wstring_any b b [] ⟨#[115, 104, 100, 49]⟩ w4 HB4.out (by decide) (by omega)).mono ?_
 rintro e w5 ⟨⟨v5, rfl⟩, hB5, hb5, _⟩
 have hB5' : Bld b b markL w5 := hB5
 have HB5 := Lib.hid hB5'
 have hbx5 := HBX4.out.below hb5 (by omega)
 have c0 : w5.cell? ⟨n0, 0, none⟩ = some (.int .i64 K) := hbx5.cell 0
 have c1 : w5.cell? ⟨n0, 1, none⟩ = some (.int .i64 N) := hbx5.cell 1
 have c3 : w5.cell? ⟨n0, 3, none⟩ = some (.int .i64 idx) := hbx5.cell 3
 have c4 : w5.cell? ⟨n0, 4, none⟩ = some (.string pay) := hbx5.cell 4
 have HBX5 := Lib.hid hbx5
 have hb05 : Below n0 w w5 := hb04.trans (hb5.mono (by omega))
 have hs5 := hb5.size
 clear hbx5 hB5 hB5' HB4 hb04
 go_wp2_with (go_at_call 282; refine (binary_any K N idx _ w5).mono ?_; rintro e w6 ⟨rfl, hbin, hb6⟩)
 clear c0 c1 c3 c4
 have hblt : b < w5.heap.size := by omega
 have hbin' : Blk w6 w5.heap.size 5 (nums (binL K N idx (pay.size : Int)) ++ #[]) := by simpa using hbin
 have hB6 := bld_below HB5.out hb6
 have hs6 := hb6.size
 obtain ⟨g6, hg6⟩ : ∃ g, g = w5.heap.size := ⟨_, rfl⟩
 rw [← hg6] at hbin' hblt ⊢
 have hbx6 := HBX5.out.below hb6 HBX5.out.lt
 have hb06 : Below n0 w w6 := hb05.trans (hb6.mono (by omega))
 clear hg6 hbin HBX5 HB5 hb05
 have hlenB : markL.length + (binL K N idx (pay.size : Int)).length ≤ 140737488355328 := by rw [binL_len]; decide
 refine (write_any b b markL (binL K N idx (pay.size : Int)) g6 7 #[] _ w6 hB6 hbin' (by omega) hlenB (by omega)).mono ?_
 rintro e w7 ⟨⟨v7, rfl⟩, hB7, hb7, _⟩
 have hs7 := hb7.size
 have hbx7 := hbx6.below hb7 (by omega)
 have hb07 : Below n0 w w7 := hb06.trans (hb7.mono (by omega))
 have c2 : w7.cell? ⟨n0, 2, none⟩ = some (.string dig) := hbx7.cell 2
 have c4 : w7.cell? ⟨n0, 4, none⟩ = some (.string pay) := hbx7.cell 4
 have HB7 := Lib.hid hB7
 have HBX7 := Lib.hid hbx7
 clear hB6 hbin' hbx6 hb06 hB7 hbx7 hlenB
 have hds : (dig ++ pay).size = dig.size + pay.size := by simp
 have hdt : (dig ++ pay).data.toList = dig.data.toList ++ pay.data.toList := by simp
 have HDT := Lib.hid hdt
 have hWS := fun h1 => wstring_any b b _ (dig ++ pay) w7 HB7.out h1 (by omega)
 rw [hds, hdt] at hWS
 have hWS := hWS (by rw [List.length_append, binL_len]; show 4 + 7 + (dig.size + pay.size) ≤ _; omega)
 have hBL : markL ++ binL K N idx (pay.size : Int) ++ (dig.data.toList ++ pay.data.toList) = (toS K N dig idx pay).body := by
   unfold Shard.body toS
   rw [hpl, List.append_assoc]
 rw [hBL] at hWS
 have HWS := Lib.hid hWS
 clear hWS hBL hdt hds
 go_wp2_with fail
 refine HWS.out.mono ?_
 rintro e w8 ⟨⟨v8, rfl⟩, hB8, hb8, _⟩
 have hs8 := hb8.size
 have hbx8 := HBX7.out.below hb8 (by omega)
 have hb08 : Below n0 w w8 := hb07.trans (hb8.mono (by omega))
 have HBX8 := Lib.hid hbx8
 clear c2 c4 HWS HBX7 HB7 hb07 hbx8
 have hbl : (toS K N dig idx pay).body.length = 43 + pay.size := by rw [body_len _ (by show dig.data.toList.length = 32; omega)]; show 43 + pay.data.toList.length = _; omega
 have hdata : (toS K N dig idx pay).body ++ (sumL (toS K N dig idx pay).body) = (toS K N dig idx pay).data sumL := rfl
 have HDATA := Lib.hid hdata
 generalize (toS K N dig idx pay).body = L at *
 have hT := text_any b b L w8 hB8 (by omega)
 have HT := Lib.hid hT
 clear hT hdata
 go_wp2_with (go_at_call 72; refine HT.out.mono ?_; rintro e w9 ⟨rfl, hB9, hb9, _⟩)
 clear HT hB8
 have hs9 := hb9.size
 have hsum : Calls Tryz.prog 119 #[.string ⟨L.toArray⟩] w9 fun e w' => e = .returned (.string ⟨(sumL L).toArray⟩) ∧ Below w9.heap.size w9 w' := Sha.sum_any ⟨L.toArray⟩ (show L.length ≤ 70368744177664 by omega) w9
 have HSUM := Lib.hid hsum
 clear hsum
 refine HSUM.out.mono ?_
 rintro e w10 ⟨rfl, hb10⟩
 have hs10 := hb10.size
 have hB10 := bld_below hB9 hb10
 have hbx10 := HBX8.out.below (hb9.trans (hb10.mono (by omega))) (by omega)
 have hb010 : Below n0 w w10 := hb08.trans ((hb9.mono (by omega)).trans (hb10.mono (by omega)))
 clear hB9 HBX8 hb08 HSUM
 have hsl := sumL_len L
 generalize sumL L = M at *
 have hWS := wstring_any b b L ⟨M.toArray⟩ w10 hB10 (show L.length + M.length ≤ _ by omega) (by omega)
 have HWS := Lib.hid hWS
 clear hWS hB10
 go_wp2_with fail
 refine HWS.out.mono ?_
 rintro e w11 ⟨⟨v11, rfl⟩, hB11, hb11, _⟩
 have hs11 := hb11.size
 have hbx11 := hbx10.below hb11 (by omega)
 have hb011 : Below n0 w w11 := hb010.trans (hb11.mono (by omega))
 have hrs11 := HRS4.out.below ((hb5.trans ((hb6.mono (by omega)).trans (hb7.trans (hb8.trans (hb9.trans ((hb10.mono (by omega)).trans hb11))))))) (by omega)
 have c2 : w11.cell? ⟨n0, 2, none⟩ = some (.string dig) := hbx11.cell 2
 have c3 : w11.cell? ⟨n0, 3, none⟩ = some (.int .i64 idx) := hbx11.cell 3
 have HRS11 := Lib.hid hrs11
 have HNM := Lib.hid (HV.out w11 (by have hh := HN0.out; rw [← hh]; exact hb011))
 have hB11' : Bld b b (L ++ M) w11 := hB11
 have HB11 := Lib.hid hB11'
 clear hB11 hB11' hbx11 hbx10 HWS hrs11 hb010
 go_wp2_with (go_at_call 245; refine HNM.out.mono ?_; rintro e w12 ⟨rfl, hb12⟩)
 have hs12 := hb12.size
 have hT := text_any b b (L ++ M) w12 (bld_below HB11.out hb12) (by omega)
 have HT := Lib.hid hT
 have hrs12 := HRS11.out.below hb12 HRS11.out.lt
 have hb012 : Below n0 w w12 := hb011.trans (hb12.mono (by omega))
 clear hT hb011 HB11 HNM
 refine HT.out.mono ?_
 rintro e w13 ⟨rfl, _, hb13, _⟩
 have hrs13 := hrs12.below hb13 (by omega)
 have hb013 : Below n0 w w13 := hb012.trans (hb13.mono (by omega))
 have r0 : w13.cell? ⟨n0 + 1, 0, none⟩ = some (.string ⟨#[]⟩) := hrs13.cell 0
 have r1 : w13.cell? ⟨n0 + 1, 1, none⟩ = some (.string ⟨#[]⟩) := hrs13.cell 1
 have f0 := hrs13.frozen 0
 have f1 := hrs13.frozen 1
 have HRS13 := Lib.hid hrs13
 clear hrs13 hrs12 HT hb012 c2 c3
 go_wp2_with fail
 have hr := set_two HRS13.out (.string nm) (.string ⟨(L ++ M).toArray⟩)
 have hb4 := below_two hb013 (.string nm) (.string ⟨(L ++ M).toArray⟩)
 generalize (w13.setCell ⟨n0 + 1, 0, none⟩ (.string nm)).setCell ⟨n0 + 1, 1, none⟩ (.string ⟨(L ++ M).toArray⟩) = w14 at *
 have q0 : w14.cell? ⟨n0 + 1, 0, none⟩ = some (.string nm) := hr.cell 0
 have q1 : w14.cell? ⟨n0 + 1, 1, none⟩ = some (.string ⟨(L ++ M).toArray⟩) := hr.cell 1
 refine bodyPost_ret (v := .tuple #[.agg #[.string nm, .string ⟨(L ++ M).toArray⟩], .int .i64 0]) (by simp only [results, Tryz.results214, go_sem]; simp [go_sem, q0, q1]) rfl ⟨?_, by have hh := HN0.out; rw [← hh]; exact hb4⟩
 rw [HDATA.out]
end Shd
end Go.Proofs.YtfkchheildfkpaaGreatDoor
namespace Go.Proofs.YtfkchheildfkpaaGreatDoor.Refl
open Go Go.RowKit
namespace Abs
noncomputable def sumN (n x : Nat) : Nat := packL (Sha.digest Sha.R64 Sha.S0 (bytesN n x))
noncomputable def hexN (n x : Nat) : Nat := packL (Shd.hexL (bytesN n x))
def len32 (_ : Nat) : Nat := 32
def len2 (n : Nat) : Nat := n * 2
theorem hexL_len2 : ∀ l : List UInt8, (Shd.hexL l).length = len2 l.length
 | [] => rfl
 | b :: l => by rw [Shd.hexL, List.length_cons, List.length_cons, hexL_len2 l, List.length_cons]; unfold len2; omega
set_option maxRecDepth 100000 in
theorem sum_ok {W : World} {G : Nat} : FuncOk ⟨Tryz.prog, compC Tryz.prog G, G, W⟩ Unit 119 (textO sumN len32) :=
 textO_ok Tryz.func119 (by kernel_rfl) rfl (fun _ _ => rfl) Shd.sumL_len Sha.sum_any
set_option maxRecDepth 100000 in
theorem hex_ok {W : World} {G : Nat} : FuncOk ⟨Tryz.prog, compC Tryz.prog G, G, W⟩ Unit 312 (textO hexN len2) :=
 textO_ok Tryz.func312 (by kernel_rfl) rfl (fun _ _ => rfl) hexL_len2 Shd.hex_any
noncomputable def lookF (n x : Nat) : List (Nat × Nat × Nat) → Nat
 | [] => sumN n x
 | p :: l => match and (Nat.beq n p.1) (Nat.beq x p.2.1) with
   | true => p.2.2
   | false => lookF n x l
theorem lookF_eq (n x : Nat) : ∀ l : List (Nat × Nat × Nat), (∀ p ∈ l, sumN p.1 p.2.1 = p.2.2) → lookF n x l = sumN n x
 | [], _ => rfl
 | p :: l, h => by
   rw [lookF]
   split
   · rename_i hc
     rw [Bool.and_eq_true, Nat.beq_eq, Nat.beq_eq] at hc
     rw [hc.1, hc.2]
     exact (h p (List.mem_cons_self ..)).symm
   · exact lookF_eq n x l fun q hq => h q (List.mem_cons_of_mem _ hq)
noncomputable def sumT (l : List (Nat × Nat × Nat)) (n x : Nat) : Nat := lookF n x l
theorem sumT_eq {l : List (Nat × Nat × Nat)} (h : ∀ p ∈ l, sumN p.1 p.2.1 = p.2.2) : sumT l = sumN := funext fun n => funext fun x => lookF_eq n x l h
theorem sumT_ok {W : World} {G : Nat} {l : List (Nat × Nat × Nat)} (h : ∀ p ∈ l, sumN p.1 p.2.1 = p.2.2) : FuncOk ⟨Tryz.prog, compC Tryz.prog G, G, W⟩ Unit 119 (textO (sumT l) len32) := by
 rw [sumT_eq h]
 exact sum_ok
end Abs
end Go.Proofs.YtfkchheildfkpaaGreatDoor.Refl
namespace Go.Proofs.YtfkchheildfkpaaGreatDoor.Refl
open Go Go.RowKit
namespace Abs
set_option linter.unusedVariables false
set_option linter.unusedSimpArgs false
noncomputable def dataN (k n idx : Int) (dn dx pn px : Nat) : Nat := packL ((⟨k, n, idx, bytesN dn dx, bytesN pn px⟩ : Shd.Shard).data Shd.sumL)
def nameLenN (idx : Int) : Nat := match idx with
 | .ofNat i => match Nat.ble i 9 with | true => 66 | false => 67
 | _ => 0
noncomputable def nameN (dn dx : Nat) (idx : Int) : Nat := match idx with
 | .ofNat i => match Nat.ble i 9 with
   | true => Nat.add (Nat.mul (hexN dn dx) 65536) (Nat.add 11824 i)
   | false => Nat.add (Nat.mul (hexN dn dx) 16777216) (Nat.add 3027238 (Nat.add 0 i))
 | _ => 0
noncomputable def isStrK (n x : Nat) : KV Unit := fun v _ => match v with
 | .str m y => match and (Nat.beq n m) (Nat.beq x y) with
   | true => some ()
   | false => none
 | _ => none
noncomputable def makeO (call : Nat → List AVal → AState → KV Unit → Option Unit) (G : Nat) (args : List AVal) (S : AState) (K : KV Unit) : Option Unit := match args with
 | [.agg [.int .i64 k, .int .i64 n, .str dn dx, .int .i64 idx, .str pn px]] => match and (!(iLt k 1)) (and (!(iLt n k)) (and (!(iLt 12 n)) (and (Nat.beq dn 32) (and (!(iLt idx 0)) (and (iLt idx n) (Nat.ble pn 65461)))))) with
   | true => match call 245 [.str dn dx, .int .i64 idx] (startA .leaf G) (isStrK (nameLenN idx) (nameN dn dx idx)) with
     | some _ => fN (nameLenN idx) fun nn => fN (nameN dn dx idx) fun nx => fN (Nat.add 75 pn) fun l => fN (dataN k n idx dn dx pn px) fun y => K (.tup [.agg [.str nn nx, .str l y], .int .i64 (.ofNat 0)]) S
     | none => none
   | false => none
 | _ => none
noncomputable def bodyN (k n idx : Int) (dn dx pn px : Nat) : Nat := packL (⟨k, n, idx, bytesN dn dx, bytesN pn px⟩ : Shd.Shard).body
noncomputable def bodyLenN (k n idx : Int) (dn dx pn px : Nat) : Nat := (⟨k, n, idx, bytesN dn dx, bytesN pn px⟩ : Shd.Shard).body.length
noncomputable def makeOF (F : Nat → Nat → Nat) (call : Nat → List AVal → AState → KV Unit → Option Unit) (G : Nat) (args : List AVal) (S : AState) (K : KV Unit) : Option Unit := match args with
 | [.agg [.int .i64 k, .int .i64 n, .str dn dx, .int .i64 idx, .str pn px]] => match and (!(iLt k 1)) (and (!(iLt n k)) (and (!(iLt 12 n)) (and (Nat.beq dn 32) (and (!(iLt idx 0)) (and (iLt idx n) (Nat.ble pn 65461)))))) with
   | true => match call 245 [.str dn dx, .int .i64 idx] (startA .leaf G) (isStrK (nameLenN idx) (nameN dn dx idx)) with
     | some _ => fN (nameLenN idx) fun nn => fN (nameN dn dx idx) fun nx => fN (Nat.add 75 pn) fun l => fN (bodyLenN k n idx dn dx pn px) fun m => fN (bodyN k n idx dn dx pn px) fun z => fN (F m z) fun d => fN (Nat.add (Nat.mul z 115792089237316195423570985008687907853269984665640564039457584007913129639936) d) fun y => K (.tup [.agg [.str nn nx, .str l y], .int .i64 (.ofNat 0)]) S
     | none => none
   | false => none
 | _ => none
theorem dataN_eq (k n idx : Int) (dn dx pn px : Nat) : Nat.add (Nat.mul (bodyN k n idx dn dx pn px) 115792089237316195423570985008687907853269984665640564039457584007913129639936) (sumN (bodyLenN k n idx dn dx pn px) (bodyN k n idx dn dx pn px)) = dataN k n idx dn dx pn px := by
 unfold dataN bodyN bodyLenN sumN
 generalize hs : (⟨k, n, idx, bytesN dn dx, bytesN pn px⟩ : Shd.Shard) = s
 have hb : bytesN s.body.length (packL s.body) = s.body := by
   have := bytesN_eq (n := s.body.length) (x := packL s.body) (s := ⟨s.body.toArray⟩) ⟨by simp, by simp⟩
   simpa using this
 rw [hb]
 unfold Shd.Shard.data
 rw [packL_append, Shd.sumL_len]
 rfl
theorem makeOF_eq {F : Nat → Nat → Nat} (hF : F = sumN) : makeOF F = makeO := by
 subst hF
 funext call G args S K
 unfold makeOF makeO
 split
 · split
   · split
     · simp only [fN_eq, dataN_eq]
     · rfl
   · rfl
 · rfl
theorem make_ok {W : World} {G : Nat} {C : Cfg Unit} {n : Nat} (hC : ∀ W, CfgOk ⟨Tryz.prog, compC Tryz.prog G, G, W⟩ Unit C) (hno : C.orc.get 245 = none) :
   FuncOk ⟨Tryz.prog, compC Tryz.prog G, G, W⟩ Unit 214 (makeO (fcallF C (fexec C n)) G) := by
 have hcall : fcallF C (fexec C n) = callF C (exec C n) := by
   funext g args S K
   rw [fexec_eq, fcallF_eq]
 rw [hcall]
 intro args S K r h hok
 unfold makeO at h
 split at h
 case h_2 => cases h
 rename_i k nn dn dx idx pn px
 split at h
 case h_2 => cases h
 rename_i hc
 simp only [Bool.and_eq_true, Bool.not_eq_true', iLt_eq, decide_eq_true_eq, decide_eq_false_iff_not, Nat.beq_eq, Nat.ble_eq] at hc
 obtain ⟨c1, c2, c3, rfl, c5, c6, c7⟩ := hc
 split at h
 case h_2 => cases h
 rename_i u hu
 rw [fN_eq, fN_eq, fN_eq, fN_eq] at h
 refine ⟨_, S, h, .refl _, fun M f w us hs hM hus => ?_⟩
 obtain ⟨u1, us1, hus1, ⟨cs, rfl, hcs⟩, hnil⟩ := hus
 cases hnil
 obtain ⟨x1, l1, e1, hx1, l2, l3, e2, hx2, hl⟩ := hcs
 obtain ⟨x3, l4, rfl, ⟨dig, rfl, hdig⟩, x4, l5, rfl, hx4, x5, l6, rfl, ⟨pay, rfl, hpay⟩, hnil⟩ := hl
 cases hnil
 subst e2
 cases hx1
 cases hx2
 cases hx4
 have hcs : cs = #[.int .i64 k, .int .i64 nn, .string dig, .int .i64 idx, .string pay] := Array.toList_inj.1 e1
 subst hcs
 have hus0 : us = #[.agg #[.int .i64 k, .int .i64 nn, .string dig, .int .i64 idx, .string pay]] := Array.toList_inj.1 hus1
 subst hus0
 have hdl : dig.data.toList.length = 32 := hdig.1
 have hpl : pay.data.toList.length = pn := hpay.1
 have hps : pay.size = pn := by rw [← hpl]; simp
 -- the name, as a text
 have name : ∀ w', Below w.heap.size w w' → ∃ nm, StrRel (nameLenN idx) (nameN 32 dx idx) nm ∧ Calls Tryz.prog 245 #[.string dig, .int .i64 idx] w' fun e w'' => e = .returned (.string nm) ∧ Below w'.heap.size w' w'' := by
   intro w' hb
   have hG : G ≤ w'.heap.size := Nat.le_trans hs.big_enough hb.size
   obtain ⟨v, S', hv, hgo⟩ := pure_calls (E := ⟨Tryz.prog, compC Tryz.prog G, G, w'⟩) (hC w') n hno hG hu
   have hv' : v = .str (nameLenN idx) (nameN 32 dx idx) := by
     unfold isStrK at hv
     split at hv
     · split at hv
       · rename_i hq
         simp only [Bool.and_eq_true, Nat.beq_eq] at hq
         rw [hq.1, hq.2]
       · cases hv
     · cases hv
   subst hv'
   have hcalls := hgo #[.string dig, .int .i64 idx] ⟨_, _, rfl, ⟨dig, rfl, hdig⟩, _, _, rfl, rfl, rfl⟩
   -- one text for all endings
   obtain ⟨nm, hnm⟩ : ∃ nm : ByteArray, StrRel (nameLenN idx) (nameN 32 dx idx) nm := by
     obtain ⟨e, w'', _, ⟨v', f', _, ⟨s, _, hs⟩, _⟩, _⟩ := hcalls []
     exact ⟨s, hs⟩
   refine ⟨nm, hnm, hcalls.mono ?_⟩
   rintro e w'' ⟨v', f', rfl, ⟨s, rfl, hs2⟩, hbl⟩
   have : s = nm := by
     have h1 : s.data.toList = nm.data.toList := packL_inj (by rw [hs2.1, hnm.1]) (by rw [hs2.2, hnm.2])
     cases s; cases nm
     simp only [ByteArray.mk.injEq]
     exact Array.toList_inj.1 h1
   subst this
   exact ⟨rfl, hbl⟩
 obtain ⟨nm, hnm, _⟩ := name w (.refl _ _)
 have name2 : ∀ w', Below w.heap.size w w' → Calls Tryz.prog 245 #[.string dig, .int .i64 idx] w' fun e w'' => e = .returned (.string nm) ∧ Below w'.heap.size w' w'' := by
   intro w' hb
   obtain ⟨nm2, hnm2, hcalls⟩ := name w' hb
   have : nm2 = nm := by
     have h1 : nm2.data.toList = nm.data.toList := packL_inj (by rw [hnm2.1, hnm.1]) (by rw [hnm2.2, hnm.2])
     cases nm2; cases nm
     simp only [ByteArray.mk.injEq]
     exact Array.toList_inj.1 h1
   rw [this] at hcalls
   exact hcalls
 refine goes_of_calls Tryz.func214 (by kernel_rfl) rfl ((Shd.make_by k nn idx dig pay nm ⟨by show 1 ≤ k; omega, by show k ≤ nn; omega, by show nn ≤ 12; omega, hdl, by show 0 ≤ idx; omega, by show idx < nn; omega⟩ (by omega) w name2).mono fun e w' ⟨he, hbl⟩ => ⟨_, he, f, Step.below hs hbl, ?_⟩)
 have hdat : StrRel (Nat.add 75 pn) (dataN k nn idx 32 dx pn px) ⟨((Shd.toS k nn dig idx pay).data Shd.sumL).toArray⟩ := by
   have h1 : Shd.toS k nn dig idx pay = ⟨k, nn, idx, bytesN 32 dx, bytesN pn px⟩ := by
     unfold Shd.toS
     rw [bytesN_eq hdig, bytesN_eq hpay]
   constructor
   · show ((Shd.toS k nn dig idx pay).data Shd.sumL).length = _
     rw [Shd.data_len (D := Shd.sumL) Shd.sumL_len _ hdl]
     show 75 + pay.data.toList.length = _
     rw [hpl]; rfl
   · show packL ((Shd.toS k nn dig idx pay).data Shd.sumL) = _
     rw [h1]; rfl
 exact ⟨_, rfl, _, _, rfl, ⟨_, rfl, _, _, rfl, ⟨nm, rfl, hnm⟩, _, _, rfl, ⟨_, rfl, hdat⟩, rfl⟩, _, _, rfl, rfl, rfl⟩
theorem makeOF_ok {W : World} {G : Nat} {C : Cfg Unit} {n : Nat} {F : Nat → Nat → Nat} (hF : F = sumN) (hC : ∀ W, CfgOk ⟨Tryz.prog, compC Tryz.prog G, G, W⟩ Unit C) (hno : C.orc.get 245 = none) :
   FuncOk ⟨Tryz.prog, compC Tryz.prog G, G, W⟩ Unit 214 (makeOF F (fcallF C (fexec C n)) G) := by
 rw [makeOF_eq hF]
 exact make_ok hC hno
end Abs
end Go.Proofs.YtfkchheildfkpaaGreatDoor.Refl
