/-
 The walks of the document's package strongboxref06: Make, Read. The walks of the document's package strongboxref06: Read. The law HealthWhole tells true, whatever it is handed.
-/
import Derived.Test.YtnbkhdbligjifaaGreatDoorRef06
import Derived.Test.YtnbkhdbligjifaaGreatDoorHltY
set_option linter.unusedVariables false
set_option linter.unusedSimpArgs false
set_option maxRecDepth 100000
set_option maxHeartbeats 40000000
namespace Go.Proofs.YtnbkhdbligjifaaGreatDoor
open Go.RowKit
namespace R6
open Shd
theorem make_any (K N idx : Int) (dig pay : ByteArray) (hi : I64 idx) (w : World) :
 Calls Tryz.prog 92 #[.agg #[.int .i64 K, .int .i64 N, .string dig, .int .i64 idx, .string pay]] w fun e w' => MakeEnd (toS K N dig idx pay) e ∧ Below w.heap.size w w' := by
 have hdl : dig.data.toList.length = dig.size := by simp
 have hpl : pay.data.toList.length = pay.size := by simp
 go_enter Tryz.func92, Tryz.ntmps92
 go_wp2_with fail
 have hbx : Blk ((w.alloc (.cells #[.int .i64 K, .int .i64 N, .string dig, .int .i64 idx, .string pay] 105)).alloc (.cells #[.string ⟨#[]⟩, .string ⟨#[]⟩] 45)) w.heap.size 105 (shardC K N dig idx pay) := (Blk.new w _ _).alloc _
 have hrs : Blk ((w.alloc (.cells #[.int .i64 K, .int .i64 N, .string dig, .int .i64 idx, .string pay] 105)).alloc (.cells #[.string ⟨#[]⟩, .string ⟨#[]⟩] 45)) (w.heap.size + 1) 45 #[.string ⟨#[]⟩, .string ⟨#[]⟩] := by
  have h := Blk.new (w.alloc (.cells #[.int .i64 K, .int .i64 N, .string dig, .int .i64 idx, .string pay] 105)) 45 #[.string ⟨#[]⟩, .string ⟨#[]⟩]
  simpa using h
 have hb2 : Below w.heap.size w ((w.alloc (.cells #[.int .i64 K, .int .i64 N, .string dig, .int .i64 idx, .string pay] 105)).alloc (.cells #[.string ⟨#[]⟩, .string ⟨#[]⟩] 45)) := ((Below.refl _ _).alloc (Nat.le_refl _) _).alloc (by simp) _
 obtain ⟨n0, hn0⟩ : ∃ n, n = w.heap.size := ⟨_, rfl⟩
 rw [← hn0] at hbx hrs hb2 ⊢
 have HN0 := Lib.hid hn0
 clear hn0
 generalize (w.alloc (.cells #[.int .i64 K, .int .i64 N, .string dig, .int .i64 idx, .string pay] 105)).alloc (.cells #[.string ⟨#[]⟩, .string ⟨#[]⟩] 45) = w2 at *
 refine (code_any K N w2).mono ?_
 rintro e w3 ⟨rfl, hb3⟩
 have hbx3 := hbx.below hb3 hbx.lt
 have hrs3 := hrs.below hb3 hrs.lt
 have hb03 : Below n0 w w3 := hb2.trans (hb3.mono (Nat.le_of_lt hbx.lt))
 clear hbx hrs hb2 hb3
 have c0 : w3.cell? ⟨n0, 0, none⟩ = some (.int .i64 K) := hbx3.cell 0
 have c1 : w3.cell? ⟨n0, 1, none⟩ = some (.int .i64 N) := hbx3.cell 1
 have c2 : w3.cell? ⟨n0, 2, none⟩ = some (.string dig) := hbx3.cell 2
 have c3 : w3.cell? ⟨n0, 3, none⟩ = some (.int .i64 idx) := hbx3.cell 3
 have c4 : w3.cell? ⟨n0, 4, none⟩ = some (.string pay) := hbx3.cell 4
 have r0 : w3.cell? ⟨n0 + 1, 0, none⟩ = some (.string ⟨#[]⟩) := hrs3.cell 0
 have r1 : w3.cell? ⟨n0 + 1, 1, none⟩ = some (.string ⟨#[]⟩) := hrs3.cell 1
 have f0 := hrs3.frozen 0
 have f1 := hrs3.frozen 1
 have HBX := Lib.hid hbx3
 have HRS := Lib.hid hrs3
 clear hbx3 hrs3
 cases hcode : codeB K N with
 | false =>
   have HC := Lib.hid hcode
   clear hcode
   have hno : ¬ (toS K N dig idx pay).May := fun h => by
    have := (codeB_iff K N).2 ⟨h.1, h.2.1, h.2.2.1⟩
    rw [HC.out] at this; cases this
   have HNO := Lib.hid hno
   clear hno
   go_wp2_with fail
   have hr := set_two HRS.out (.string ⟨#[]⟩) (.string ⟨#[]⟩)
   have hb4 := below_two hb03 (.string ⟨#[]⟩) (.string ⟨#[]⟩)
   generalize (w3.setCell ⟨n0 + 1, 0, none⟩ (.string ⟨#[]⟩)).setCell ⟨n0 + 1, 1, none⟩ (.string ⟨#[]⟩) = w4 at *
   have q0 : w4.cell? ⟨n0 + 1, 0, none⟩ = some (.string ⟨#[]⟩) := hr.cell 0
   have q1 : w4.cell? ⟨n0 + 1, 1, none⟩ = some (.string ⟨#[]⟩) := hr.cell 1
   exact bodyPost_ret (v := .tuple #[objV [] [], .int .i64 1]) (by simp [results, Tryz.results92, go_sem, objV, q0, q1]) rfl ⟨.inr (.inr ⟨HNO.out, rfl⟩), by have hh := HN0.out; rw [← hh]; exact hb4⟩
 | true =>
   have HC := Lib.hid hcode
   have hck := (codeB_iff K N).1 hcode
   clear hcode
   by_cases hbad : ¬ (dig.size = 32 ∧ 0 ≤ idx ∧ idx < N)
   ·have hno : ¬ (toS K N dig idx pay).May := fun h => by
     refine hbad ⟨?_, h.2.2.2.2.1, h.2.2.2.2.2⟩
     have : dig.data.toList.length = 32 := h.2.2.2.1
     omega
    have HNO := Lib.hid hno
    clear hno
    by_cases h32 : dig.size = 32
    ·by_cases hi0 : idx < 0
     ·clear hbad
      go_wp2_with fail
      have hr := set_two HRS.out (.string ⟨#[]⟩) (.string ⟨#[]⟩)
      have hb4 := below_two hb03 (.string ⟨#[]⟩) (.string ⟨#[]⟩)
      generalize (w3.setCell ⟨n0 + 1, 0, none⟩ (.string ⟨#[]⟩)).setCell ⟨n0 + 1, 1, none⟩ (.string ⟨#[]⟩) = w4 at *
      have q0 : w4.cell? ⟨n0 + 1, 0, none⟩ = some (.string ⟨#[]⟩) := hr.cell 0
      have q1 : w4.cell? ⟨n0 + 1, 1, none⟩ = some (.string ⟨#[]⟩) := hr.cell 1
      exact bodyPost_ret (v := .tuple #[objV [] [], .int .i64 1]) (by simp [results, Tryz.results92, go_sem, objV, q0, q1]) rfl ⟨.inr (.inr ⟨HNO.out, rfl⟩), by have hh := HN0.out; rw [← hh]; exact hb4⟩
     ·have hiN : N ≤ idx := by omega
      clear hbad
      go_wp2_with fail
      have hr := set_two HRS.out (.string ⟨#[]⟩) (.string ⟨#[]⟩)
      have hb4 := below_two hb03 (.string ⟨#[]⟩) (.string ⟨#[]⟩)
      generalize (w3.setCell ⟨n0 + 1, 0, none⟩ (.string ⟨#[]⟩)).setCell ⟨n0 + 1, 1, none⟩ (.string ⟨#[]⟩) = w4 at *
      have q0 : w4.cell? ⟨n0 + 1, 0, none⟩ = some (.string ⟨#[]⟩) := hr.cell 0
      have q1 : w4.cell? ⟨n0 + 1, 1, none⟩ = some (.string ⟨#[]⟩) := hr.cell 1
      exact bodyPost_ret (v := .tuple #[objV [] [], .int .i64 1]) (by simp [results, Tryz.results92, go_sem, objV, q0, q1]) rfl ⟨.inr (.inr ⟨HNO.out, rfl⟩), by have hh := HN0.out; rw [← hh]; exact hb4⟩
    ·have h32' : ((dig.size : Int) != 32) = true := by simp; omega
     clear hbad
     go_wp2_with fail
     have hr := set_two HRS.out (.string ⟨#[]⟩) (.string ⟨#[]⟩)
     have hb4 := below_two hb03 (.string ⟨#[]⟩) (.string ⟨#[]⟩)
     generalize (w3.setCell ⟨n0 + 1, 0, none⟩ (.string ⟨#[]⟩)).setCell ⟨n0 + 1, 1, none⟩ (.string ⟨#[]⟩) = w4 at *
     have q0 : w4.cell? ⟨n0 + 1, 0, none⟩ = some (.string ⟨#[]⟩) := hr.cell 0
     have q1 : w4.cell? ⟨n0 + 1, 1, none⟩ = some (.string ⟨#[]⟩) := hr.cell 1
     exact bodyPost_ret (v := .tuple #[objV [] [], .int .i64 1]) (by simp [results, Tryz.results92, go_sem, objV, q0, q1]) rfl ⟨.inr (.inr ⟨HNO.out, rfl⟩), by have hh := HN0.out; rw [← hh]; exact hb4⟩
   ·have hok : dig.size = 32 ∧ 0 ≤ idx ∧ idx < N := Classical.not_not.1 hbad
    obtain ⟨h32, hi0, hiN⟩ := hok
    clear hbad
    have hmay : (toS K N dig idx pay).May := ⟨hck.1, hck.2.1, hck.2.2, by show dig.data.toList.length = 32; omega, hi0, hiN⟩
    have HMAY := Lib.hid hmay
    clear hmay
    by_cases hbig : 65461 < pay.size
    ·have hd : (65461 : Int) < (pay.size : Int) := by omega
     go_wp2_with fail
     have hr := set_two HRS.out (.string ⟨#[]⟩) (.string ⟨#[]⟩)
     have hb4 := below_two hb03 (.string ⟨#[]⟩) (.string ⟨#[]⟩)
     generalize (w3.setCell ⟨n0 + 1, 0, none⟩ (.string ⟨#[]⟩)).setCell ⟨n0 + 1, 1, none⟩ (.string ⟨#[]⟩) = w4 at *
     have q0 : w4.cell? ⟨n0 + 1, 0, none⟩ = some (.string ⟨#[]⟩) := hr.cell 0
     have q1 : w4.cell? ⟨n0 + 1, 1, none⟩ = some (.string ⟨#[]⟩) := hr.cell 1
     exact bodyPost_ret (v := .tuple #[objV [] [], .int .i64 40]) (by simp [results, Tryz.results92, go_sem, objV, q0, q1]) rfl ⟨.inr (.inl ⟨HMAY.out, by show 65461 < pay.data.toList.length; omega, rfl⟩), by have hh := HN0.out; rw [← hh]; exact hb4⟩
    ·have hd : ¬ ((65461 : Int) < (pay.size : Int)) := by omega
     obtain ⟨hk1, hk2, hk3⟩ := hck
     have hz : (0 : Int) ≤ (pay.size : Int) / 65536 ∧ (pay.size : Int) / 65536 < 256 := by omega
     have hcells : #[Value.int IntKind.u8 K, Value.int IntKind.u8 N, Value.int IntKind.u8 idx, Value.int IntKind.u8 0, Value.int IntKind.u8 ((pay.size : Int) / 65536), Value.int IntKind.u8 ((pay.size : Int) / 256 % 256), Value.int IntKind.u8 ((pay.size : Int) % 256)] = nums (binL K N idx (pay.size : Int)) := by
      unfold nums binL
      simp only [List.map_cons, List.map_nil, by8_toNat]
      rw [show K % 256 = K by omega, show N % 256 = N by omega, show idx % 256 = idx by omega, show (pay.size : Int) / 16777216 % 256 = 0 by omega, show (pay.size : Int) / 65536 % 256 = (pay.size : Int) / 65536 by omega]
     obtain ⟨BS, hBS⟩ : ∃ B : ByteArray, B = ⟨(binL K N idx (pay.size : Int)).toArray⟩ := ⟨_, rfl⟩
     have hcv : (convert 136 9 (.slice (some ⟨w3.heap.size, 0, none⟩) 7 7)).run Tryz.prog (w3.alloc (.cells #[Value.int IntKind.u8 K, Value.int IntKind.u8 N, Value.int IntKind.u8 idx, Value.int IntKind.u8 0, Value.int IntKind.u8 ((pay.size : Int) / 65536), Value.int IntKind.u8 ((pay.size : Int) / 256 % 256), Value.int IntKind.u8 ((pay.size : Int) % 256)] 5)) =
      .ok (.string BS) (w3.alloc (.cells #[Value.int IntKind.u8 K, Value.int IntKind.u8 N, Value.int IntKind.u8 idx, Value.int IntKind.u8 0, Value.int IntKind.u8 ((pay.size : Int) / 65536), Value.int IntKind.u8 ((pay.size : Int) / 256 % 256), Value.int IntKind.u8 ((pay.size : Int) % 256)] 5)) := by
      rw [hcells, hBS]
      exact run_bin (Blk.new w3 _ _)
     have hBl : BS.size = 7 := by rw [hBS]; rfl
     have hBD : BS.data.toList = binL K N idx (pay.size : Int) := by rw [hBS]
     have hbody : ((⟨#[115, 104, 100, 49]⟩ : ByteArray) ++ BS ++ dig ++ pay).data.toList = (toS K N dig idx pay).body := by
      simp only [ByteArray.data_append, Array.toList_append, hBD]
      unfold Shard.body toS
      rw [hpl, List.append_assoc, List.append_assoc]; rfl
     have h4 : (⟨#[115, 104, 100, 49]⟩ : ByteArray).size = 4 := rfl
     have hsz : ((⟨#[115, 104, 100, 49]⟩ : ByteArray) ++ BS ++ dig ++ pay).size = 43 + pay.size := by simp only [ByteArray.size_append, hBl, h32, h4]
     have hSum := fun W => R1.sum_any ((⟨#[115, 104, 100, 49]⟩ : ByteArray) ++ BS ++ dig ++ pay) (by rw [hsz]; omega) W
     rw [hbody] at hSum
     have HSUM := Lib.hid hSum
     have HBODY := Lib.hid hbody
     have HSZ := Lib.hid hsz
     have hsl : (sumL (toS K N dig idx pay).body).length = 32 := sumL_len _
     have hdata : (toS K N dig idx pay).data sumL = (toS K N dig idx pay).body ++ sumL (toS K N dig idx pay).body := rfl
     have HDATA := Lib.hid hdata
     have HNM := Lib.hid (fun W => name_any dig (by omega) idx hi W)
     generalize sumL (toS K N dig idx pay).body = M at *
     have h1s : ((⟨#[115, 104, 100, 49]⟩ : ByteArray) ++ BS).size = 11 := by simp only [ByteArray.size_append, hBl, h4]
     have h2s : ((⟨#[115, 104, 100, 49]⟩ : ByteArray) ++ BS ++ dig).size = 43 := by simp only [ByteArray.size_append, hBl, h32, h4]
     clear hSum hbody hsz hBD hBS hcells hdata
     have hx3 : Stab.Ext w3 (w3.alloc (.cells #[Value.int IntKind.u8 K, Value.int IntKind.u8 N, Value.int IntKind.u8 idx, Value.int IntKind.u8 0, Value.int IntKind.u8 ((pay.size : Int) / 65536), Value.int IntKind.u8 ((pay.size : Int) / 256 % 256), Value.int IntKind.u8 ((pay.size : Int) % 256)] 5)) := Stab.Ext.alloc _ _
     have HX3 := Lib.hid hx3
     have hn3 : n0 + 1 < w3.heap.size := HRS.out.lt
     have cA2 : ∀ o, (w3.alloc o).cell? ⟨n0, 2, none⟩ = some (.string dig) := fun o => (HBX.out.alloc o).cell 2
     have cA3 : ∀ o, (w3.alloc o).cell? ⟨n0, 3, none⟩ = some (.int .i64 idx) := fun o => (HBX.out.alloc o).cell 3
     have cA4 : ∀ o, (w3.alloc o).cell? ⟨n0, 4, none⟩ = some (.string pay) := fun o => (HBX.out.alloc o).cell 4
     clear hx3
     go_wp2_with (first
      | (go_at_call 130; ((with_reducible refine (HNM.out _).mono ?_); rintro e w4 ⟨rfl, hb4⟩; have hrs4 := (HRS.out.below HX3.out HRS.out.lt).below hb4 (HRS.out.below HX3.out HRS.out.lt).lt; have hb04 := (hb03.trans (Below.mono HX3.out (Nat.le_of_lt HBX.out.lt))).trans (Below.mono hb4 (Nat.le_of_lt (HBX.out.below HX3.out HBX.out.lt).lt)); have hn4 := Nat.lt_of_lt_of_le (HBX.out.below HX3.out HBX.out.lt).lt hb4.size))
      | (go_at_call 131; ((with_reducible refine (HSUM.out _).mono ?_); rintro e w5 ⟨rfl, hb5⟩; have hrs5 := hrs4.below hb5 hrs4.lt; have s0 : w5.cell? ⟨n0 + 1, 0, none⟩ = some (.string ⟨#[]⟩) := hrs5.cell 0; have s1 : w5.cell? ⟨n0 + 1, 1, none⟩ = some (.string ⟨#[]⟩) := hrs5.cell 1; have g0 := hrs5.frozen 0; have g1 := hrs5.frozen 1; have hb05 := hb04.trans (Below.mono hb5 (Nat.le_of_lt hn4)); have HRS5 := Lib.hid hrs5; clear hrs5 hrs4)))
     have hr := set_two HRS5.out (.string ⟨(nameL dig.data.toList idx).toArray⟩) (.string ((⟨#[115, 104, 100, 49]⟩ : ByteArray) ++ BS ++ dig ++ pay ++ ⟨M.toArray⟩))
     have hb6 := below_two hb05 (.string ⟨(nameL dig.data.toList idx).toArray⟩) (.string ((⟨#[115, 104, 100, 49]⟩ : ByteArray) ++ BS ++ dig ++ pay ++ ⟨M.toArray⟩))
     generalize (w5.setCell ⟨n0 + 1, 0, none⟩ (.string ⟨(nameL dig.data.toList idx).toArray⟩)).setCell ⟨n0 + 1, 1, none⟩ (.string ((⟨#[115, 104, 100, 49]⟩ : ByteArray) ++ BS ++ dig ++ pay ++ ⟨M.toArray⟩)) = w6 at *
     have q0 : w6.cell? ⟨n0 + 1, 0, none⟩ = some (.string ⟨(nameL dig.data.toList idx).toArray⟩) := hr.cell 0
     have q1 : w6.cell? ⟨n0 + 1, 1, none⟩ = some (.string ((⟨#[115, 104, 100, 49]⟩ : ByteArray) ++ BS ++ dig ++ pay ++ ⟨M.toArray⟩)) := hr.cell 1
     have hfin : (⟨#[115, 104, 100, 49]⟩ : ByteArray) ++ BS ++ dig ++ pay ++ ⟨M.toArray⟩ = ⟨((toS K N dig idx pay).data sumL).toArray⟩ := by
      apply ByteArray.ext
      apply Array.toList_inj.1
      rw [ByteArray.data_append, Array.toList_append, HBODY.out, HDATA.out]
     refine bodyPost_ret (v := .tuple #[objV (nameL dig.data.toList idx) ((toS K N dig idx pay).data sumL), .int .i64 0]) (by rw [hfin] at q1; simp only [results, Tryz.results92, go_sem, objV]; simp [go_sem, q0, q1]) rfl ⟨.inl ⟨HMAY.out, ?_, rfl⟩, by have hh := HN0.out; rw [← hh]; exact hb6⟩
     show pay.data.toList.length ≤ 65461; omega
end R6
end Go.Proofs.YtnbkhdbligjifaaGreatDoor
namespace Go.Proofs.YtnbkhdbligjifaaGreatDoor
open Go.RowKit
namespace R6
open Shd
def Dat (n0 : Nat) (data : ByteArray) (W : World) : Prop := W.cell? ⟨n0, 1, none⟩ = some (.string data)
theorem Dat.ext {n0 : Nat} {data : ByteArray} {W W' : World} (h : Dat n0 data W) (hE : Stab.Ext W W') : Dat n0 data W' := hE.cell h
theorem getD_data (s : ByteArray) (i : Nat) (h : i < s.size) : s.data.toList.getD i 0 = s[i] := by
 rw [List.getD, List.getElem?_eq_getElem (by simpa using h), Option.getD_some]; rfl
theorem set_five {W : World} {g : Nat} {t : TypeId} {a b c d e : Value} (h : Blk W g t #[a, b, c, d, e]) (v x y z u : Value) :
 Blk (((((W.setCell ⟨g, 0, none⟩ v).setCell ⟨g, 1, none⟩ x).setCell ⟨g, 2, none⟩ y).setCell ⟨g, 3, none⟩ z).setCell ⟨g, 4, none⟩ u) g t #[v, x, y, z, u] := ((((h.set_ 0 v).set_ 1 x).set_ 2 y).set_ 3 z).set_ 4 u
theorem read_any (name data : ByteArray) (hds : data.size ≤ 1000000) (w : World) :
 Calls Tryz.prog 54 #[.agg #[.string name, .string data]] w fun e w' => ReadEnd name.data.toList data.data.toList e ∧ Below w.heap.size w w' := by
 have hdl : data.data.toList.length = data.size := by simp
 by_cases h75 : 75 ≤ data.size
 ·have t0 : ¬ ((data.size : Int) < 75) := by omega
  have HL := Lib.hid hdl
  clear hdl
  go_enter Tryz.func54, Tryz.ntmps54
  go_wp2_with fail
  have hbx : Blk ((w.alloc (.cells #[.string name, .string data] 45)).alloc (.cells zeroC 105)) w.heap.size 45 #[.string name, .string data] := (Blk.new w _ _).alloc _
  have hrs : Blk ((w.alloc (.cells #[.string name, .string data] 45)).alloc (.cells zeroC 105)) (w.heap.size + 1) 105 zeroC := by
   have h := Blk.new (w.alloc (.cells #[.string name, .string data] 45)) 105 zeroC
   simpa using h
  have hb2 : Below w.heap.size w ((w.alloc (.cells #[.string name, .string data] 45)).alloc (.cells zeroC 105)) := ((Below.refl _ _).alloc (Nat.le_refl _) _).alloc (by simp) _
  unfold zeroC at hbx hrs hb2
  obtain ⟨n0, hn0⟩ : ∃ n, n = w.heap.size := ⟨_, rfl⟩
  rw [← hn0] at hbx hrs hb2 ⊢
  have HN0 := Lib.hid hn0
  clear hn0
  generalize (w.alloc (.cells #[.string name, .string data] 45)).alloc (.cells #[.int .i64 0, .int .i64 0, .string ⟨#[]⟩, .int .i64 0, .string ⟨#[]⟩] 105) = w2 at *
  have hdat : Dat n0 data w2 := hbx.cell 1
  have HBX := Lib.hid hbx
  have HRS := Lib.hid hrs
  have HB2 := Lib.hid hb2
  have HD := Lib.hid hdat
  obtain ⟨hl4, hl5, hl6⟩ : 4 < data.size ∧ 5 < data.size ∧ 6 < data.size := by omega
  have i4 : (4 : Int) < (data.size : Int) := by omega
  have i5 : (5 : Int) < (data.size : Int) := by omega
  have i6 : (6 : Int) < (data.size : Int) := by omega
  have i43 : (43 : Int) ≤ (data.size : Int) := by omega
  have q32 : IntKind.i64.wrap ((data.size : Int) - 32) = (data.size : Int) - 32 := by rw [IntKind.wrap_i64]; omega
  have q33 : ((data.size : Int) - 32).toNat = data.size - 32 := by omega
  have i32 : (43 : Int) ≤ (data.size : Int) - 32 := by omega
  have i33 : (data.size : Int) - 32 ≤ (data.size : Int) := by omega
  clear hbx hrs hb2 hdat
  have hx11 : (data.extract 11 43).data.toList = (data.data.toList.drop 11).take 32 := by rw [Lib.extract_data]
  have hx43 : (data.extract 43 (data.size - 32)).data.toList = (data.data.toList.drop 43).take (data.data.toList.length - 75) := by
   rw [Lib.extract_data, HL.out, show (data.size - 32) - 43 = data.size - 75 by omega]
  have hg4 : data.data.toList.getD 4 0 = data[4] := getD_data data 4 hl4
  have hg5 : data.data.toList.getD 5 0 = data[5] := getD_data data 5 hl5
  have hg6 : data.data.toList.getD 6 0 = data[6] := getD_data data 6 hl6
  have hrd : readS data.data.toList = toS (data[4].toNat : Int) (data[5].toNat : Int) (data.extract 11 43) (data[6].toNat : Int) (data.extract 43 (data.size - 32)) := by
   unfold readS toS
   rw [hx11, hx43, hg4, hg5, hg6]
  have b4 := data[4].toNat_lt
  have b5 := data[5].toNat_lt
  have b6 := data[6].toNat_lt
  have q4 : IntKind.i64.wrap (data[4].toNat : Int) = (data[4].toNat : Int) := by rw [IntKind.wrap_i64]; omega
  have q5 : IntKind.i64.wrap (data[5].toNat : Int) = (data[5].toNat : Int) := by rw [IntKind.wrap_i64]; omega
  have q6 : IntKind.i64.wrap (data[6].toNat : Int) = (data[6].toNat : Int) := by rw [IntKind.wrap_i64]; omega
  have hM := make_any (data[4].toNat : Int) (data[5].toNat : Int) (data[6].toNat : Int) (data.extract 11 43) (data.extract 43 (data.size - 32)) ⟨by omega, by omega⟩
  rw [← hrd] at hM
  have hsh : shV (readS data.data.toList) = .agg #[.int .i64 (data[4].toNat : Int), .int .i64 (data[5].toNat : Int), .string (data.extract 11 43), .int .i64 (data[6].toNat : Int), .string (data.extract 43 (data.size - 32))] := by
   rw [hrd]; unfold toS shV; simp only [mk_toList]
  have HM := Lib.hid hM
  have HSH := Lib.hid hsh
  clear hM hsh hrd hx11 hx43 hg4 hg5 hg6
  refine Stab.rg 25 [[], [0], [1], [2], [], [4], [5], [6], [3, 7], [], [9], [10], [], [12], [13], [14], [], [16], [], [18], [19], [20], [17, 21], [8, 11, 15, 22], []] [23, 24] (Dat n0 data) [Stab.eqv ?_, Stab.eqv ?_, Stab.eqv ?_, Stab.eqv ?_, Stab.eqv ?_, Stab.eqv ?_, Stab.eqv ?_, Stab.eqv ?_, Stab.eqv ?_, Stab.eqv ?_, Stab.eqv ?_, Stab.eqv ?_, Stab.eqv ?_, Stab.eqv ?_, Stab.eqv ?_, Stab.eqv ?_, Stab.eqv ?_, Stab.eqv ?_, Stab.eqv ?_, Stab.eqv ?_, Stab.eqv ?_, Stab.eqv ?_, Stab.eqv ?_, Stab.eqv ?_, Stab.newptr w2.heap.size 105 #[.int .i64 0, .int .i64 0, .string ⟨#[]⟩, .int .i64 0, .string ⟨#[]⟩]] HD.out (fun _ _ h hE => h.ext hE) ?goals3 ?last3
  case goals3 =>
   simp only [List.take_succ_cons, List.take_zero]
   iterate 23
    refine Stab.gp (fun us w _ hE hS hp hK => ?_) ?_
    ·((try have e0 : _ = _ := hp.1); (try have e1 : _ = _ := hp.2.1); (try have e2 : _ = _ := hp.2.2.1); unfold Dat at hS; go_simp; exact hK _ _ (by show _ = _; with_reducible rfl) (Stab.Ext.refl _))
   refine Stab.Goals.plain rfl rfl (fun us w K hE hS hp hK => ?_) ?_
   ·obtain ⟨h8, h11, h15, h22, -⟩ := hp
    replace h8 : us 8 = _ := h8
    replace h11 : us 11 = _ := h11
    replace h15 : us 15 = _ := h15
    replace h22 : us 22 = _ := h22
    go_simp
    refine hK _ _ ?_ (Stab.Ext.refl _)
    show _ = _
    with_reducible rfl
   refine Stab.Goals.plain rfl rfl (fun us w K hE hS hp hK => ?_) ?_
   ·go_simp
    exact hK _ _ ⟨_, rfl, hE.size, Blk.new _ _ _⟩ (Stab.Ext.alloc _ _)
   exact Stab.Goals.nil
  case last3 =>
   intro us w' hE hS hp
   obtain ⟨h23, ⟨g, e24, hg, hbk⟩, -⟩ := hp
   replace h23 : us 23 = _ := h23
   simp only [List.drop_succ_cons, List.drop_zero, h23, e24]
   have z0 : w'.cell? ⟨g, 0, none⟩ = some (.int .i64 0) := hbk.cell 0
   have z1 : w'.cell? ⟨g, 1, none⟩ = some (.int .i64 0) := hbk.cell 1
   have z2 : w'.cell? ⟨g, 2, none⟩ = some (.string ⟨#[]⟩) := hbk.cell 2
   have z3 : w'.cell? ⟨g, 3, none⟩ = some (.int .i64 0) := hbk.cell 3
   have z4 : w'.cell? ⟨g, 4, none⟩ = some (.string ⟨#[]⟩) := hbk.cell 4
   have y0 := hbk.frozen 0
   have y1 := hbk.frozen 1
   have y2 := hbk.frozen 2
   have y3 := hbk.frozen 3
   have y4 := hbk.frozen 4
   have HBK := Lib.hid hbk
   have HX := Lib.hid ((Stab.Ext.drew w2).trans hE)
   clear h23 e24 hbk hS hE
   go_wp2_with fail
   have hbk := set_five HBK.out (.int .i64 (data[4].toNat : Int)) (.int .i64 (data[5].toNat : Int)) (.string (data.extract 11 43)) (.int .i64 (data[6].toNat : Int)) (.string (data.extract 43 (data.size - 32)))
   have hgn : n0 + 1 < g := by have := HRS.out.lt; omega
   have hbx3 : Blk (((((w'.setCell ⟨g, 0, none⟩ (.int .i64 (data[4].toNat : Int))).setCell ⟨g, 1, none⟩ (.int .i64 (data[5].toNat : Int))).setCell ⟨g, 2, none⟩ (.string (data.extract 11 43))).setCell ⟨g, 3, none⟩ (.int .i64 (data[6].toNat : Int))).setCell ⟨g, 4, none⟩ (.string (data.extract 43 (data.size - 32)))) n0 45 #[.string name, .string data] :=
    (((((HBX.out.below HX.out HBX.out.lt).far (by simp; omega) _).far (by simp; omega) _).far (by simp; omega) _).far (by simp; omega) _).far (by simp; omega) _
   have hrs3 : Blk (((((w'.setCell ⟨g, 0, none⟩ (.int .i64 (data[4].toNat : Int))).setCell ⟨g, 1, none⟩ (.int .i64 (data[5].toNat : Int))).setCell ⟨g, 2, none⟩ (.string (data.extract 11 43))).setCell ⟨g, 3, none⟩ (.int .i64 (data[6].toNat : Int))).setCell ⟨g, 4, none⟩ (.string (data.extract 43 (data.size - 32)))) (n0 + 1) 105 #[.int .i64 0, .int .i64 0, .string ⟨#[]⟩, .int .i64 0, .string ⟨#[]⟩] :=
    (((((HRS.out.below HX.out HRS.out.lt).far (by simp; omega) _).far (by simp; omega) _).far (by simp; omega) _).far (by simp; omega) _).far (by simp; omega) _
   have hb3 : Below n0 w (((((w'.setCell ⟨g, 0, none⟩ (.int .i64 (data[4].toNat : Int))).setCell ⟨g, 1, none⟩ (.int .i64 (data[5].toNat : Int))).setCell ⟨g, 2, none⟩ (.string (data.extract 11 43))).setCell ⟨g, 3, none⟩ (.int .i64 (data[6].toNat : Int))).setCell ⟨g, 4, none⟩ (.string (data.extract 43 (data.size - 32)))) :=
    (((((HB2.out.trans (Below.mono HX.out (Nat.le_of_lt HBX.out.lt))).setCell (by simp; omega) _).setCell (by simp; omega) _).setCell (by simp; omega) _).setCell (by simp; omega) _).setCell (by simp; omega) _
   generalize (((((w'.setCell ⟨g, 0, none⟩ (.int .i64 (data[4].toNat : Int))).setCell ⟨g, 1, none⟩ (.int .i64 (data[5].toNat : Int))).setCell ⟨g, 2, none⟩ (.string (data.extract 11 43))).setCell ⟨g, 3, none⟩ (.int .i64 (data[6].toNat : Int))).setCell ⟨g, 4, none⟩ (.string (data.extract 43 (data.size - 32)))) = w3 at *
   clear z0 z1 z2 z3 z4 y0 y1 y2 y3 y4 HBK HX
   refine (HM.out w3).mono ?_
   rintro e w4 ⟨hme, hb4⟩
   have hbk4 := hbk.below hb4 hbk.lt
   have hbx4 := hbx3.below hb4 hbx3.lt
   have hrs4 := hrs3.below hb4 hrs3.lt
   have hb04 : Below n0 w w4 := hb3.trans (hb4.mono (Nat.le_of_lt hbx3.lt))
   have HBK4 := Lib.hid hbk4
   have HBX4 := Lib.hid hbx4
   have HRS4 := Lib.hid hrs4
   have HB4 := Lib.hid hb04
   have l0 : n0 < w4.heap.size := hbx4.lt
   have l1 : n0 + 1 < w4.heap.size := hrs4.lt
   have l2 : g < w4.heap.size := hbk4.lt
   have p0 : w4.cell? ⟨n0 + 1, 0, none⟩ = some (.int .i64 0) := hrs4.cell 0
   have e0 : w4.frozen? ⟨n0 + 1, 0, none⟩ = false := hrs4.frozen 0
   have p1 : w4.cell? ⟨n0 + 1, 1, none⟩ = some (.int .i64 0) := hrs4.cell 1
   have e1 : w4.frozen? ⟨n0 + 1, 1, none⟩ = false := hrs4.frozen 1
   have p2 : w4.cell? ⟨n0 + 1, 2, none⟩ = some (.string ⟨#[]⟩) := hrs4.cell 2
   have e2 : w4.frozen? ⟨n0 + 1, 2, none⟩ = false := hrs4.frozen 2
   have p3 : w4.cell? ⟨n0 + 1, 3, none⟩ = some (.int .i64 0) := hrs4.cell 3
   have e3 : w4.frozen? ⟨n0 + 1, 3, none⟩ = false := hrs4.frozen 3
   have p4 : w4.cell? ⟨n0 + 1, 4, none⟩ = some (.string ⟨#[]⟩) := hrs4.cell 4
   have e4 : w4.frozen? ⟨n0 + 1, 4, none⟩ = false := hrs4.frozen 4
   have m0 : w4.cell? ⟨g, 0, none⟩ = some (.int .i64 (data[4].toNat : Int)) := hbk4.cell 0
   have m1 : w4.cell? ⟨g, 1, none⟩ = some (.int .i64 (data[5].toNat : Int)) := hbk4.cell 1
   have m2 : w4.cell? ⟨g, 2, none⟩ = some (.string (data.extract 11 43)) := hbk4.cell 2
   have m3 : w4.cell? ⟨g, 3, none⟩ = some (.int .i64 (data[6].toNat : Int)) := hbk4.cell 3
   have m4 : w4.cell? ⟨g, 4, none⟩ = some (.string (data.extract 43 (data.size - 32))) := hbk4.cell 4
   have n00 : w4.cell? ⟨n0, 0, none⟩ = some (.string name) := hbx4.cell 0
   have n01 : w4.cell? ⟨n0, 1, none⟩ = some (.string data) := hbx4.cell 1
   clear hbk hbx3 hrs3 hb3 hb4 hbk4 hbx4 hrs4 hb04
   have hdn : 75 ≤ data.data.toList.length := by rw [HL.out]; exact h75
   clear i4 i5 i6 i43 q32 q33 i32 i33 q4 q5 q6 b4 b5 b6 hg hgn hds
   rcases hme with ⟨hmay, hpl, rfl⟩ | ⟨hmay, hpl, rfl⟩ | ⟨hmay, rfl⟩
   ·by_cases hlk : Shd.Looks sumL name.data.toList data.data.toList
    ·obtain ⟨_, _, hda, hn⟩ := looks_sound hlk
     have HLK := Lib.hid hlk
     have t1 : (nameL (readS data.data.toList).dig (readS data.data.toList).idx == name.toList) = true := by rw [str_toList, ← hn]; simp
     have t2 : ((readS data.data.toList).data sumL == data.toList) = true := by rw [str_toList, ← hda]; simp
     clear hn hda hlk hmay hpl hdn
     generalize nameL (readS data.data.toList).dig (readS data.data.toList).idx = NM at *
     generalize (readS data.data.toList).data sumL = DA at *
     unfold objV
     go_wp2_with fail
     have hr := (set_five HRS4.out (.int .i64 (data[4].toNat : Int)) (.int .i64 (data[5].toNat : Int)) (.string (data.extract 11 43)) (.int .i64 (data[6].toNat : Int)) (.string (data.extract 43 (data.size - 32)))).alloc (.cells #[.string ⟨NM.toArray⟩, .string ⟨DA.toArray⟩] 45)
     have hb5 : Below n0 w ((((((w4.setCell ⟨n0 + 1, 0, none⟩ (.int .i64 (data[4].toNat : Int))).setCell ⟨n0 + 1, 1, none⟩ (.int .i64 (data[5].toNat : Int))).setCell ⟨n0 + 1, 2, none⟩ (.string (data.extract 11 43))).setCell ⟨n0 + 1, 3, none⟩ (.int .i64 (data[6].toNat : Int))).setCell ⟨n0 + 1, 4, none⟩ (.string (data.extract 43 (data.size - 32)))).alloc (.cells #[.string ⟨NM.toArray⟩, .string ⟨DA.toArray⟩] 45)) := (((((HB4.out.setCell (by simp) _).setCell (by simp) _).setCell (by simp) _).setCell (by simp) _).setCell (by simp) _).alloc (by simp; omega) _
     generalize ((((((w4.setCell ⟨n0 + 1, 0, none⟩ (.int .i64 (data[4].toNat : Int))).setCell ⟨n0 + 1, 1, none⟩ (.int .i64 (data[5].toNat : Int))).setCell ⟨n0 + 1, 2, none⟩ (.string (data.extract 11 43))).setCell ⟨n0 + 1, 3, none⟩ (.int .i64 (data[6].toNat : Int))).setCell ⟨n0 + 1, 4, none⟩ (.string (data.extract 43 (data.size - 32)))).alloc (.cells #[.string ⟨NM.toArray⟩, .string ⟨DA.toArray⟩] 45)) = w5 at *
     have q0 : w5.cell? ⟨n0 + 1, 0, none⟩ = some (.int .i64 (data[4].toNat : Int)) := hr.cell 0
     have q1 : w5.cell? ⟨n0 + 1, 1, none⟩ = some (.int .i64 (data[5].toNat : Int)) := hr.cell 1
     have q2 : w5.cell? ⟨n0 + 1, 2, none⟩ = some (.string (data.extract 11 43)) := hr.cell 2
     have q3 : w5.cell? ⟨n0 + 1, 3, none⟩ = some (.int .i64 (data[6].toNat : Int)) := hr.cell 3
     have q4 : w5.cell? ⟨n0 + 1, 4, none⟩ = some (.string (data.extract 43 (data.size - 32))) := hr.cell 4
     refine bodyPost_ret (v := .tuple #[.agg #[.int .i64 (data[4].toNat : Int), .int .i64 (data[5].toNat : Int), .string (data.extract 11 43), .int .i64 (data[6].toNat : Int), .string (data.extract 43 (data.size - 32))], .int .i64 0]) (by simp only [results, Tryz.results54, go_sem]; simp [go_sem, q0, q1, q2, q3, q4]) rfl ⟨.inl ⟨HLK.out, by rw [HSH.out]⟩, by have hh := HN0.out; rw [← hh]; exact hb5⟩
    ·have HLK := Lib.hid hlk
     have hne : nameL (readS data.data.toList).dig (readS data.data.toList).idx = name.data.toList → (readS data.data.toList).data sumL ≠ data.data.toList := fun hn hda => hlk (sound_looks sumL_len ⟨hmay, hpl, hda.symm, hn.symm⟩)
     by_cases hn : nameL (readS data.data.toList).dig (readS data.data.toList).idx = name.data.toList
     ·have hda := hne hn
      have t1 : (nameL (readS data.data.toList).dig (readS data.data.toList).idx == name.toList) = true := by rw [str_toList, hn]; simp
      have t2 : ((readS data.data.toList).data sumL == data.toList) = false := by rw [str_toList, beq_eq_false_iff_ne]; exact hda
      clear hn hda hne hlk hmay hpl hdn
      generalize nameL (readS data.data.toList).dig (readS data.data.toList).idx = NM at *
      generalize (readS data.data.toList).data sumL = DA at *
      unfold objV
      go_wp2_with fail
      have hr := (set_five HRS4.out (.int .i64 0) (.int .i64 0) (.string ⟨#[]⟩) (.int .i64 0) (.string ⟨#[]⟩)).alloc (.cells #[.string ⟨NM.toArray⟩, .string ⟨DA.toArray⟩] 45)
      have hb5 : Below n0 w ((((((w4.setCell ⟨n0 + 1, 0, none⟩ (.int .i64 0)).setCell ⟨n0 + 1, 1, none⟩ (.int .i64 0)).setCell ⟨n0 + 1, 2, none⟩ (.string ⟨#[]⟩)).setCell ⟨n0 + 1, 3, none⟩ (.int .i64 0)).setCell ⟨n0 + 1, 4, none⟩ (.string ⟨#[]⟩)).alloc (.cells #[.string ⟨NM.toArray⟩, .string ⟨DA.toArray⟩] 45)) := (((((HB4.out.setCell (by simp) _).setCell (by simp) _).setCell (by simp) _).setCell (by simp) _).setCell (by simp) _).alloc (by simp; omega) _
      generalize ((((((w4.setCell ⟨n0 + 1, 0, none⟩ (.int .i64 0)).setCell ⟨n0 + 1, 1, none⟩ (.int .i64 0)).setCell ⟨n0 + 1, 2, none⟩ (.string ⟨#[]⟩)).setCell ⟨n0 + 1, 3, none⟩ (.int .i64 0)).setCell ⟨n0 + 1, 4, none⟩ (.string ⟨#[]⟩)).alloc (.cells #[.string ⟨NM.toArray⟩, .string ⟨DA.toArray⟩] 45)) = w5 at *
      have q0 : w5.cell? ⟨n0 + 1, 0, none⟩ = some (.int .i64 0) := hr.cell 0
      have q1 : w5.cell? ⟨n0 + 1, 1, none⟩ = some (.int .i64 0) := hr.cell 1
      have q2 : w5.cell? ⟨n0 + 1, 2, none⟩ = some (.string ⟨#[]⟩) := hr.cell 2
      have q3 : w5.cell? ⟨n0 + 1, 3, none⟩ = some (.int .i64 0) := hr.cell 3
      have q4 : w5.cell? ⟨n0 + 1, 4, none⟩ = some (.string ⟨#[]⟩) := hr.cell 4
      refine bodyPost_ret (v := .tuple #[.agg #[.int .i64 0, .int .i64 0, .string ⟨#[]⟩, .int .i64 0, .string ⟨#[]⟩], .int .i64 4]) (by simp only [results, Tryz.results54, go_sem]; simp [go_sem, q0, q1, q2, q3, q4]) rfl ⟨.inr ⟨HLK.out, rfl⟩, by have hh := HN0.out; rw [← hh]; exact hb5⟩
     ·have t1 : (nameL (readS data.data.toList).dig (readS data.data.toList).idx == name.toList) = false := by rw [str_toList, beq_eq_false_iff_ne]; exact hn
      clear hn hne hlk hmay hpl hdn
      generalize nameL (readS data.data.toList).dig (readS data.data.toList).idx = NM at *
      generalize (readS data.data.toList).data sumL = DA at *
      unfold objV
      go_wp2_with fail
      have hr := (set_five HRS4.out (.int .i64 0) (.int .i64 0) (.string ⟨#[]⟩) (.int .i64 0) (.string ⟨#[]⟩)).alloc (.cells #[.string ⟨NM.toArray⟩, .string ⟨DA.toArray⟩] 45)
      have hb5 : Below n0 w ((((((w4.setCell ⟨n0 + 1, 0, none⟩ (.int .i64 0)).setCell ⟨n0 + 1, 1, none⟩ (.int .i64 0)).setCell ⟨n0 + 1, 2, none⟩ (.string ⟨#[]⟩)).setCell ⟨n0 + 1, 3, none⟩ (.int .i64 0)).setCell ⟨n0 + 1, 4, none⟩ (.string ⟨#[]⟩)).alloc (.cells #[.string ⟨NM.toArray⟩, .string ⟨DA.toArray⟩] 45)) := (((((HB4.out.setCell (by simp) _).setCell (by simp) _).setCell (by simp) _).setCell (by simp) _).setCell (by simp) _).alloc (by simp; omega) _
      generalize ((((((w4.setCell ⟨n0 + 1, 0, none⟩ (.int .i64 0)).setCell ⟨n0 + 1, 1, none⟩ (.int .i64 0)).setCell ⟨n0 + 1, 2, none⟩ (.string ⟨#[]⟩)).setCell ⟨n0 + 1, 3, none⟩ (.int .i64 0)).setCell ⟨n0 + 1, 4, none⟩ (.string ⟨#[]⟩)).alloc (.cells #[.string ⟨NM.toArray⟩, .string ⟨DA.toArray⟩] 45)) = w5 at *
      have q0 : w5.cell? ⟨n0 + 1, 0, none⟩ = some (.int .i64 0) := hr.cell 0
      have q1 : w5.cell? ⟨n0 + 1, 1, none⟩ = some (.int .i64 0) := hr.cell 1
      have q2 : w5.cell? ⟨n0 + 1, 2, none⟩ = some (.string ⟨#[]⟩) := hr.cell 2
      have q3 : w5.cell? ⟨n0 + 1, 3, none⟩ = some (.int .i64 0) := hr.cell 3
      have q4 : w5.cell? ⟨n0 + 1, 4, none⟩ = some (.string ⟨#[]⟩) := hr.cell 4
      refine bodyPost_ret (v := .tuple #[.agg #[.int .i64 0, .int .i64 0, .string ⟨#[]⟩, .int .i64 0, .string ⟨#[]⟩], .int .i64 4]) (by simp only [results, Tryz.results54, go_sem]; simp [go_sem, q0, q1, q2, q3, q4]) rfl ⟨.inr ⟨HLK.out, rfl⟩, by have hh := HN0.out; rw [← hh]; exact hb5⟩
   ·have HLK := Lib.hid (show ¬ Shd.Looks sumL name.data.toList data.data.toList from fun h => by have := (looks_sound h).2.1; omega)
    clear hmay hpl hdn
    unfold objV
    go_wp2_with fail
    have hr := (set_five HRS4.out (.int .i64 0) (.int .i64 0) (.string ⟨#[]⟩) (.int .i64 0) (.string ⟨#[]⟩)).alloc (.cells #[.string ⟨#[]⟩, .string ⟨#[]⟩] 45)
    have hb5 : Below n0 w ((((((w4.setCell ⟨n0 + 1, 0, none⟩ (.int .i64 0)).setCell ⟨n0 + 1, 1, none⟩ (.int .i64 0)).setCell ⟨n0 + 1, 2, none⟩ (.string ⟨#[]⟩)).setCell ⟨n0 + 1, 3, none⟩ (.int .i64 0)).setCell ⟨n0 + 1, 4, none⟩ (.string ⟨#[]⟩)).alloc (.cells #[.string ⟨#[]⟩, .string ⟨#[]⟩] 45)) := (((((HB4.out.setCell (by simp) _).setCell (by simp) _).setCell (by simp) _).setCell (by simp) _).setCell (by simp) _).alloc (by simp; omega) _
    generalize ((((((w4.setCell ⟨n0 + 1, 0, none⟩ (.int .i64 0)).setCell ⟨n0 + 1, 1, none⟩ (.int .i64 0)).setCell ⟨n0 + 1, 2, none⟩ (.string ⟨#[]⟩)).setCell ⟨n0 + 1, 3, none⟩ (.int .i64 0)).setCell ⟨n0 + 1, 4, none⟩ (.string ⟨#[]⟩)).alloc (.cells #[.string ⟨#[]⟩, .string ⟨#[]⟩] 45)) = w5 at *
    have q0 : w5.cell? ⟨n0 + 1, 0, none⟩ = some (.int .i64 0) := hr.cell 0
    have q1 : w5.cell? ⟨n0 + 1, 1, none⟩ = some (.int .i64 0) := hr.cell 1
    have q2 : w5.cell? ⟨n0 + 1, 2, none⟩ = some (.string ⟨#[]⟩) := hr.cell 2
    have q3 : w5.cell? ⟨n0 + 1, 3, none⟩ = some (.int .i64 0) := hr.cell 3
    have q4 : w5.cell? ⟨n0 + 1, 4, none⟩ = some (.string ⟨#[]⟩) := hr.cell 4
    refine bodyPost_ret (v := .tuple #[.agg #[.int .i64 0, .int .i64 0, .string ⟨#[]⟩, .int .i64 0, .string ⟨#[]⟩], .int .i64 4]) (by simp only [results, Tryz.results54, go_sem]; simp [go_sem, q0, q1, q2, q3, q4]) rfl ⟨.inr ⟨HLK.out, rfl⟩, by have hh := HN0.out; rw [← hh]; exact hb5⟩
   ·have HLK := Lib.hid (show ¬ Shd.Looks sumL name.data.toList data.data.toList from fun h => hmay (looks_sound h).1)
    clear hmay hdn
    unfold objV
    go_wp2_with fail
    have hr := (set_five HRS4.out (.int .i64 0) (.int .i64 0) (.string ⟨#[]⟩) (.int .i64 0) (.string ⟨#[]⟩)).alloc (.cells #[.string ⟨#[]⟩, .string ⟨#[]⟩] 45)
    have hb5 : Below n0 w ((((((w4.setCell ⟨n0 + 1, 0, none⟩ (.int .i64 0)).setCell ⟨n0 + 1, 1, none⟩ (.int .i64 0)).setCell ⟨n0 + 1, 2, none⟩ (.string ⟨#[]⟩)).setCell ⟨n0 + 1, 3, none⟩ (.int .i64 0)).setCell ⟨n0 + 1, 4, none⟩ (.string ⟨#[]⟩)).alloc (.cells #[.string ⟨#[]⟩, .string ⟨#[]⟩] 45)) := (((((HB4.out.setCell (by simp) _).setCell (by simp) _).setCell (by simp) _).setCell (by simp) _).setCell (by simp) _).alloc (by simp; omega) _
    generalize ((((((w4.setCell ⟨n0 + 1, 0, none⟩ (.int .i64 0)).setCell ⟨n0 + 1, 1, none⟩ (.int .i64 0)).setCell ⟨n0 + 1, 2, none⟩ (.string ⟨#[]⟩)).setCell ⟨n0 + 1, 3, none⟩ (.int .i64 0)).setCell ⟨n0 + 1, 4, none⟩ (.string ⟨#[]⟩)).alloc (.cells #[.string ⟨#[]⟩, .string ⟨#[]⟩] 45)) = w5 at *
    have q0 : w5.cell? ⟨n0 + 1, 0, none⟩ = some (.int .i64 0) := hr.cell 0
    have q1 : w5.cell? ⟨n0 + 1, 1, none⟩ = some (.int .i64 0) := hr.cell 1
    have q2 : w5.cell? ⟨n0 + 1, 2, none⟩ = some (.string ⟨#[]⟩) := hr.cell 2
    have q3 : w5.cell? ⟨n0 + 1, 3, none⟩ = some (.int .i64 0) := hr.cell 3
    have q4 : w5.cell? ⟨n0 + 1, 4, none⟩ = some (.string ⟨#[]⟩) := hr.cell 4
    refine bodyPost_ret (v := .tuple #[.agg #[.int .i64 0, .int .i64 0, .string ⟨#[]⟩, .int .i64 0, .string ⟨#[]⟩], .int .i64 4]) (by simp only [results, Tryz.results54, go_sem]; simp [go_sem, q0, q1, q2, q3, q4]) rfl ⟨.inr ⟨HLK.out, rfl⟩, by have hh := HN0.out; rw [← hh]; exact hb5⟩
 ·have t0 : ((data.size : Int) < 75) := by omega
  have HLK := Lib.hid (show ¬ Shd.Looks sumL name.data.toList data.data.toList from fun h => by have := h.1; omega)
  clear hdl
  go_enter Tryz.func54, Tryz.ntmps54
  go_wp2_with fail
  exact bodyPost_ret (v := .tuple #[.agg #[.int .i64 0, .int .i64 0, .string ⟨#[]⟩, .int .i64 0, .string ⟨#[]⟩], .int .i64 4]) (by simp [results, Tryz.results54, go_sem]) rfl ⟨.inr ⟨HLK.out, rfl⟩, ((Below.refl _ _).alloc (Nat.le_refl _) _).alloc (by simp) _⟩
end R6
end Go.Proofs.YtnbkhdbligjifaaGreatDoor
namespace Go.Proofs.YtnbkhdbligjifaaGreatDoor
open Go Go.RowKit Vm
namespace Hlt
theorem whole_true (a : Int) (ha : Shd.I64 a) (s : ByteArray) (v : Value) (l : List Flt) (vs : Value) (ls : List (List Int)) (W : World) (hv : Shd.Vars W) (hG : 6 ≤ W.heap.size) (hl : FaultsAt W v l)
 (hs : SurvAt [] W vs ls ∧ ∀ ks ∈ ls, ∀ x ∈ ks, -9223372036854775808 ≤ x ∧ x ≤ 9223372036854775807) :
 Calls Tryz.prog 5 #[.int .i64 a, .string s, v, vs] W fun e w' => e = .returned (.bool true) ∧ Below W.heap.size W w' :=
 whole_walk (fun nm da h W => R6.read_any nm da h W) a s v l vs ls W hl hs.1 hs.2 hv (Nat.le_trans (of_decide_eq_true (by kernel_rfl)) hG)
end Hlt
end Go.Proofs.YtnbkhdbligjifaaGreatDoor
