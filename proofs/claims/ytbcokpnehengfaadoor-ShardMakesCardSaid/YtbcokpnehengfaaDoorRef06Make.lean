/-
  The walks of the document's package strongboxref06: Make, Read.
-/
import Derived.Test.YtbcokpnehengfaaDoorRef06Parse
namespace Go.Proofs.YtbcokpnehengfaaDoor
open Go.RowKit
namespace R6
open Shd

set_option maxRecDepth 100000 in
set_option maxHeartbeats 4000000 in
theorem make_any (K N idx : Int) (dig pay : ByteArray) (hi : I64 idx) (w : World) :
    Calls Tryd.prog 10 #[.agg #[.int .i64 K, .int .i64 N, .string dig, .int .i64 idx, .string pay]] w fun e w' => MakeEnd (toS K N dig idx pay) e ∧ Below w.heap.size w w' := by
  have hdl : dig.data.toList.length = dig.size := by simp
  have hpl : pay.data.toList.length = pay.size := by simp
  go_enter Tryd.func10, Tryd.ntmps10
  go_wp2_with fail
  have hbx : Blk ((w.alloc (.cells #[.int .i64 K, .int .i64 N, .string dig, .int .i64 idx, .string pay] 33)).alloc (.cells #[.string ⟨#[]⟩, .string ⟨#[]⟩] 27)) w.heap.size 33 (shardC K N dig idx pay) := (Blk.new w _ _).alloc _
  have hrs : Blk ((w.alloc (.cells #[.int .i64 K, .int .i64 N, .string dig, .int .i64 idx, .string pay] 33)).alloc (.cells #[.string ⟨#[]⟩, .string ⟨#[]⟩] 27)) (w.heap.size + 1) 27 #[.string ⟨#[]⟩, .string ⟨#[]⟩] := by
    have h := Blk.new (w.alloc (.cells #[.int .i64 K, .int .i64 N, .string dig, .int .i64 idx, .string pay] 33)) 27 #[.string ⟨#[]⟩, .string ⟨#[]⟩]
    simpa using h
  have hb2 : Below w.heap.size w ((w.alloc (.cells #[.int .i64 K, .int .i64 N, .string dig, .int .i64 idx, .string pay] 33)).alloc (.cells #[.string ⟨#[]⟩, .string ⟨#[]⟩] 27)) := ((Below.refl _ _).alloc (Nat.le_refl _) _).alloc (by simp) _
  obtain ⟨n0, hn0⟩ : ∃ n, n = w.heap.size := ⟨_, rfl⟩
  rw [← hn0] at hbx hrs hb2 ⊢
  have HN0 := Lib.hid hn0
  clear hn0
  generalize (w.alloc (.cells #[.int .i64 K, .int .i64 N, .string dig, .int .i64 idx, .string pay] 33)).alloc (.cells #[.string ⟨#[]⟩, .string ⟨#[]⟩] 27) = w2 at *
  refine (code_any K N w2).mono ?_
  rintro e w3 ⟨rfl, hb3⟩
  have hbx3 := hbx.below hb3 hbx.lt
  have hrs3 := hrs.below hb3 hrs.lt
  have hb03 : Below n0 w w3 := hb2.trans (hb3.mono (Nat.le_of_lt hbx.lt))
  clear hbx hrs hb2 hb3
  have c0 : w3.cell? ⟨n0, 0, none⟩ = some (.int .i64 K) := hbx3.cell 0
  have c1 : w3.cell? ⟨n0, 1, none⟩ = some (.int .i64 N) := hbx3.cell 1
  have c2 : w3.cell? ⟨n0, 2, none⟩ = some (.string dig) := hbx3.cell 2
  have c3 : w3.cell? ⟨n0, 3, none⟩ = some (.int .i64 idx) := hbx3.cell 3
  have c4 : w3.cell? ⟨n0, 4, none⟩ = some (.string pay) := hbx3.cell 4
  have r0 : w3.cell? ⟨n0 + 1, 0, none⟩ = some (.string ⟨#[]⟩) := hrs3.cell 0
  have r1 : w3.cell? ⟨n0 + 1, 1, none⟩ = some (.string ⟨#[]⟩) := hrs3.cell 1
  have f0 := hrs3.frozen 0
  have f1 := hrs3.frozen 1
  have HBX := Lib.hid hbx3
  have HRS := Lib.hid hrs3
  clear hbx3 hrs3
  cases hcode : codeB K N with
  | false =>
    have HC := Lib.hid hcode
    clear hcode
    have hno : ¬ (toS K N dig idx pay).May := fun h => by
      have := (codeB_iff K N).2 ⟨h.1, h.2.1, h.2.2.1⟩
      rw [HC.out] at this; cases this
    have HNO := Lib.hid hno
    clear hno
    go_wp2_with fail
    have hr := set_two HRS.out (.string ⟨#[]⟩) (.string ⟨#[]⟩)
    have hb4 := below_two hb03 (.string ⟨#[]⟩) (.string ⟨#[]⟩)
    generalize (w3.setCell ⟨n0 + 1, 0, none⟩ (.string ⟨#[]⟩)).setCell ⟨n0 + 1, 1, none⟩ (.string ⟨#[]⟩) = w4 at *
    have q0 : w4.cell? ⟨n0 + 1, 0, none⟩ = some (.string ⟨#[]⟩) := hr.cell 0
    have q1 : w4.cell? ⟨n0 + 1, 1, none⟩ = some (.string ⟨#[]⟩) := hr.cell 1
    exact bodyPost_ret (v := .tuple #[objV [] [], .int .i64 1]) (by simp [results, Tryd.results10, go_sem, objV, q0, q1]) rfl ⟨.inr (.inr ⟨HNO.out, rfl⟩), by have hh := HN0.out; rw [← hh]; exact hb4⟩
  | true =>
    have HC := Lib.hid hcode
    have hck := (codeB_iff K N).1 hcode
    clear hcode
    by_cases hbad : ¬ (dig.size = 32 ∧ 0 ≤ idx ∧ idx < N)
    · have hno : ¬ (toS K N dig idx pay).May := fun h => by
        refine hbad ⟨?_, h.2.2.2.2.1, h.2.2.2.2.2⟩
        have : dig.data.toList.length = 32 := h.2.2.2.1
        omega
      have HNO := Lib.hid hno
      clear hno
      by_cases h32 : dig.size = 32
      · by_cases hi0 : idx < 0
        · clear hbad
          go_wp2_with fail
          have hr := set_two HRS.out (.string ⟨#[]⟩) (.string ⟨#[]⟩)
          have hb4 := below_two hb03 (.string ⟨#[]⟩) (.string ⟨#[]⟩)
          generalize (w3.setCell ⟨n0 + 1, 0, none⟩ (.string ⟨#[]⟩)).setCell ⟨n0 + 1, 1, none⟩ (.string ⟨#[]⟩) = w4 at *
          have q0 : w4.cell? ⟨n0 + 1, 0, none⟩ = some (.string ⟨#[]⟩) := hr.cell 0
          have q1 : w4.cell? ⟨n0 + 1, 1, none⟩ = some (.string ⟨#[]⟩) := hr.cell 1
          exact bodyPost_ret (v := .tuple #[objV [] [], .int .i64 1]) (by simp [results, Tryd.results10, go_sem, objV, q0, q1]) rfl ⟨.inr (.inr ⟨HNO.out, rfl⟩), by have hh := HN0.out; rw [← hh]; exact hb4⟩
        · have hiN : N ≤ idx := by omega
          clear hbad
          go_wp2_with fail
          have hr := set_two HRS.out (.string ⟨#[]⟩) (.string ⟨#[]⟩)
          have hb4 := below_two hb03 (.string ⟨#[]⟩) (.string ⟨#[]⟩)
          generalize (w3.setCell ⟨n0 + 1, 0, none⟩ (.string ⟨#[]⟩)).setCell ⟨n0 + 1, 1, none⟩ (.string ⟨#[]⟩) = w4 at *
          have q0 : w4.cell? ⟨n0 + 1, 0, none⟩ = some (.string ⟨#[]⟩) := hr.cell 0
          have q1 : w4.cell? ⟨n0 + 1, 1, none⟩ = some (.string ⟨#[]⟩) := hr.cell 1
          exact bodyPost_ret (v := .tuple #[objV [] [], .int .i64 1]) (by simp [results, Tryd.results10, go_sem, objV, q0, q1]) rfl ⟨.inr (.inr ⟨HNO.out, rfl⟩), by have hh := HN0.out; rw [← hh]; exact hb4⟩
      · have h32' : ((dig.size : Int) != 32) = true := by simp; omega
        clear hbad
        go_wp2_with fail
        have hr := set_two HRS.out (.string ⟨#[]⟩) (.string ⟨#[]⟩)
        have hb4 := below_two hb03 (.string ⟨#[]⟩) (.string ⟨#[]⟩)
        generalize (w3.setCell ⟨n0 + 1, 0, none⟩ (.string ⟨#[]⟩)).setCell ⟨n0 + 1, 1, none⟩ (.string ⟨#[]⟩) = w4 at *
        have q0 : w4.cell? ⟨n0 + 1, 0, none⟩ = some (.string ⟨#[]⟩) := hr.cell 0
        have q1 : w4.cell? ⟨n0 + 1, 1, none⟩ = some (.string ⟨#[]⟩) := hr.cell 1
        exact bodyPost_ret (v := .tuple #[objV [] [], .int .i64 1]) (by simp [results, Tryd.results10, go_sem, objV, q0, q1]) rfl ⟨.inr (.inr ⟨HNO.out, rfl⟩), by have hh := HN0.out; rw [← hh]; exact hb4⟩
    · have hok : dig.size = 32 ∧ 0 ≤ idx ∧ idx < N := Classical.not_not.1 hbad
      obtain ⟨h32, hi0, hiN⟩ := hok
      clear hbad
      have hmay : (toS K N dig idx pay).May := ⟨hck.1, hck.2.1, hck.2.2, by show dig.data.toList.length = 32; omega, hi0, hiN⟩
      have HMAY := Lib.hid hmay
      clear hmay
      by_cases hbig : 65461 < pay.size
      · have hd : (65461 : Int) < (pay.size : Int) := by omega
        go_wp2_with fail
        have hr := set_two HRS.out (.string ⟨#[]⟩) (.string ⟨#[]⟩)
        have hb4 := below_two hb03 (.string ⟨#[]⟩) (.string ⟨#[]⟩)
        generalize (w3.setCell ⟨n0 + 1, 0, none⟩ (.string ⟨#[]⟩)).setCell ⟨n0 + 1, 1, none⟩ (.string ⟨#[]⟩) = w4 at *
        have q0 : w4.cell? ⟨n0 + 1, 0, none⟩ = some (.string ⟨#[]⟩) := hr.cell 0
        have q1 : w4.cell? ⟨n0 + 1, 1, none⟩ = some (.string ⟨#[]⟩) := hr.cell 1
        exact bodyPost_ret (v := .tuple #[objV [] [], .int .i64 40]) (by simp [results, Tryd.results10, go_sem, objV, q0, q1]) rfl ⟨.inr (.inl ⟨HMAY.out, by show 65461 < pay.data.toList.length; omega, rfl⟩), by have hh := HN0.out; rw [← hh]; exact hb4⟩
      · have hd : ¬ ((65461 : Int) < (pay.size : Int)) := by omega
        obtain ⟨hk1, hk2, hk3⟩ := hck
        have hz : (0 : Int) ≤ (pay.size : Int) / 65536 ∧ (pay.size : Int) / 65536 < 256 := by omega
        have hcells : #[Value.int IntKind.u8 K, Value.int IntKind.u8 N, Value.int IntKind.u8 idx, Value.int IntKind.u8 0, Value.int IntKind.u8 ((pay.size : Int) / 65536), Value.int IntKind.u8 ((pay.size : Int) / 256 % 256), Value.int IntKind.u8 ((pay.size : Int) % 256)] = nums (binL K N idx (pay.size : Int)) := by
          unfold nums binL
          simp only [List.map_cons, List.map_nil, by8_toNat]
          rw [show K % 256 = K by omega, show N % 256 = N by omega, show idx % 256 = idx by omega, show (pay.size : Int) / 16777216 % 256 = 0 by omega, show (pay.size : Int) / 65536 % 256 = (pay.size : Int) / 65536 by omega]
        obtain ⟨BS, hBS⟩ : ∃ B : ByteArray, B = ⟨(binL K N idx (pay.size : Int)).toArray⟩ := ⟨_, rfl⟩
        have hcv : (convert 43 9 (.slice (some ⟨w3.heap.size, 0, none⟩) 7 7)).run Tryd.prog (w3.alloc (.cells #[Value.int IntKind.u8 K, Value.int IntKind.u8 N, Value.int IntKind.u8 idx, Value.int IntKind.u8 0, Value.int IntKind.u8 ((pay.size : Int) / 65536), Value.int IntKind.u8 ((pay.size : Int) / 256 % 256), Value.int IntKind.u8 ((pay.size : Int) % 256)] 5)) =
            .ok (.string BS) (w3.alloc (.cells #[Value.int IntKind.u8 K, Value.int IntKind.u8 N, Value.int IntKind.u8 idx, Value.int IntKind.u8 0, Value.int IntKind.u8 ((pay.size : Int) / 65536), Value.int IntKind.u8 ((pay.size : Int) / 256 % 256), Value.int IntKind.u8 ((pay.size : Int) % 256)] 5)) := by
          rw [hcells, hBS]
          exact run_bin (Blk.new w3 _ _)
        have hBl : BS.size = 7 := by rw [hBS]; rfl
        have hBD : BS.data.toList = binL K N idx (pay.size : Int) := by rw [hBS]
        have hbody : ((⟨#[115, 104, 100, 49]⟩ : ByteArray) ++ BS ++ dig ++ pay).data.toList = (toS K N dig idx pay).body := by
          simp only [ByteArray.data_append, Array.toList_append, hBD]
          unfold Shard.body toS
          rw [hpl, List.append_assoc, List.append_assoc]; rfl
        have h4 : (⟨#[115, 104, 100, 49]⟩ : ByteArray).size = 4 := rfl
        have hsz : ((⟨#[115, 104, 100, 49]⟩ : ByteArray) ++ BS ++ dig ++ pay).size = 43 + pay.size := by simp only [ByteArray.size_append, hBl, h32, h4]
        have hSum := fun W => R1.sum_any ((⟨#[115, 104, 100, 49]⟩ : ByteArray) ++ BS ++ dig ++ pay) (by rw [hsz]; omega) W
        rw [hbody] at hSum
        have HSUM := Lib.hid hSum
        have HBODY := Lib.hid hbody
        have HSZ := Lib.hid hsz
        have hsl : (sumL (toS K N dig idx pay).body).length = 32 := sumL_len _
        have hdata : (toS K N dig idx pay).data sumL = (toS K N dig idx pay).body ++ sumL (toS K N dig idx pay).body := rfl
        have HDATA := Lib.hid hdata
        have HNM := Lib.hid (fun W => name_any dig (by omega) idx hi W)
        generalize sumL (toS K N dig idx pay).body = M at *
        have h1s : ((⟨#[115, 104, 100, 49]⟩ : ByteArray) ++ BS).size = 11 := by simp only [ByteArray.size_append, hBl, h4]
        have h2s : ((⟨#[115, 104, 100, 49]⟩ : ByteArray) ++ BS ++ dig).size = 43 := by simp only [ByteArray.size_append, hBl, h32, h4]
        clear hSum hbody hsz hBD hBS hcells hdata
        have hx3 : Stab.Ext w3 (w3.alloc (.cells #[Value.int IntKind.u8 K, Value.int IntKind.u8 N, Value.int IntKind.u8 idx, Value.int IntKind.u8 0, Value.int IntKind.u8 ((pay.size : Int) / 65536), Value.int IntKind.u8 ((pay.size : Int) / 256 % 256), Value.int IntKind.u8 ((pay.size : Int) % 256)] 5)) := Stab.Ext.alloc _ _
        have HX3 := Lib.hid hx3
        have hn3 : n0 + 1 < w3.heap.size := HRS.out.lt
        have cA2 : ∀ o, (w3.alloc o).cell? ⟨n0, 2, none⟩ = some (.string dig) := fun o => (HBX.out.alloc o).cell 2
        have cA3 : ∀ o, (w3.alloc o).cell? ⟨n0, 3, none⟩ = some (.int .i64 idx) := fun o => (HBX.out.alloc o).cell 3
        have cA4 : ∀ o, (w3.alloc o).cell? ⟨n0, 4, none⟩ = some (.string pay) := fun o => (HBX.out.alloc o).cell 4
        clear hx3
        go_wp2_with (first
          | (go_at_call 16; ((with_reducible refine (HNM.out _).mono ?_); rintro e w4 ⟨rfl, hb4⟩; have hrs4 := (HRS.out.below HX3.out HRS.out.lt).below hb4 (HRS.out.below HX3.out HRS.out.lt).lt; have hb04 := (hb03.trans (Below.mono HX3.out (Nat.le_of_lt HBX.out.lt))).trans (Below.mono hb4 (Nat.le_of_lt (HBX.out.below HX3.out HBX.out.lt).lt)); have hn4 := Nat.lt_of_lt_of_le (HBX.out.below HX3.out HBX.out.lt).lt hb4.size))
          | (go_at_call 24; ((with_reducible refine (HSUM.out _).mono ?_); rintro e w5 ⟨rfl, hb5⟩; have hrs5 := hrs4.below hb5 hrs4.lt; have s0 : w5.cell? ⟨n0 + 1, 0, none⟩ = some (.string ⟨#[]⟩) := hrs5.cell 0; have s1 : w5.cell? ⟨n0 + 1, 1, none⟩ = some (.string ⟨#[]⟩) := hrs5.cell 1; have g0 := hrs5.frozen 0; have g1 := hrs5.frozen 1; have hb05 := hb04.trans (Below.mono hb5 (Nat.le_of_lt hn4)); have HRS5 := Lib.hid hrs5; clear hrs5 hrs4)))
        have hr := set_two HRS5.out (.string ⟨(nameL dig.data.toList idx).toArray⟩) (.string ((⟨#[115, 104, 100, 49]⟩ : ByteArray) ++ BS ++ dig ++ pay ++ ⟨M.toArray⟩))
        have hb6 := below_two hb05 (.string ⟨(nameL dig.data.toList idx).toArray⟩) (.string ((⟨#[115, 104, 100, 49]⟩ : ByteArray) ++ BS ++ dig ++ pay ++ ⟨M.toArray⟩))
        generalize (w5.setCell ⟨n0 + 1, 0, none⟩ (.string ⟨(nameL dig.data.toList idx).toArray⟩)).setCell ⟨n0 + 1, 1, none⟩ (.string ((⟨#[115, 104, 100, 49]⟩ : ByteArray) ++ BS ++ dig ++ pay ++ ⟨M.toArray⟩)) = w6 at *
        have q0 : w6.cell? ⟨n0 + 1, 0, none⟩ = some (.string ⟨(nameL dig.data.toList idx).toArray⟩) := hr.cell 0
        have q1 : w6.cell? ⟨n0 + 1, 1, none⟩ = some (.string ((⟨#[115, 104, 100, 49]⟩ : ByteArray) ++ BS ++ dig ++ pay ++ ⟨M.toArray⟩)) := hr.cell 1
        have hfin : (⟨#[115, 104, 100, 49]⟩ : ByteArray) ++ BS ++ dig ++ pay ++ ⟨M.toArray⟩ = ⟨((toS K N dig idx pay).data sumL).toArray⟩ := by
          apply ByteArray.ext
          apply Array.toList_inj.1
          rw [ByteArray.data_append, Array.toList_append, HBODY.out, HDATA.out]
        refine bodyPost_ret (v := .tuple #[objV (nameL dig.data.toList idx) ((toS K N dig idx pay).data sumL), .int .i64 0]) (by rw [hfin] at q1; simp only [results, Tryd.results10, go_sem, objV]; simp [go_sem, q0, q1]) rfl ⟨.inl ⟨HMAY.out, ?_, rfl⟩, by have hh := HN0.out; rw [← hh]; exact hb6⟩
        show pay.data.toList.length ≤ 65461; omega

end R6
end Go.Proofs.YtbcokpnehengfaaDoor
