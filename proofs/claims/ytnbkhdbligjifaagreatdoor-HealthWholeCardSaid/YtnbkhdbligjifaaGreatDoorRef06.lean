/-
 Plain words for SHA-256: a text of whole blocks, block by block. No program is named. The walks of the document's package strongboxref01: Sums, Sum. The walks of the document's package strongboxref01: digit, Hex. The walks of the document's package strongboxref06: Code, Digits, Name.
-/
import Derived.Test.YtnbkhdbligjifaaGreatDoorShaCopy
import Derived.Test.YtnbkhdbligjifaaGreatDoorRef01Walks
import Derived.Test.YtnbkhdbligjifaaGreatDoorRef01Change
import Derived.Test.YtnbkhdbligjifaaGreatDoorSumL
import Derived.Test.YtnbkhdbligjifaaGreatDoorInfo
import Derived.Test.YtnbkhdbligjifaaGreatDoorVMaps
import Derived.Test.YtnbkhdbligjifaaGreatDoorShaSched
import Derived.Test.YtnbkhdbligjifaaGreatDoorShdRead
set_option linter.unusedVariables false
set_option linter.unusedSimpArgs false
set_option maxRecDepth 100000
set_option maxHeartbeats 40000000
namespace Go.Proofs.YtnbkhdbligjifaaGreatDoor
open Go.RowKit
namespace Sha
def stN (r : List Int) (s : St) (F : List UInt8) : Nat → St
 | 0 => s
 | k + 1 => comp r ((F.drop (64 * k)).take 64) (stN r s F k)
theorem stN_ok (r : List Int) (s : St) (h : s.ok) (F : List UInt8) (k : Nat) : (stN r s F k).ok := by
 cases k with
 | zero => exact h
 | succ k => exact comp_ok _ _ _
theorem eat_stN (r : List Int) (s : St) (F : List UInt8) : ∀ k, 64 * k ≤ F.length → eat r (F.drop (64 * k)) (stN r s F k) = eat r F s
 | 0, _ => rfl
 | k + 1, h => by
   rw [← eat_stN r s F k (by omega), eat_step r (F.drop (64 * k)) _ (by rw [List.length_drop]; omega), List.drop_drop, show 64 * k + 64 = 64 * (k + 1) by omega]
   rfl
theorem stN_end (r : List Int) (s : St) (F : List UInt8) (k : Nat) (h : F.length = 64 * k) : stN r s F k = (eat r F s).1 := by
 rw [← eat_stN r s F k (by omega), ← h, List.drop_length, eat_end _ _ _ (by simp)]
theorem pad_length (n : Nat) : (pad n).length = 9 + zeros n := by simp [pad, lenBytes]; omega
theorem padded (l : List UInt8) : ∃ k, (l ++ pad l.length).length = 64 * k ∧ 64 * k ≤ l.length + 72 := by
 refine ⟨(l ++ pad l.length).length / 64, ?_, ?_⟩ <;> rw [List.length_append, pad_length, zeros] <;> omega
def outL (s : St) (k : Nat) : List UInt8 := (s.list.take k).flatMap bytes4
theorem outL_end (s : St) : outL s 8 = stBytes s := by rw [outL, List.take_of_length_le (by simp [St.list])]; rfl
theorem outL_succ (s : St) (k : Nat) (h : k < 8) : outL s (k + 1) = outL s k ++ bytes4 (s.list.getD k 0) := by
 have hl : k < s.list.length := by simpa [St.list] using h
 rw [outL, List.take_succ_eq_append_getElem hl, List.flatMap_append, outL]
 simp [List.getD, hl]
end Sha
end Go.Proofs.YtnbkhdbligjifaaGreatDoor
namespace Go.Proofs.YtnbkhdbligjifaaGreatDoor
open Go.RowKit
namespace R1
open Sha
attribute [local go_sem ↓] appSem_eq
def strs (ls : List (List UInt8)) : List Value := ls.map fun l => Value.string ⟨l.toArray⟩
def Strs (w : World) (v : Value) (ls : List (List UInt8)) : Prop := ∃ A c, v = .slice A ls.length c ∧ (0 < ls.length → ∃ g o, A = some ⟨g, o, none⟩ ∧ g < w.heap.size ∧ ∀ j, j < ls.length → w.cell? ⟨g, o + j, none⟩ = some (.string ⟨(ls.getD j []).toArray⟩))
theorem Strs.ext {w w' : World} {v : Value} {ls : List (List UInt8)} (h : Strs w v ls) (hE : Stab.Ext w w') : Strs w' v ls := by
 obtain ⟨A, c, h1, h2⟩ := h
 refine ⟨A, c, h1, fun h0 => ?_⟩
 obtain ⟨g, o, h3, h4, h5⟩ := h2 h0
 exact ⟨g, o, h3, Nat.lt_of_lt_of_le h4 hE.size, fun j hj => hE.cell (h5 j hj)⟩
theorem Strs.of_own {w : World} {base : Nat} {e : TypeId} {v : Value} {n : Nat} {ls : List (List UInt8)} (h : OwnG w base e 1 v n (strs ls)) : Strs w v ls := by
 have hn : n = ls.length := by have := h.1; simp [strs] at this; exact this.symm
 subst hn
 obtain ⟨A, c, rfl⟩ := h.shape
 refine ⟨A, c, rfl, fun h0 => ?_⟩
 obtain ⟨g, cap, he, _, _, hl⟩ := h.addr h0
 cases he
 refine ⟨g, 0, rfl, hl, fun j hj => ?_⟩
 rw [Nat.zero_add]
 exact h.cells rfl j _ (by simp [strs, hj, List.getD])
def Num8 (v : Value) (s : St) (w : World) : Prop := ∃ g c, v = .slice (some ⟨g, 0, none⟩) 8 c ∧ g < w.heap.size ∧ ∀ j, j < 8 → w.cell? ⟨g, j, none⟩ = some (.int .u32 (s.list.getD j 0))
theorem Num8.ext {v : Value} {s : St} {w w' : World} (h : Num8 v s w) (hE : Stab.Ext w w') : Num8 v s w' := by
 obtain ⟨g, c, h1, h2, h3⟩ := h
 exact ⟨g, c, h1, Nat.lt_of_lt_of_le h2 hE.size, fun j hj => hE.cell (h3 j hj)⟩
theorem change8_any (s : St) (hs : s.ok) (b : List UInt8) (hb : b.length = 64) (v : Value) (gr g o cr cap : Nat) (w : World) (hv : Num8 v s w)
 (hrr : ∀ j, j < 64 → w.cell? ⟨gr, j, none⟩ = some (.int .u32 (R64.getD j 0))) (hgr : gr < w.heap.size)
 (hrow : ∀ j, j < 64 → w.cell? ⟨g, o + j, none⟩ = some (.int .u8 (at8 b j))) (hgw : g < w.heap.size) :
 Calls Tryz.prog 97 #[v, .slice (some ⟨gr, 0, none⟩) 64 cr, .slice (some ⟨g, o, none⟩) 64 cap] w fun e w' => ∃ v', e = .returned v' ∧ Num8 v' (comp R64 b s) w' ∧ Stab.Ext w w' := by
 obtain ⟨gn, cn, rfl, hgn, hn⟩ := hv
 refine (change_any s hs R64 R64_len R64_small b hb gn gr g o cn cr cap w hn hgn hrr hgr hrow hgw).mono ?_
 rintro e w' ⟨gv, cv, rfl, _, hbk, hbl⟩
 exact ⟨_, rfl, ⟨gv, cv, rfl, hbk.lt, fun j hj => (hbk.cell j).trans (cells_get _ j hj)⟩, hbl⟩
theorem st_get {s : St} (h : s.ok) (j : Nat) : 0 ≤ s.list.getD j 0 ∧ s.list.getD j 0 < 4294967296 := by
 obtain ⟨h1, h2, h3, h4, h5, h6, h7, h8⟩ := h
 match j with
 | 0 => exact h1
 | 1 => exact h2
 | 2 => exact h3
 | 3 => exact h4
 | 4 => exact h5
 | 5 => exact h6
 | 6 => exact h7
 | 7 => exact h8
 | j + 8 => exact ⟨Int.le_refl _, by show (0 : Int) < _; omega⟩
def SumsEnd (ls : List (List UInt8)) (w : World) (e : Ending) (w' : World) : Prop := ∃ v, e = .returned v ∧ OwnG w' w.heap.size 9 1 v ls.length (strs (ls.map Shd.sumL)) ∧ Below w.heap.size w w'
def Row8 (v : Value) (l : List UInt8) (w : World) : Prop := ∃ g c, v = .slice (some ⟨g, 0, none⟩) l.length c ∧ l.length ≤ c ∧ g < w.heap.size ∧ ∀ j, j < l.length → w.cell? ⟨g, j, none⟩ = some (.int .u8 (at8 l j))
theorem Row8.ext {v : Value} {l : List UInt8} {w w' : World} (h : Row8 v l w) (hE : Stab.Ext w w') : Row8 v l w' := by
 obtain ⟨g, c, h1, h0, h2, h3⟩ := h
 exact ⟨g, c, h1, h0, Nat.lt_of_lt_of_le h2 hE.size, fun j hj => hE.cell (h3 j hj)⟩
theorem Row8.of_own {w : World} {base n : Nat} {e : TypeId} {v : Value} {l : List UInt8} (h : OwnG w base e 1 v n (Lib.byteCells l)) (h0 : 0 < l.length) : Row8 v l w := by
 have hn : n = l.length := by have := h.1; rw [Lib.byteCells_length] at this; omega
 subst hn
 obtain ⟨g, c, he, _, hc, hl⟩ := h.addr h0
 subst he
 refine ⟨g, c, rfl, hc, hl, fun j hj => h.cells rfl j _ ?_⟩
 simp [Lib.byteCells, hj, at8, List.getD]
theorem sums_any (ls : List (List UInt8)) (v : Value) (hls : ∀ l ∈ ls, l.length ≤ 70368744177664) (hn : ls.length ≤ 1000000000) (w : World) (hv : Strs w v ls) :
 Calls Tryz.prog 64 #[v] w (SumsEnd ls w) := by
 obtain ⟨A, c, rfl, ha⟩ := hv
 have HA := Lib.hid ha
 clear ha
 go_enter Tryz.func64, Tryz.ntmps64
 go_wp2_with (go_at_call 95; refine (roots_any _).mono ?_)
 rintro e w1 ⟨v1, v2, rfl, hv1, hv2, hb1⟩
 obtain ⟨A1, c1, rfl, hf1⟩ := row_form hv1
 obtain ⟨A2, c2, rfl, hf2⟩ := row_form hv2
 obtain ⟨g1, cur1, rfl, _, hB1, hc1⟩ := hf1 (by omega)
 obtain ⟨g2, cur2, rfl, _, hB2, hc2⟩ := hf2 (by omega)
 have hN : Num8 (.slice (some ⟨g1, 0, none⟩) 8 c1) S0 w1 := ⟨g1, c1, rfl, hB1.lt, fun j hj => by
  rw [hB1.cell]
  refine hc1 j _ ?_
  have : j < S0.list.length := hj
  simp [r32, List.getD, this]⟩
 have hR : ∀ j, j < 64 → w1.cell? ⟨g2, j, none⟩ = some (.int .u32 (R64.getD j 0)) := fun j hj => by
  rw [hB2.cell]
  refine hc2 j _ ?_
  have : j < R64.length := by rw [R64_len]; exact hj
  simp [r32, List.getD, this]
 have hs1 := hb1.size
 have HN := Lib.hid hN
 have HR := Lib.hid hR
 have HB1 := Lib.hid hb1
 have hg2 := hB2.lt
 clear hN hR hb1 hv1 hv2 hf1 hf2 hc1 hc2 hB1 hB2
 go_wp2_with fail
 go_loopw [5, 6] (fun o i wr => ∃ k : Nat, k ≤ ls.length ∧ i = .int .i64 (k : Int) ∧ OwnG wr w1.heap.size 9 1 o k (strs ((ls.take k).map Shd.sumL)) ∧ Below w1.heap.size w1 wr) (fun _ i _ => ls.length - (intOf i).toNat)
 case atStart => exact ⟨0, by omega, rfl, OwnG.nil _ _ _ _, Below.refl _ _⟩
 case round =>
  obtain ⟨k, hk, rfl, ho, hbl⟩ := hrel
  obtain ⟨wo, rfl⟩ : ∃ wo : World, wo = wr := ⟨_, rfl⟩
  have HO := Lib.hid ho
  have HBL := Lib.hid hbl
  have hso := hbl.size
  by_cases hlt : k < ls.length
  ·have hd : (k : Int) < (ls.length : Int) := by omega
   obtain ⟨ga, oa, rfl, hga, hca⟩ := HA.out (by omega)
   have hcell : wo.cell? ⟨ga, oa + k, none⟩ = some (.string ⟨(ls.getD k []).toArray⟩) := by
    have h1 : w1.cell? ⟨ga, oa + k, none⟩ = _ := (HB1.out.cell (p := ⟨ga, oa + k, none⟩) hga).trans (hca k hlt)
    exact (hbl.cell (p := ⟨ga, oa + k, none⟩) (by show ga < w1.heap.size; omega)).trans h1
   have hmem : ls.getD k [] ∈ ls := by simp [List.getD, hlt]
   have hT : (ls.take (k + 1)).map Shd.sumL = (ls.take k).map Shd.sumL ++ [Shd.sumL (ls.getD k [])] := by
    rw [List.take_succ_eq_append_getElem hlt, List.map_append, List.map_singleton, List.getD, List.getElem?_eq_getElem hlt]; rfl
   have HT := Lib.hid hT
   have hlm := hls _ hmem
   have HA2 := Lib.hid hca
   generalize ls.getD k [] = l at *
   obtain ⟨s, hs⟩ : ∃ s : ByteArray, s = ⟨l.toArray⟩ := ⟨_, rfl⟩
   have hsd : s.data.toList = l := by rw [hs]
   have hss : s.size = l.length := by rw [hs]; rfl
   rw [← hs] at hcell
   have HS := Lib.hid hsd
   have HSS := Lib.hid hss
   clear hs hsd hT hmem hca ho hbl
   go_wp2_with (go_at_call 96; refine (filled_any s (by have := HSS.out; omega) _).mono ?_)
   rintro e w2 ⟨vf, rfl, hfo, hb2⟩
   rw [HS.out, HSS.out] at hfo
   obtain ⟨nb, hnb, hnl⟩ := padded l
   have hrow := Row8.of_own hfo (by rw [List.length_append, pad_length]; omega)
   obtain ⟨F, hF⟩ : ∃ F, F = l ++ pad l.length := ⟨_, rfl⟩
   rw [← hF] at hrow hnb
   have HF := Lib.hid hF
   obtain ⟨gf, cf, rfl, hcf, hgf, hrow⟩ := hrow
   rw [hnb] at hrow hcf ⊢
   have HRW := Lib.hid hrow
   have HNB := Lib.hid hnb
   have HB2 := Lib.hid hb2
   have hs2 := hb2.size
   clear hF hfo hrow hnb hb2 hcell hss
   go_wp2_with fail
   have hN2 : Num8 (.slice (some ⟨g1, 0, none⟩) 8 c1) (stN R64 S0 F 0) w2 := (HN.out.ext (Below.mono HBL.out (Nat.le_refl _))).ext HB2.out
   go_loopw [7, 9] (fun n i wr => ∃ (m : Nat) (I : Int), m ≤ nb ∧ I = 64 * (m : Int) ∧ i = .int .i64 I ∧ Num8 n (stN R64 S0 F m) wr ∧ Stab.Ext w2 wr) (fun _ i _ => 64 * nb + 64 - (intOf i).toNat)
   case atStart => exact ⟨0, 0, by omega, rfl, rfl, hN2, Stab.Ext.refl _⟩
   case round =>
    obtain ⟨m, I, hm, hI, rfl, hN3, hE3⟩ := hrel
    clear hN2
    have HN3 := Lib.hid hN3
    have HE3 := Lib.hid hE3
    by_cases hlt2 : m < nb
    ·have e1 : (64 * nb : Nat) = 64 * nb := rfl
     have d1 : I < 64 * (nb : Int) := by omega
     have d2 : (0 : Int) ≤ I := by omega
     have d3 : I + 64 ≤ (cf : Int) := by omega
     have d4 : I ≤ I + 64 := by omega
     have d5 : (I + 64).toNat - I.toNat = 64 := by omega
     have d6 : I.toNat = 64 * m := by omega
     have HD6 := Lib.hid d6
     have HI := Lib.hid hI
     clear e1 d6 hI hN3 hE3
     have hg2w : g2 < wr.heap.size := by have := HE3.out.size; omega
     have hgfw : gf < wr.heap.size := by have := HE3.out.size; omega
     have hR3 : Hid (∀ j, j < 64 → wr.cell? ⟨g2, j, none⟩ = some (.int .u32 (R64.getD j 0))) := Lib.hid fun j hj => HE3.out.cell (HB2.out.cell (p := ⟨g2, j, none⟩) (by show g2 < wo.heap.size; omega) |>.trans ((HBL.out.cell (p := ⟨g2, j, none⟩) hg2).trans (HR.out j hj)))
     have hrow3 : Hid (∀ j, j < 64 → wr.cell? ⟨gf, I.toNat + j, none⟩ = some (.int .u8 (at8 ((F.drop (64 * m)).take 64) j))) := Lib.hid fun j hj => by
      have h1 := HE3.out.cell (HRW.out (64 * m + j) (by omega))
      rw [HD6.out, h1, at8, at8]
      simp [List.getD, hj]
     have hlen3 : Hid (((F.drop (64 * m)).take 64).length = 64) := Lib.hid (by rw [List.length_take, List.length_drop, HNB.out]; omega)
     go_wp2_with (go_at_call 97; refine (change8_any (stN R64 S0 F m) (stN_ok _ _ S0_ok _ _) ((F.drop (64 * m)).take 64) hlen3.out u7 g2 gf I.toNat c2 (cf - I.toNat) wr HN3.out hR3.out hg2w hrow3.out hgfw).mono ?_)
     rintro e w3 ⟨v3, rfl, hN4, hE4⟩
     have HN4 := Lib.hid hN4
     have HE4 := Lib.hid hE4
     clear hN4 hE4
     go_wp2_with fail
     go_roundw
     case rel => exact ⟨m + 1, I + 64, by omega, by have := HI.out; omega, rfl, HN4.out, HE3.out.trans HE4.out⟩
     case measure => simp [intOf]; omega
    ·have hme : m = nb := by omega
     subst hme
     have d1 : ¬ (I < 64 * (m : Int)) := by omega
     have hst : stN R64 S0 F m = (eat R64 F S0).1 := stN_end _ _ _ _ HNB.out
     rw [hst, HF.out] at hN3
     have hsum : stBytes (eat R64 (l ++ pad l.length) S0).1 = Shd.sumL l := rfl
     have HSM := Lib.hid hsum
     have HOK : Hid (∀ j, 0 ≤ (eat R64 (l ++ pad l.length) S0).1.list.getD j 0 ∧ (eat R64 (l ++ pad l.length) S0).1.list.getD j 0 < 4294967296) := Lib.hid (st_get (eat_ok _ _ _ S0_ok))
     generalize (eat R64 (l ++ pad l.length) S0).1 = st at *
     clear hst hsum HN3
     obtain ⟨w4, rfl⟩ : ∃ w4 : World, w4 = wr := ⟨_, rfl⟩
     have HN4 := Lib.hid hN3
     clear hN3 hI hE3
     go_wp2_with fail
     go_loopw [10, 11] (fun d i wr => ∃ j : Nat, j ≤ 8 ∧ i = .int .i64 (j : Int) ∧ OwnG wr w4.heap.size 5 1 d (4 * j) (Lib.byteCells (outL st j)) ∧ Below w4.heap.size w4 wr) (fun _ i _ => 8 - (intOf i).toNat)
     case atStart => exact ⟨0, by omega, rfl, OwnG.nil _ _ _ _, Below.refl _ _⟩
     case round =>
      obtain ⟨j, hj, rfl, hd, hbl5⟩ := hrel
      by_cases hlt3 : j < 8
      ·obtain ⟨gn, cn, rfl, hgn, hcn⟩ := HN4.out
       have hx := hcn j hlt3
       have hok : 0 ≤ st.list.getD j 0 ∧ st.list.getD j 0 < 4294967296 := HOK.out j
       have hL := outL_succ st j hlt3
       have HL := Lib.hid hL
       have HD := Lib.hid hd
       have HB5 := Lib.hid hbl5
       have hx5 : wr.cell? ⟨gn, j, none⟩ = some (.int .u32 (st.list.getD j 0)) := (hbl5.cell (p := ⟨gn, j, none⟩) hgn).trans hx
       have hb4 : bytes4 (st.list.getD j 0) = [UInt8.ofNat ((st.list.getD j 0).toNat / 16777216), UInt8.ofNat ((st.list.getD j 0).toNat / 65536), UInt8.ofNat ((st.list.getD j 0).toNat / 256), UInt8.ofNat ((st.list.getD j 0).toNat / 1)] := rfl
       have HB4 := Lib.hid hb4
       clear hL hd hbl5 hx hcn hb4
       generalize st.list.getD j 0 = x at *
       obtain ⟨x0, x1⟩ := hok
       obtain ⟨p1, hp1⟩ : ∃ p : Int, x.tdiv 16777216 = p := ⟨_, rfl⟩
       have ep1 : x / 16777216 = p1 := by rw [← hp1, Int.tdiv_eq_ediv_of_nonneg x0]
       obtain ⟨p2, hp2⟩ : ∃ p : Int, x.tdiv 65536 = p := ⟨_, rfl⟩
       have ep2 : x / 65536 = p2 := by rw [← hp2, Int.tdiv_eq_ediv_of_nonneg x0]
       obtain ⟨p3, hp3⟩ : ∃ p : Int, x.tdiv 256 = p := ⟨_, rfl⟩
       have ep3 : x / 256 = p3 := by rw [← hp3, Int.tdiv_eq_ediv_of_nonneg x0]
       obtain ⟨r2, hr2⟩ : ∃ p : Int, p2.tmod 256 = p := ⟨_, rfl⟩
       obtain ⟨r3, hr3⟩ : ∃ p : Int, p3.tmod 256 = p := ⟨_, rfl⟩
       obtain ⟨r4, hr4⟩ : ∃ p : Int, x.tmod 256 = p := ⟨_, rfl⟩
       have er2 : p2 % 256 = r2 := by rw [← hr2, Int.tmod_eq_emod_of_nonneg (by omega)]
       have er3 : p3 % 256 = r3 := by rw [← hr3, Int.tmod_eq_emod_of_nonneg (by omega)]
       have er4 : x % 256 = r4 := by rw [← hr4, Int.tmod_eq_emod_of_nonneg (by omega)]
       have s1 : IntKind.u32.wrap p1 = p1 := by rw [IntKind.wrap_u32']; omega
       have s2 : IntKind.u32.wrap p2 = p2 := by rw [IntKind.wrap_u32']; omega
       have s3 : IntKind.u32.wrap p3 = p3 := by rw [IntKind.wrap_u32']; omega
       have s4 : IntKind.u32.wrap r2 = r2 := by rw [IntKind.wrap_u32']; omega
       have s5 : IntKind.u32.wrap r3 = r3 := by rw [IntKind.wrap_u32']; omega
       have s6 : IntKind.u32.wrap r4 = r4 := by rw [IntKind.wrap_u32']; omega
       have b1 : IntKind.u8.wrap p1 = p1 := by rw [IntKind.wrap_u8]; omega
       have b2 : IntKind.u8.wrap r2 = r2 := by rw [IntKind.wrap_u8]; omega
       have b3 : IntKind.u8.wrap r3 = r3 := by rw [IntKind.wrap_u8]; omega
       have b4 : IntKind.u8.wrap r4 = r4 := by rw [IntKind.wrap_u8]; omega
       have HC : Hid (Lib.byteCells (outL st (j + 1)) = Lib.byteCells (outL st j) ++ [Value.int .u8 p1, Value.int .u8 r2, Value.int .u8 r3, Value.int .u8 r4]) := Lib.hid (by
        rw [HL.out, HB4.out, Lib.byteCells_append]
        have t1 : ((UInt8.ofNat (x.toNat / 16777216)).toNat : Int) = p1 := by rw [UInt8.toNat_ofNat']; omega
        have t2 : ((UInt8.ofNat (x.toNat / 65536)).toNat : Int) = r2 := by rw [UInt8.toNat_ofNat']; omega
        have t3 : ((UInt8.ofNat (x.toNat / 256)).toNat : Int) = r3 := by rw [UInt8.toNat_ofNat']; omega
        have t4 : ((UInt8.ofNat (x.toNat / 1)).toNat : Int) = r4 := by rw [UInt8.toNat_ofNat']; omega
        simp only [Lib.byteCells, List.map_cons, List.map_nil, t1, t2, t3, t4])
       have dj : (j : Int) < 8 := by omega
       clear er2 er3 er4 ep1 ep2 ep3 HL HB4
       have HX := Lib.hid hx5
       clear hx5
       go_wp2_with fail
       refine Stab.rg 28 [[], [], [], [1, 2], [3], [4], [5], [], [], [7, 8], [9], [10], [11], [12], [], [], [14, 15], [16], [17], [18], [19], [], [], [21, 22], [23], [24], [25], [6, 13, 20, 26]] [0, 27] (fun W => W.cell? ⟨gn, j, none⟩ = some (.int .u32 x)) [Stab.eqv ?_, Stab.eqv ?_, Stab.eqv ?_, Stab.eqv ?_, Stab.eqv ?_, Stab.eqv ?_, Stab.eqv ?_, Stab.eqv ?_, Stab.eqv ?_, Stab.eqv ?_, Stab.eqv ?_, Stab.eqv ?_, Stab.eqv ?_, Stab.eqv ?_, Stab.eqv ?_, Stab.eqv ?_, Stab.eqv ?_, Stab.eqv ?_, Stab.eqv ?_, Stab.eqv ?_, Stab.eqv ?_, Stab.eqv ?_, Stab.eqv ?_, Stab.eqv ?_, Stab.eqv ?_, Stab.eqv ?_, Stab.eqv ?_, Stab.newrow wr.heap.size 5 #[.int .u8 p1, .int .u8 r2, .int .u8 r3, .int .u8 r4] 4 4] HX.out (fun _ _ h hE => hE.cell h) ?goals16 ?last16
       case goals16 =>
        simp only [List.take_succ_cons, List.take_zero]
        iterate 27
         refine Stab.gp (fun us w _ hE hS hp hK => ?_) ?_
         ·((try have e0 : _ = _ := hp.1); (try have e1 : _ = _ := hp.2.1); (try have e2 : _ = _ := hp.2.2.1); go_simp; exact hK _ _ (by show _ = _; with_reducible rfl) (Stab.Ext.refl _))
        refine Stab.Goals.plain rfl rfl (fun us w cK hE hS hp hK => ?_) ?_
        ·obtain ⟨h6, h13, h20, h26, -⟩ := hp
         replace h6 : us 6 = _ := h6
         replace h13 : us 13 = _ := h13
         replace h20 : us 20 = _ := h20
         replace h26 : us 26 = _ := h26
         go_simp
         exact hK _ _ ⟨_, rfl, hE.size, Blk.new _ _ _⟩ (Stab.Ext.alloc _ _)
        exact Stab.Goals.nil
       case last16 =>
        intro us w' hE _ hp
        obtain ⟨h0, ⟨gb, e27, hgb, hbk⟩, -⟩ := hp
        replace h0 : us 0 = _ := h0
        simp only [List.drop_succ_cons, List.drop_zero, h0, e27]
        have hEx := (Stab.Ext.drew wr).trans hE
        have hbw := HB5.out.trans (Below.mono hEx HB5.out.size)
        obtain ⟨g5, c5, w5, hrun, hown, hb5, _⟩ := ownG_blk (c := 4) (m := 4) Tryz.underlying136 info_u8 rfl (by omega) (by omega) (HD.out.ext hEx) hbk rfl (by simp [Value.oneCell']) (by omega) (by omega) hbw.size
        have HO5 := Lib.hid hown
        have HB6 := Lib.hid (hbw.trans hb5)
        clear hown hb5 hbw hbk hE h0 e27 hEx
        obtain ⟨A', cap', hve⟩ := HD.out.shape
        subst hve
        go_wp2_with fail
        go_roundw
        case rel => exact ⟨j + 1, by omega, by go_num, by rw [HC.out, show 4 * (j + 1) = 4 * j + 4 by omega]; exact HO5.out, HB6.out⟩
        case measure => simp [intOf]; omega
      ·have hj8 : j = 8 := by omega
       subst hj8
       rw [outL_end, HSM.out] at hd
       have htx := ownG_text (P := Tryz.prog) (dst := 9) Tryz.underlying136 Tryz.underlying5 Tryz.underlying9 hd
       obtain ⟨A', cap', hve⟩ := hd.shape
       subst hve
       have hO5 := HO.out.ext (((Stab.Ext.trans HB2.out HE3.out)).trans (show Stab.Ext w4 wr from hbl5))
       have hB5 : Below w1.heap.size w1 wr := HBL.out.trans ((Below.mono HB2.out hso).trans ((Below.mono HE3.out (Nat.le_trans hso hs2)).trans (Below.mono hbl5 (Nat.le_trans hso (Nat.le_trans hs2 HE3.out.size)))))
       obtain ⟨g6, c6, w6, hrun, hown, hb6, _⟩ := ownG_new (c := 1) (m := 1) (C := #[.string ⟨(Shd.sumL l).toArray⟩]) Tryz.underlying60 info_str rfl (by omega) (by omega) hO5 rfl (by simp [Value.oneCell']) (by omega) (by omega) hB5.size
       have HO6 := Lib.hid hown
       have HB6 := Lib.hid (hB5.trans hb6)
       obtain ⟨A6, cap6, hv6⟩ := hO5.shape
       subst hv6
       clear hown hb6 hB5 hO5 hd hbl5
       go_wp2_with fail
       go_roundw
       case rel => exact ⟨k + 1, by omega, by go_num, by rw [HT.out]; simpa [strs] using HO6.out, HB6.out⟩
       case measure => simp [intOf]; omega
  ·have hke : k = ls.length := by omega
   subst hke
   have HN0 := Lib.hid hn
   have d1 : ¬ ((ls.length : Int) < (ls.length : Int)) := by omega
   clear ho hbl
   go_wp2_with fail
   go_ret
   refine ⟨_, rfl, ?_, HB1.out.trans (Below.mono HBL.out hs1)⟩
   have h := HO.out
   rw [List.take_length] at h
   refine ⟨h.1, ?_⟩
   rcases h.2 with h | ⟨g, cap, cur, fz, h1, h2, h3⟩
   ·exact .inl h
   ·exact .inr ⟨g, cap, cur, fz, h1, Nat.le_trans hs1 h2, h3⟩
theorem sum_any (s : ByteArray) (hs : s.size ≤ 70368744177664) (w : World) :
 Calls Tryz.prog 131 #[.string s] w fun e w' => e = .returned (.string ⟨(Shd.sumL s.data.toList).toArray⟩) ∧ Below w.heap.size w w' := by
 have hsl : s.data.toList.length = s.size := by simp
 have hst : Strs (w.alloc (.cells #[.string s] 9)) (.slice (some ⟨w.heap.size, 0, none⟩) 1 1) [s.data.toList] := ⟨_, 1, rfl, fun _ => ⟨w.heap.size, 0, rfl, by simp, fun j hj => by
  obtain rfl : j = 0 := by simpa using hj
  exact (Blk.new w 9 #[.string s]).cell 0⟩⟩
 have HC := Lib.hid (sums_any [s.data.toList] (.slice (some ⟨w.heap.size, 0, none⟩) 1 1) (by simpa using hs) (by simp) _ hst)
 clear hst
 go_enter Tryz.func131, Tryz.ntmps131
 go_wp2_with (go_at_call 64; refine HC.out.mono ?_)
 rintro e w' ⟨v, rfl, hv, hb⟩
 obtain ⟨g, cap, rfl, _, _, _⟩ := hv.addr (by simp)
 have hc : w'.cell? ⟨g, 0, none⟩ = some (.string ⟨(Shd.sumL s.data.toList).toArray⟩) := hv.cells rfl 0 _ (by simp [strs])
 have HB := Lib.hid ((Stab.Ext.alloc w (.cells #[.string s] 9)).trans hb)
 clear hv hb
 go_wp2_with fail
 go_ret
 exact ⟨rfl, HB.out⟩
end R1
end Go.Proofs.YtnbkhdbligjifaaGreatDoor
namespace Go.Proofs.YtnbkhdbligjifaaGreatDoor
open Go.RowKit
namespace R1
open Shd
attribute [local go_sem ↓] appSem_eq
theorem digit_any (n : Nat) (h : n < 16) (w : World) : Calls Tryz.prog 195 #[.int .u8 (n : Int)] w fun e w' => e = .returned (.int .u8 ((hexd n).toNat : Int)) ∧ w' = w := by
 have hd := hexd_toNat n h
 by_cases h10 : n < 10
 ·rw [if_pos h10] at hd
  have h1 : (n : Int) < 10 := by omega
  rw [hd]
  clear hd
  go_enter Tryz.func195, Tryz.ntmps195
  go_wp2_with fail
  go_ret
  exact ⟨ret_int (by omega), rfl⟩
 ·rw [if_neg h10] at hd
  have h1 : ¬ ((n : Int) < 10) := by omega
  rw [hd]
  clear hd
  go_enter Tryz.func195, Tryz.ntmps195
  go_wp2_with fail
  go_ret
  exact ⟨ret_int (by omega), rfl⟩
theorem hex_any (s : ByteArray) (hs : s.size ≤ 70368744177664) (w : World) :
 Calls Tryz.prog 158 #[.string s] w fun e w' => e = .returned (.string ⟨(hexL s.data.toList).toArray⟩) ∧ Below w.heap.size w w' := by
 go_enter Tryz.func158, Tryz.ntmps158
 go_wp2_with fail
 go_loopw [3, 4] (fun v i wr => ∃ k : Nat, k ≤ s.size ∧ i = .int .i64 (k : Int) ∧ wr.ownsRow w.heap.size 5 1 v (2 * k) (Lib.byteCells (hexL (s.data.toList.take k))) ∧ Below w.heap.size w wr) (fun _ i _ => s.size - (intOf i).toNat)
 case atStart => exact ⟨0, by omega, rfl, World.ownsRow_nil _ _ _ _, Below.refl _ _⟩
 case round =>
  obtain ⟨k, hk, rfl, hv, hbl⟩ := hrel
  by_cases hlt : k < s.size
  ·have hd : (k : Int) < (s.size : Int) := by omega
   have hT : hexL (s.data.toList.take (k + 1)) = hexL (s.data.toList.take k) ++ [hexd (s[k].toNat / 16), hexd (s[k].toNat % 16)] := by
    have e : s.data.toList.take (k + 1) = s.data.toList.take k ++ [s[k]] := by
     rw [List.take_succ_eq_append_getElem (by simpa using hlt)]; rfl
    rw [e, hex_append]; rfl
   have HT := Lib.hid hT
   clear hT
   have hs2 := s[k].toNat_lt
   generalize hexL (s.data.toList.take k) = L at *
   have hi : (0 : Int) ≤ (k : Int) := by omega
   have h1 : ((s[k].toNat : Int) / 16) = ((s[k].toNat / 16 : Nat) : Int) := by omega
   have h2 : ((s[k].toNat : Int) % 16) = ((s[k].toNat % 16 : Nat) : Int) := by omega
   have h3 : ((s[k].toNat : Int).tmod 16) = ((s[k].toNat % 16 : Nat) : Int) := by rw [Int.tmod_eq_emod_of_nonneg (by omega)]; omega
   have d1 := digit_any (s[k].toNat / 16) (by omega)
   have d2 := digit_any (s[k].toNat % 16) (by omega)
   have p1 : s[k].toNat / 16 < 16 := by omega
   have p2 : s[k].toNat % 16 < 16 := by omega
   generalize s[k].toNat / 16 = p at *
   generalize s[k].toNat % 16 = q at *
   have w1 : IntKind.u8.wrap (p : Int) = (p : Int) := by rw [IntKind.wrap_u8]; omega
   have w2 : IntKind.u8.wrap (q : Int) = (q : Int) := by rw [IntKind.wrap_u8]; omega
   have HV := Lib.hid hv
   have HBL := Lib.hid hbl
   have D1 := Lib.hid d1
   have D2 := Lib.hid d2
   clear hv hbl d1 d2
   go_wp2_with fail
   refine Stab.rg 12 [[], [], [], [1, 2], [3], [4], [], [], [6, 7], [8], [9], [5, 10]] [0, 11] (fun _ => True) [Stab.eqv ?_, Stab.eqv ?_, Stab.eqv ?_, Stab.eqv ?_, Stab.eqv ?_, Stab.eqv ?_, Stab.eqv ?_, Stab.eqv ?_, Stab.eqv ?_, Stab.eqv ?_, Stab.eqv ?_, Stab.newrow wr.heap.size 5 #[.int .u8 ((hexd p).toNat : Int), .int .u8 ((hexd q).toNat : Int)] 2 2] trivial (fun _ _ _ _ => trivial) ?goals5 ?last5
   case goals5 =>
    simp only [List.take_succ_cons, List.take_zero]
    iterate 5
     refine Stab.gp (fun us w _ hE hS hp hK => ?_) ?_
     ·((try have e0 : _ = _ := hp.1); (try have e1 : _ = _ := hp.2.1); (try have e2 : _ = _ := hp.2.2.1); go_simp; exact hK _ _ (by show _ = _; with_reducible rfl) (Stab.Ext.refl _))
    refine Stab.Goals.plain rfl rfl (fun us w cK hE hS hp hK => ?_) ?_
    ·obtain ⟨h4, -⟩ := hp
     replace h4 : us 4 = _ := h4
     go_simp
     go_wp2_with (go_at_call 195; ((with_reducible refine (D1.out _).mono ?_); rintro e w1 ⟨rfl, rfl⟩))
     refine hK _ _ ?_ (Stab.Ext.refl _)
     show _ = _
     with_reducible rfl
    iterate 4
     refine Stab.gp (fun us w _ hE hS hp hK => ?_) ?_
     ·((try have e0 : _ = _ := hp.1); (try have e1 : _ = _ := hp.2.1); (try have e2 : _ = _ := hp.2.2.1); go_simp; exact hK _ _ (by show _ = _; with_reducible rfl) (Stab.Ext.refl _))
    refine Stab.Goals.plain rfl rfl (fun us w cK hE hS hp hK => ?_) ?_
    ·obtain ⟨h9, -⟩ := hp
     replace h9 : us 9 = _ := h9
     go_simp
     go_wp2_with (go_at_call 195; ((with_reducible refine (D2.out _).mono ?_); rintro e w1 ⟨rfl, rfl⟩))
     refine hK _ _ ?_ (Stab.Ext.refl _)
     show _ = _
     with_reducible rfl
    refine Stab.Goals.plain rfl rfl (fun us w cK hE hS hp hK => ?_) ?_
    ·obtain ⟨h5, h10, -⟩ := hp
     replace h5 : us 5 = _ := h5
     replace h10 : us 10 = _ := h10
     go_simp
     exact hK _ _ ⟨_, rfl, hE.size, Blk.new _ _ _⟩ (Stab.Ext.alloc _ _)
    exact Stab.Goals.nil
   case last5 =>
    intro us w' hE _ hp
    obtain ⟨h0, ⟨gb, e11, hgb, hbk⟩, -⟩ := hp
    replace h0 : us 0 = _ := h0
    simp only [List.drop_succ_cons, List.drop_zero, h0, e11]
    have hbw := HBL.out.trans (Below.mono ((Stab.Ext.drew wr).trans hE) HBL.out.size)
    obtain ⟨g5, c5, w5, hrun, hown, hb5, _⟩ := own_app (c := 2) (m := 2) Tryz.underlying136 info_u8 rfl (by omega) (by omega) (own_ext HV.out ((Stab.Ext.drew wr).trans hE)) hbk rfl (by simp [Value.oneCell']) (by omega) (by omega) hbw.size
    have HO := Lib.hid hown
    have HB := Lib.hid (hbw.trans hb5)
    clear hown hb5 hbw hbk hE h0 e11
    go_wp2_with fail
    go_roundw
    case rel => exact ⟨k + 1, by omega, by go_num, by rw [HT.out, show 2 * (k + 1) = 2 * k + 2 by omega]; simpa [Lib.byteCells] using HO.out, HB.out⟩
    case measure => simp [intOf]; omega
  ·have hk' : k = s.size := by omega
   subst hk'
   rw [List.take_of_length_le (by simp)] at hv
   have ht := own_text (P := Tryz.prog) (dst := 9) Tryz.underlying136 Tryz.underlying5 Tryz.underlying9 hv
   obtain ⟨A', cap', rfl, _⟩ := row_form hv
   clear hv
   go_wp2_with fail
   go_ret
   exact ⟨rfl, hbl⟩
end R1
end Go.Proofs.YtnbkhdbligjifaaGreatDoor
namespace Go.Proofs.YtnbkhdbligjifaaGreatDoor
open Go.RowKit
namespace R6
open Shd
theorem code_any (k n : Int) (w : World) :
 Calls Tryz.prog 129 #[.agg #[.int .i64 k, .int .i64 n]] w fun e w' => e = .returned (.bool (codeB k n)) ∧ Below w.heap.size w w' := by
 by_cases h1 : 1 ≤ k
 ·by_cases h2 : k ≤ n
  ·by_cases h3 : n ≤ 12
   ·go_enter Tryz.func129, Tryz.ntmps129
    go_wp2_with fail
    go_ret
    exact ⟨codeB_mk (by simp [codeB, h1, h2, h3]), (Below.refl _ _).alloc (Nat.le_refl _) _⟩
   ·go_enter Tryz.func129, Tryz.ntmps129
    go_wp2_with fail
    go_ret
    exact ⟨codeB_mk (by simp [codeB, h1, h2, h3]), (Below.refl _ _).alloc (Nat.le_refl _) _⟩
  ·go_enter Tryz.func129, Tryz.ntmps129
   go_wp2_with fail
   go_ret
   exact ⟨codeB_mk (by simp [codeB]; omega), (Below.refl _ _).alloc (Nat.le_refl _) _⟩
 ·go_enter Tryz.func129, Tryz.ntmps129
  go_wp2_with fail
  go_ret
  exact ⟨codeB_mk (by simp [codeB]; omega), (Below.refl _ _).alloc (Nat.le_refl _) _⟩
theorem ret_str {a b : ByteArray} (h : a = b) : Ending.returned (.string a) = .returned (.string b) := by rw [h]
theorem dec_small (n : Nat) (h : n < 10) : Lib.decDigits n = [UInt8.ofNat (48 + n)] := by rw [Lib.decDigits, dif_pos h]
theorem dec_more (n : Nat) (h : ¬ n < 10) : Lib.decDigits n = Lib.decDigits (n / 10) ++ [UInt8.ofNat (48 + n % 10)] := by rw [Lib.decDigits, dif_neg h]
theorem run_one (w : World) (X : Int) (c : UInt8) (h : X = (c.toNat : Int)) : (convert 136 9 (.slice (some ⟨w.heap.size, 0, none⟩) 1 1)).run Tryz.prog (w.alloc (.cells #[.int .u8 X] 5)) = .ok (.string ⟨#[c]⟩) (w.alloc (.cells #[.int .u8 X] 5)) := by
 subst h
 exact run_text (P := Tryz.prog) (src := 136) (e := 5) (dst := 9) (cap := 1) (r := #[]) (l := [c]) Tryz.underlying136 Tryz.underlying5 Tryz.underlying9 (Blk.new w 5 _)
theorem byte_of (n : Nat) (h : n < 256) : (n : Int) = ((UInt8.ofNat n).toNat : Int) := by rw [UInt8.toNat_ofNat']; omega
theorem digits_nat (n : Nat) (hn : n ≤ 9223372036854775807) (w : World) :
 Calls Tryz.prog 159 #[.int .i64 (n : Int)] w fun e w' => e = .returned (.string ⟨(Lib.decDigits n).toArray⟩) ∧ Below w.heap.size w w' := by
 induction n using Nat.strongRecOn generalizing w with
 | _ n ih =>
   have t0 : ¬ ((n : Int) < 0) := by omega
   by_cases h10 : n < 10
   ·have t1 : ¬ ((10 : Int) ≤ (n : Int)) := by omega
    have hm : (n : Int) % 10 = (n : Int) := by omega
    obtain ⟨c, hc⟩ : ∃ c, c = UInt8.ofNat (48 + n) := ⟨_, rfl⟩
    have hcv := run_one w (48 + (n : Int)) c (by rw [hc, ← byte_of _ (by omega)]; omega)
    have hw8 : (48 + (n : Int)) % 256 = 48 + (n : Int) := by omega
    have HD := Lib.hid ((dec_small n h10).trans (by rw [← hc]))
    clear ih hc
    go_enter Tryz.func159, Tryz.ntmps159
    go_wp2_with fail
    go_ret
    exact ⟨by rw [HD.out]; exact ret_str (by apply ByteArray.ext; simp), (Below.refl _ _).alloc (Nat.le_refl _) _⟩
   ·have t1 : ((10 : Int) ≤ (n : Int)) := by omega
    have hm : (n : Int) / 10 = ((n / 10 : Nat) : Int) := by omega
    have hm2 : (n : Int) % 10 = ((n % 10 : Nat) : Int) := by omega
    have HI := Lib.hid (ih (n / 10) (by omega) (by omega) w)
    obtain ⟨c, hc⟩ : ∃ c, c = UInt8.ofNat (48 + n % 10) := ⟨_, rfl⟩
    have HD := Lib.hid ((dec_more n h10).trans (by rw [← hc]))
    have hcv := fun w => run_one w (48 + ((n % 10 : Nat) : Int)) c (by rw [hc, ← byte_of _ (by omega)]; omega)
    have HCV := Lib.hid hcv
    have hr : n % 10 < 10 := by omega
    have hdl := dec_le (n / 10) 18 (by omega)
    clear ih hcv hc
    generalize n / 10 = p at *
    generalize n % 10 = q at *
    have hw8 : (48 + (q : Int)) % 256 = 48 + (q : Int) := by omega
    go_enter Tryz.func159, Tryz.ntmps159
    go_wp2_with (go_at_call 159; ((with_reducible refine HI.out.mono ?_); rintro e w1 ⟨rfl, hb1⟩; have hcv := HCV.out w1))
    have HB := Lib.hid (hb1.alloc hb1.size (.cells #[.int .u8 (48 + (q : Int))] 5))
    clear hb1
    go_ret
    exact ⟨by rw [HD.out]; exact ret_str (ba_append _ _), HB.out⟩
theorem digits_any (n : Int) (hn : I64 n) (w : World) :
 Calls Tryz.prog 159 #[.int .i64 n] w fun e w' => e = .returned (.string ⟨(Lib.itoa n).toArray⟩) ∧ Below w.heap.size w w' := by
 obtain ⟨hn0, hn1⟩ := hn
 by_cases h0 : 0 ≤ n
 ·obtain ⟨m, rfl⟩ := Int.eq_ofNat_of_zero_le h0
  have h := digits_nat m (by omega) w
  have e : Lib.itoa (m : Int) = Lib.decDigits m := by unfold Lib.itoa; rw [if_neg (by omega)]; rfl
  rw [e]
  exact h
 ·obtain ⟨m, hm⟩ : ∃ m : Nat, n = -(m : Int) := ⟨n.natAbs, by omega⟩
  subst hm
  have hm0 : 0 < m := by omega
  have e : Lib.itoa (-(m : Int)) = 45 :: Lib.decDigits m := by
   unfold Lib.itoa
   rw [if_pos (by omega)]
   have : (-(m : Int)).natAbs = m := by omega
   rw [this]
  have HE := Lib.hid e
  clear e
  have t0 : -(m : Int) < 0 := by omega
  obtain ⟨c, hc⟩ : ∃ c, c = UInt8.ofNat (48 + m % 10) := ⟨_, rfl⟩
  have hcv := fun w => run_one w (48 + ((m % 10 : Nat) : Int)) c (by rw [hc, ← byte_of _ (by omega)]; omega)
  have HCV := Lib.hid hcv
  have hr : m % 10 < 10 := by omega
  have e1 : (-(m : Int)).tdiv 10 = -((m / 10 : Nat) : Int) := by rw [Int.neg_tdiv, Int.tdiv_eq_ediv_of_nonneg (by omega)]; omega
  have e2 : (-(m : Int)).tmod 10 = -((m % 10 : Nat) : Int) := by rw [Int.neg_tmod, Int.tmod_eq_emod_of_nonneg (by omega)]; omega
  by_cases h10 : m < 10
  ·have HD := Lib.hid (HE.out.trans (by rw [dec_small m h10, show 48 + m = 48 + m % 10 by omega, ← hc] : _ = [45, c]))
   have e3 : m / 10 = 0 := by omega
   rw [e3] at e1
   have hcw := HCV.out w
   clear hcv hc HE e3
   generalize m % 10 = q at *
   have e4 : (48 - -(q : Int)) = 48 + (q : Int) := by omega
   have hw8 : (48 + (q : Int)) % 256 = 48 + (q : Int) := by omega
   go_enter Tryz.func159, Tryz.ntmps159
   go_wp2_with fail
   go_ret
   exact ⟨by rw [HD.out]; exact ret_str (by apply ByteArray.ext; simp), (Below.refl _ _).alloc (Nat.le_refl _) _⟩
  ·have HD := Lib.hid (HE.out.trans (by rw [dec_more m h10, ← hc] : _ = 45 :: (Lib.decDigits (m / 10) ++ [c])))
   have h10' : 0 < m / 10 := by omega
   have hp9 : m / 10 ≤ 1000000000000000000 := by omega
   have hdl := dec_le (m / 10) 18 (by omega)
   have HI := Lib.hid (digits_nat (m / 10) (by omega) w)
   clear hcv hc HE h10
   generalize m / 10 = p at *
   generalize m % 10 = q at *
   have e4 : (48 - -(q : Int)) = 48 + (q : Int) := by omega
   have e5 : - -(p : Int) = (p : Int) := by omega
   have e6 : (-(p : Int) != 0) = true := by simp; omega
   have hw8 : (48 + (q : Int)) % 256 = 48 + (q : Int) := by omega
   go_enter Tryz.func159, Tryz.ntmps159
   go_wp2_with (go_at_call 159; ((with_reducible refine HI.out.mono ?_); rintro e w1 ⟨rfl, hb1⟩; have hcv := HCV.out w1))
   have HB := Lib.hid (hb1.alloc hb1.size (.cells #[.int .u8 (48 + (q : Int))] 5))
   clear hb1
   go_ret
   exact ⟨by rw [HD.out]; exact ret_str (by apply ByteArray.ext; simp), HB.out⟩
theorem name_any (d : ByteArray) (hd : d.size ≤ 1000000) (n : Int) (hn : I64 n) (w : World) :
 Calls Tryz.prog 130 #[.string d, .int .i64 n] w fun e w' => e = .returned (.string ⟨(nameL d.data.toList n).toArray⟩) ∧ Below w.heap.size w w' := by
 have hdl : d.data.toList.length = d.size := by simp
 have hl1 := hex_len d.data.toList
 have hl2 := itoa_le n hn.1 hn.2
 have HN := Lib.hid hn
 clear hn
 go_enter Tryz.func130, Tryz.ntmps130
 go_wp2_with (go_at_call 158; refine (R1.hex_any d (by omega) w).mono ?_)
 rintro e w1 ⟨rfl, hb1⟩
 go_wp2_with (go_at_call 159; refine (digits_any n HN.out _).mono ?_)
 rintro e w2 ⟨rfl, hb2⟩
 go_wp2_with fail
 go_ret
 exact ⟨by rw [ba_append, ba_append]; unfold nameL; simp, hb1.trans (hb2.mono hb1.size)⟩
end R6
end Go.Proofs.YtnbkhdbligjifaaGreatDoor
