/-
 Plain words for SHA-256: a text of whole blocks, block by block. No program is named. The walks of the document's package strongboxref01: Sums, Sum. The document's Clash: what it tells. A row of texts as an argument, opened with its bounds; the row's builder that hands the bounds on.
-/
import Derived.Test.YtnbkhdbligjifaaGreatDoorShaCopy
import Derived.Test.YtnbkhdbligjifaaGreatDoorRef01Fill
import Derived.Test.YtnbkhdbligjifaaGreatDoorRef01Change
import Derived.Test.YtnbkhdbligjifaaGreatDoorSumL
import Derived.Test.YtnbkhdbligjifaaGreatDoorInfo
import Derived.Test.YtnbkhdbligjifaaGreatDoorStrA
set_option linter.unusedVariables false
set_option linter.unusedSimpArgs false
set_option maxRecDepth 100000
set_option maxHeartbeats 40000000
namespace Go.Proofs.YtnbkhdbligjifaaGreatDoor
open Go.RowKit
namespace Sha
def stN (r : List Int) (s : St) (F : List UInt8) : Nat → St
 | 0 => s
 | k + 1 => comp r ((F.drop (64 * k)).take 64) (stN r s F k)
theorem stN_ok (r : List Int) (s : St) (h : s.ok) (F : List UInt8) (k : Nat) : (stN r s F k).ok := by
 cases k with
 | zero => exact h
 | succ k => exact comp_ok _ _ _
theorem eat_stN (r : List Int) (s : St) (F : List UInt8) : ∀ k, 64 * k ≤ F.length → eat r (F.drop (64 * k)) (stN r s F k) = eat r F s
 | 0, _ => rfl
 | k + 1, h => by
   rw [← eat_stN r s F k (by omega), eat_step r (F.drop (64 * k)) _ (by rw [List.length_drop]; omega), List.drop_drop, show 64 * k + 64 = 64 * (k + 1) by omega]
   rfl
theorem stN_end (r : List Int) (s : St) (F : List UInt8) (k : Nat) (h : F.length = 64 * k) : stN r s F k = (eat r F s).1 := by
 rw [← eat_stN r s F k (by omega), ← h, List.drop_length, eat_end _ _ _ (by simp)]
theorem pad_length (n : Nat) : (pad n).length = 9 + zeros n := by simp [pad, lenBytes]; omega
theorem padded (l : List UInt8) : ∃ k, (l ++ pad l.length).length = 64 * k ∧ 64 * k ≤ l.length + 72 := by
 refine ⟨(l ++ pad l.length).length / 64, ?_, ?_⟩ <;> rw [List.length_append, pad_length, zeros] <;> omega
def outL (s : St) (k : Nat) : List UInt8 := (s.list.take k).flatMap bytes4
theorem outL_end (s : St) : outL s 8 = stBytes s := by rw [outL, List.take_of_length_le (by simp [St.list])]; rfl
theorem outL_succ (s : St) (k : Nat) (h : k < 8) : outL s (k + 1) = outL s k ++ bytes4 (s.list.getD k 0) := by
 have hl : k < s.list.length := by simpa [St.list] using h
 rw [outL, List.take_succ_eq_append_getElem hl, List.flatMap_append, outL]
 simp [List.getD, hl]
end Sha
end Go.Proofs.YtnbkhdbligjifaaGreatDoor
namespace Go.Proofs.YtnbkhdbligjifaaGreatDoor
open Go.RowKit
namespace R1
open Sha
attribute [local go_sem ↓] appSem_eq
def strs (ls : List (List UInt8)) : List Value := ls.map fun l => Value.string ⟨l.toArray⟩
def Strs (w : World) (v : Value) (ls : List (List UInt8)) : Prop := ∃ A c, v = .slice A ls.length c ∧ (0 < ls.length → ∃ g o, A = some ⟨g, o, none⟩ ∧ g < w.heap.size ∧ ∀ j, j < ls.length → w.cell? ⟨g, o + j, none⟩ = some (.string ⟨(ls.getD j []).toArray⟩))
theorem Strs.ext {w w' : World} {v : Value} {ls : List (List UInt8)} (h : Strs w v ls) (hE : Stab.Ext w w') : Strs w' v ls := by
 obtain ⟨A, c, h1, h2⟩ := h
 refine ⟨A, c, h1, fun h0 => ?_⟩
 obtain ⟨g, o, h3, h4, h5⟩ := h2 h0
 exact ⟨g, o, h3, Nat.lt_of_lt_of_le h4 hE.size, fun j hj => hE.cell (h5 j hj)⟩
theorem Strs.of_own {w : World} {base : Nat} {e : TypeId} {v : Value} {n : Nat} {ls : List (List UInt8)} (h : OwnG w base e 1 v n (strs ls)) : Strs w v ls := by
 have hn : n = ls.length := by have := h.1; simp [strs] at this; exact this.symm
 subst hn
 obtain ⟨A, c, rfl⟩ := h.shape
 refine ⟨A, c, rfl, fun h0 => ?_⟩
 obtain ⟨g, cap, he, _, _, hl⟩ := h.addr h0
 cases he
 refine ⟨g, 0, rfl, hl, fun j hj => ?_⟩
 rw [Nat.zero_add]
 exact h.cells rfl j _ (by simp [strs, hj, List.getD])
def Num8 (v : Value) (s : St) (w : World) : Prop := ∃ g c, v = .slice (some ⟨g, 0, none⟩) 8 c ∧ g < w.heap.size ∧ ∀ j, j < 8 → w.cell? ⟨g, j, none⟩ = some (.int .u32 (s.list.getD j 0))
theorem Num8.ext {v : Value} {s : St} {w w' : World} (h : Num8 v s w) (hE : Stab.Ext w w') : Num8 v s w' := by
 obtain ⟨g, c, h1, h2, h3⟩ := h
 exact ⟨g, c, h1, Nat.lt_of_lt_of_le h2 hE.size, fun j hj => hE.cell (h3 j hj)⟩
theorem change8_any (s : St) (hs : s.ok) (b : List UInt8) (hb : b.length = 64) (v : Value) (gr g o cr cap : Nat) (w : World) (hv : Num8 v s w)
 (hrr : ∀ j, j < 64 → w.cell? ⟨gr, j, none⟩ = some (.int .u32 (R64.getD j 0))) (hgr : gr < w.heap.size)
 (hrow : ∀ j, j < 64 → w.cell? ⟨g, o + j, none⟩ = some (.int .u8 (at8 b j))) (hgw : g < w.heap.size) :
 Calls Tryz.prog 97 #[v, .slice (some ⟨gr, 0, none⟩) 64 cr, .slice (some ⟨g, o, none⟩) 64 cap] w fun e w' => ∃ v', e = .returned v' ∧ Num8 v' (comp R64 b s) w' ∧ Stab.Ext w w' := by
 obtain ⟨gn, cn, rfl, hgn, hn⟩ := hv
 refine (change_any s hs R64 R64_len R64_small b hb gn gr g o cn cr cap w hn hgn hrr hgr hrow hgw).mono ?_
 rintro e w' ⟨gv, cv, rfl, _, hbk, hbl⟩
 exact ⟨_, rfl, ⟨gv, cv, rfl, hbk.lt, fun j hj => (hbk.cell j).trans (cells_get _ j hj)⟩, hbl⟩
theorem st_get {s : St} (h : s.ok) (j : Nat) : 0 ≤ s.list.getD j 0 ∧ s.list.getD j 0 < 4294967296 := by
 obtain ⟨h1, h2, h3, h4, h5, h6, h7, h8⟩ := h
 match j with
 | 0 => exact h1
 | 1 => exact h2
 | 2 => exact h3
 | 3 => exact h4
 | 4 => exact h5
 | 5 => exact h6
 | 6 => exact h7
 | 7 => exact h8
 | j + 8 => exact ⟨Int.le_refl _, by show (0 : Int) < _; omega⟩
def SumsEnd (ls : List (List UInt8)) (w : World) (e : Ending) (w' : World) : Prop := ∃ v, e = .returned v ∧ OwnG w' w.heap.size 9 1 v ls.length (strs (ls.map Shd.sumL)) ∧ Below w.heap.size w w'
def Row8 (v : Value) (l : List UInt8) (w : World) : Prop := ∃ g c, v = .slice (some ⟨g, 0, none⟩) l.length c ∧ l.length ≤ c ∧ g < w.heap.size ∧ ∀ j, j < l.length → w.cell? ⟨g, j, none⟩ = some (.int .u8 (at8 l j))
theorem Row8.ext {v : Value} {l : List UInt8} {w w' : World} (h : Row8 v l w) (hE : Stab.Ext w w') : Row8 v l w' := by
 obtain ⟨g, c, h1, h0, h2, h3⟩ := h
 exact ⟨g, c, h1, h0, Nat.lt_of_lt_of_le h2 hE.size, fun j hj => hE.cell (h3 j hj)⟩
theorem Row8.of_own {w : World} {base n : Nat} {e : TypeId} {v : Value} {l : List UInt8} (h : OwnG w base e 1 v n (Lib.byteCells l)) (h0 : 0 < l.length) : Row8 v l w := by
 have hn : n = l.length := by have := h.1; rw [Lib.byteCells_length] at this; omega
 subst hn
 obtain ⟨g, c, he, _, hc, hl⟩ := h.addr h0
 subst he
 refine ⟨g, c, rfl, hc, hl, fun j hj => h.cells rfl j _ ?_⟩
 simp [Lib.byteCells, hj, at8, List.getD]
theorem sums_any (ls : List (List UInt8)) (v : Value) (hls : ∀ l ∈ ls, l.length ≤ 70368744177664) (hn : ls.length ≤ 1000000000) (w : World) (hv : Strs w v ls) :
 Calls Tryz.prog 64 #[v] w (SumsEnd ls w) := by
 obtain ⟨A, c, rfl, ha⟩ := hv
 have HA := Lib.hid ha
 clear ha
 go_enter Tryz.func64, Tryz.ntmps64
 go_wp2_with (go_at_call 95; refine (roots_any _).mono ?_)
 rintro e w1 ⟨v1, v2, rfl, hv1, hv2, hb1⟩
 obtain ⟨A1, c1, rfl, hf1⟩ := row_form hv1
 obtain ⟨A2, c2, rfl, hf2⟩ := row_form hv2
 obtain ⟨g1, cur1, rfl, _, hB1, hc1⟩ := hf1 (by omega)
 obtain ⟨g2, cur2, rfl, _, hB2, hc2⟩ := hf2 (by omega)
 have hN : Num8 (.slice (some ⟨g1, 0, none⟩) 8 c1) S0 w1 := ⟨g1, c1, rfl, hB1.lt, fun j hj => by
  rw [hB1.cell]
  refine hc1 j _ ?_
  have : j < S0.list.length := hj
  simp [r32, List.getD, this]⟩
 have hR : ∀ j, j < 64 → w1.cell? ⟨g2, j, none⟩ = some (.int .u32 (R64.getD j 0)) := fun j hj => by
  rw [hB2.cell]
  refine hc2 j _ ?_
  have : j < R64.length := by rw [R64_len]; exact hj
  simp [r32, List.getD, this]
 have hs1 := hb1.size
 have HN := Lib.hid hN
 have HR := Lib.hid hR
 have HB1 := Lib.hid hb1
 have hg2 := hB2.lt
 clear hN hR hb1 hv1 hv2 hf1 hf2 hc1 hc2 hB1 hB2
 go_wp2_with fail
 go_loopw [5, 6] (fun o i wr => ∃ k : Nat, k ≤ ls.length ∧ i = .int .i64 (k : Int) ∧ OwnG wr w1.heap.size 9 1 o k (strs ((ls.take k).map Shd.sumL)) ∧ Below w1.heap.size w1 wr) (fun _ i _ => ls.length - (intOf i).toNat)
 case atStart => exact ⟨0, by omega, rfl, OwnG.nil _ _ _ _, Below.refl _ _⟩
 case round =>
  obtain ⟨k, hk, rfl, ho, hbl⟩ := hrel
  obtain ⟨wo, rfl⟩ : ∃ wo : World, wo = wr := ⟨_, rfl⟩
  have HO := Lib.hid ho
  have HBL := Lib.hid hbl
  have hso := hbl.size
  by_cases hlt : k < ls.length
  ·have hd : (k : Int) < (ls.length : Int) := by omega
   obtain ⟨ga, oa, rfl, hga, hca⟩ := HA.out (by omega)
   have hcell : wo.cell? ⟨ga, oa + k, none⟩ = some (.string ⟨(ls.getD k []).toArray⟩) := by
    have h1 : w1.cell? ⟨ga, oa + k, none⟩ = _ := (HB1.out.cell (p := ⟨ga, oa + k, none⟩) hga).trans (hca k hlt)
    exact (hbl.cell (p := ⟨ga, oa + k, none⟩) (by show ga < w1.heap.size; omega)).trans h1
   have hmem : ls.getD k [] ∈ ls := by simp [List.getD, hlt]
   have hT : (ls.take (k + 1)).map Shd.sumL = (ls.take k).map Shd.sumL ++ [Shd.sumL (ls.getD k [])] := by
    rw [List.take_succ_eq_append_getElem hlt, List.map_append, List.map_singleton, List.getD, List.getElem?_eq_getElem hlt]; rfl
   have HT := Lib.hid hT
   have hlm := hls _ hmem
   have HA2 := Lib.hid hca
   generalize ls.getD k [] = l at *
   obtain ⟨s, hs⟩ : ∃ s : ByteArray, s = ⟨l.toArray⟩ := ⟨_, rfl⟩
   have hsd : s.data.toList = l := by rw [hs]
   have hss : s.size = l.length := by rw [hs]; rfl
   rw [← hs] at hcell
   have HS := Lib.hid hsd
   have HSS := Lib.hid hss
   clear hs hsd hT hmem hca ho hbl
   go_wp2_with (go_at_call 96; refine (filled_any s (by have := HSS.out; omega) _).mono ?_)
   rintro e w2 ⟨vf, rfl, hfo, hb2⟩
   rw [HS.out, HSS.out] at hfo
   obtain ⟨nb, hnb, hnl⟩ := padded l
   have hrow := Row8.of_own hfo (by rw [List.length_append, pad_length]; omega)
   obtain ⟨F, hF⟩ : ∃ F, F = l ++ pad l.length := ⟨_, rfl⟩
   rw [← hF] at hrow hnb
   have HF := Lib.hid hF
   obtain ⟨gf, cf, rfl, hcf, hgf, hrow⟩ := hrow
   rw [hnb] at hrow hcf ⊢
   have HRW := Lib.hid hrow
   have HNB := Lib.hid hnb
   have HB2 := Lib.hid hb2
   have hs2 := hb2.size
   clear hF hfo hrow hnb hb2 hcell hss
   go_wp2_with fail
   have hN2 : Num8 (.slice (some ⟨g1, 0, none⟩) 8 c1) (stN R64 S0 F 0) w2 := (HN.out.ext (Below.mono HBL.out (Nat.le_refl _))).ext HB2.out
   go_loopw [7, 9] (fun n i wr => ∃ (m : Nat) (I : Int), m ≤ nb ∧ I = 64 * (m : Int) ∧ i = .int .i64 I ∧ Num8 n (stN R64 S0 F m) wr ∧ Stab.Ext w2 wr) (fun _ i _ => 64 * nb + 64 - (intOf i).toNat)
   case atStart => exact ⟨0, 0, by omega, rfl, rfl, hN2, Stab.Ext.refl _⟩
   case round =>
    obtain ⟨m, I, hm, hI, rfl, hN3, hE3⟩ := hrel
    clear hN2
    have HN3 := Lib.hid hN3
    have HE3 := Lib.hid hE3
    by_cases hlt2 : m < nb
    ·have e1 : (64 * nb : Nat) = 64 * nb := rfl
     have d1 : I < 64 * (nb : Int) := by omega
     have d2 : (0 : Int) ≤ I := by omega
     have d3 : I + 64 ≤ (cf : Int) := by omega
     have d4 : I ≤ I + 64 := by omega
     have d5 : (I + 64).toNat - I.toNat = 64 := by omega
     have d6 : I.toNat = 64 * m := by omega
     have HD6 := Lib.hid d6
     have HI := Lib.hid hI
     clear e1 d6 hI hN3 hE3
     have hg2w : g2 < wr.heap.size := by have := HE3.out.size; omega
     have hgfw : gf < wr.heap.size := by have := HE3.out.size; omega
     have hR3 : Hid (∀ j, j < 64 → wr.cell? ⟨g2, j, none⟩ = some (.int .u32 (R64.getD j 0))) := Lib.hid fun j hj => HE3.out.cell (HB2.out.cell (p := ⟨g2, j, none⟩) (by show g2 < wo.heap.size; omega) |>.trans ((HBL.out.cell (p := ⟨g2, j, none⟩) hg2).trans (HR.out j hj)))
     have hrow3 : Hid (∀ j, j < 64 → wr.cell? ⟨gf, I.toNat + j, none⟩ = some (.int .u8 (at8 ((F.drop (64 * m)).take 64) j))) := Lib.hid fun j hj => by
      have h1 := HE3.out.cell (HRW.out (64 * m + j) (by omega))
      rw [HD6.out, h1, at8, at8]
      simp [List.getD, hj]
     have hlen3 : Hid (((F.drop (64 * m)).take 64).length = 64) := Lib.hid (by rw [List.length_take, List.length_drop, HNB.out]; omega)
     go_wp2_with (go_at_call 97; refine (change8_any (stN R64 S0 F m) (stN_ok _ _ S0_ok _ _) ((F.drop (64 * m)).take 64) hlen3.out u7 g2 gf I.toNat c2 (cf - I.toNat) wr HN3.out hR3.out hg2w hrow3.out hgfw).mono ?_)
     rintro e w3 ⟨v3, rfl, hN4, hE4⟩
     have HN4 := Lib.hid hN4
     have HE4 := Lib.hid hE4
     clear hN4 hE4
     go_wp2_with fail
     go_roundw
     case rel => exact ⟨m + 1, I + 64, by omega, by have := HI.out; omega, rfl, HN4.out, HE3.out.trans HE4.out⟩
     case measure => simp [intOf]; omega
    ·have hme : m = nb := by omega
     subst hme
     have d1 : ¬ (I < 64 * (m : Int)) := by omega
     have hst : stN R64 S0 F m = (eat R64 F S0).1 := stN_end _ _ _ _ HNB.out
     rw [hst, HF.out] at hN3
     have hsum : stBytes (eat R64 (l ++ pad l.length) S0).1 = Shd.sumL l := rfl
     have HSM := Lib.hid hsum
     have HOK : Hid (∀ j, 0 ≤ (eat R64 (l ++ pad l.length) S0).1.list.getD j 0 ∧ (eat R64 (l ++ pad l.length) S0).1.list.getD j 0 < 4294967296) := Lib.hid (st_get (eat_ok _ _ _ S0_ok))
     generalize (eat R64 (l ++ pad l.length) S0).1 = st at *
     clear hst hsum HN3
     obtain ⟨w4, rfl⟩ : ∃ w4 : World, w4 = wr := ⟨_, rfl⟩
     have HN4 := Lib.hid hN3
     clear hN3 hI hE3
     go_wp2_with fail
     go_loopw [10, 11] (fun d i wr => ∃ j : Nat, j ≤ 8 ∧ i = .int .i64 (j : Int) ∧ OwnG wr w4.heap.size 5 1 d (4 * j) (Lib.byteCells (outL st j)) ∧ Below w4.heap.size w4 wr) (fun _ i _ => 8 - (intOf i).toNat)
     case atStart => exact ⟨0, by omega, rfl, OwnG.nil _ _ _ _, Below.refl _ _⟩
     case round =>
      obtain ⟨j, hj, rfl, hd, hbl5⟩ := hrel
      by_cases hlt3 : j < 8
      ·obtain ⟨gn, cn, rfl, hgn, hcn⟩ := HN4.out
       have hx := hcn j hlt3
       have hok : 0 ≤ st.list.getD j 0 ∧ st.list.getD j 0 < 4294967296 := HOK.out j
       have hL := outL_succ st j hlt3
       have HL := Lib.hid hL
       have HD := Lib.hid hd
       have HB5 := Lib.hid hbl5
       have hx5 : wr.cell? ⟨gn, j, none⟩ = some (.int .u32 (st.list.getD j 0)) := (hbl5.cell (p := ⟨gn, j, none⟩) hgn).trans hx
       have hb4 : bytes4 (st.list.getD j 0) = [UInt8.ofNat ((st.list.getD j 0).toNat / 16777216), UInt8.ofNat ((st.list.getD j 0).toNat / 65536), UInt8.ofNat ((st.list.getD j 0).toNat / 256), UInt8.ofNat ((st.list.getD j 0).toNat / 1)] := rfl
       have HB4 := Lib.hid hb4
       clear hL hd hbl5 hx hcn hb4
       generalize st.list.getD j 0 = x at *
       obtain ⟨x0, x1⟩ := hok
       obtain ⟨p1, hp1⟩ : ∃ p : Int, x.tdiv 16777216 = p := ⟨_, rfl⟩
       have ep1 : x / 16777216 = p1 := by rw [← hp1, Int.tdiv_eq_ediv_of_nonneg x0]
       obtain ⟨p2, hp2⟩ : ∃ p : Int, x.tdiv 65536 = p := ⟨_, rfl⟩
       have ep2 : x / 65536 = p2 := by rw [← hp2, Int.tdiv_eq_ediv_of_nonneg x0]
       obtain ⟨p3, hp3⟩ : ∃ p : Int, x.tdiv 256 = p := ⟨_, rfl⟩
       have ep3 : x / 256 = p3 := by rw [← hp3, Int.tdiv_eq_ediv_of_nonneg x0]
       obtain ⟨r2, hr2⟩ : ∃ p : Int, p2.tmod 256 = p := ⟨_, rfl⟩
       obtain ⟨r3, hr3⟩ : ∃ p : Int, p3.tmod 256 = p := ⟨_, rfl⟩
       obtain ⟨r4, hr4⟩ : ∃ p : Int, x.tmod 256 = p := ⟨_, rfl⟩
       have er2 : p2 % 256 = r2 := by rw [← hr2, Int.tmod_eq_emod_of_nonneg (by omega)]
       have er3 : p3 % 256 = r3 := by rw [← hr3, Int.tmod_eq_emod_of_nonneg (by omega)]
       have er4 : x % 256 = r4 := by rw [← hr4, Int.tmod_eq_emod_of_nonneg (by omega)]
       have s1 : IntKind.u32.wrap p1 = p1 := by rw [IntKind.wrap_u32']; omega
       have s2 : IntKind.u32.wrap p2 = p2 := by rw [IntKind.wrap_u32']; omega
       have s3 : IntKind.u32.wrap p3 = p3 := by rw [IntKind.wrap_u32']; omega
       have s4 : IntKind.u32.wrap r2 = r2 := by rw [IntKind.wrap_u32']; omega
       have s5 : IntKind.u32.wrap r3 = r3 := by rw [IntKind.wrap_u32']; omega
       have s6 : IntKind.u32.wrap r4 = r4 := by rw [IntKind.wrap_u32']; omega
       have b1 : IntKind.u8.wrap p1 = p1 := by rw [IntKind.wrap_u8]; omega
       have b2 : IntKind.u8.wrap r2 = r2 := by rw [IntKind.wrap_u8]; omega
       have b3 : IntKind.u8.wrap r3 = r3 := by rw [IntKind.wrap_u8]; omega
       have b4 : IntKind.u8.wrap r4 = r4 := by rw [IntKind.wrap_u8]; omega
       have HC : Hid (Lib.byteCells (outL st (j + 1)) = Lib.byteCells (outL st j) ++ [Value.int .u8 p1, Value.int .u8 r2, Value.int .u8 r3, Value.int .u8 r4]) := Lib.hid (by
        rw [HL.out, HB4.out, Lib.byteCells_append]
        have t1 : ((UInt8.ofNat (x.toNat / 16777216)).toNat : Int) = p1 := by rw [UInt8.toNat_ofNat']; omega
        have t2 : ((UInt8.ofNat (x.toNat / 65536)).toNat : Int) = r2 := by rw [UInt8.toNat_ofNat']; omega
        have t3 : ((UInt8.ofNat (x.toNat / 256)).toNat : Int) = r3 := by rw [UInt8.toNat_ofNat']; omega
        have t4 : ((UInt8.ofNat (x.toNat / 1)).toNat : Int) = r4 := by rw [UInt8.toNat_ofNat']; omega
        simp only [Lib.byteCells, List.map_cons, List.map_nil, t1, t2, t3, t4])
       have dj : (j : Int) < 8 := by omega
       clear er2 er3 er4 ep1 ep2 ep3 HL HB4
       have HX := Lib.hid hx5
       clear hx5
       go_wp2_with fail
       refine Stab.rg 28 [[], [], [], [1, 2], [3], [4], [5], [], [], [7, 8], [9], [10], [11], [12], [], [], [14, 15], [16], [17], [18], [19], [], [], [21, 22], [23], [24], [25], [6, 13, 20, 26]] [0, 27] (fun W => W.cell? ⟨gn, j, none⟩ = some (.int .u32 x)) [Stab.eqv ?_, Stab.eqv ?_, Stab.eqv ?_, Stab.eqv ?_, Stab.eqv ?_, Stab.eqv ?_, Stab.eqv ?_, Stab.eqv ?_, Stab.eqv ?_, Stab.eqv ?_, Stab.eqv ?_, Stab.eqv ?_, Stab.eqv ?_, Stab.eqv ?_, Stab.eqv ?_, Stab.eqv ?_, Stab.eqv ?_, Stab.eqv ?_, Stab.eqv ?_, Stab.eqv ?_, Stab.eqv ?_, Stab.eqv ?_, Stab.eqv ?_, Stab.eqv ?_, Stab.eqv ?_, Stab.eqv ?_, Stab.eqv ?_, Stab.newrow wr.heap.size 5 #[.int .u8 p1, .int .u8 r2, .int .u8 r3, .int .u8 r4] 4 4] HX.out (fun _ _ h hE => hE.cell h) ?goals16 ?last16
       case goals16 =>
        simp only [List.take_succ_cons, List.take_zero]
        iterate 27
         refine Stab.gp (fun us w _ hE hS hp hK => ?_) ?_
         ·((try have e0 : _ = _ := hp.1); (try have e1 : _ = _ := hp.2.1); (try have e2 : _ = _ := hp.2.2.1); go_simp; exact hK _ _ (by show _ = _; with_reducible rfl) (Stab.Ext.refl _))
        refine Stab.Goals.plain rfl rfl (fun us w cK hE hS hp hK => ?_) ?_
        ·obtain ⟨h6, h13, h20, h26, -⟩ := hp
         replace h6 : us 6 = _ := h6
         replace h13 : us 13 = _ := h13
         replace h20 : us 20 = _ := h20
         replace h26 : us 26 = _ := h26
         go_simp
         exact hK _ _ ⟨_, rfl, hE.size, Blk.new _ _ _⟩ (Stab.Ext.alloc _ _)
        exact Stab.Goals.nil
       case last16 =>
        intro us w' hE _ hp
        obtain ⟨h0, ⟨gb, e27, hgb, hbk⟩, -⟩ := hp
        replace h0 : us 0 = _ := h0
        simp only [List.drop_succ_cons, List.drop_zero, h0, e27]
        have hEx := (Stab.Ext.drew wr).trans hE
        have hbw := HB5.out.trans (Below.mono hEx HB5.out.size)
        obtain ⟨g5, c5, w5, hrun, hown, hb5, _⟩ := ownG_blk (c := 4) (m := 4) Tryz.underlying136 info_u8 rfl (by omega) (by omega) (HD.out.ext hEx) hbk rfl (by simp [Value.oneCell']) (by omega) (by omega) hbw.size
        have HO5 := Lib.hid hown
        have HB6 := Lib.hid (hbw.trans hb5)
        clear hown hb5 hbw hbk hE h0 e27 hEx
        obtain ⟨A', cap', hve⟩ := HD.out.shape
        subst hve
        go_wp2_with fail
        go_roundw
        case rel => exact ⟨j + 1, by omega, by go_num, by rw [HC.out, show 4 * (j + 1) = 4 * j + 4 by omega]; exact HO5.out, HB6.out⟩
        case measure => simp [intOf]; omega
      ·have hj8 : j = 8 := by omega
       subst hj8
       rw [outL_end, HSM.out] at hd
       have htx := ownG_text (P := Tryz.prog) (dst := 9) Tryz.underlying136 Tryz.underlying5 Tryz.underlying9 hd
       obtain ⟨A', cap', hve⟩ := hd.shape
       subst hve
       have hO5 := HO.out.ext (((Stab.Ext.trans HB2.out HE3.out)).trans (show Stab.Ext w4 wr from hbl5))
       have hB5 : Below w1.heap.size w1 wr := HBL.out.trans ((Below.mono HB2.out hso).trans ((Below.mono HE3.out (Nat.le_trans hso hs2)).trans (Below.mono hbl5 (Nat.le_trans hso (Nat.le_trans hs2 HE3.out.size)))))
       obtain ⟨g6, c6, w6, hrun, hown, hb6, _⟩ := ownG_new (c := 1) (m := 1) (C := #[.string ⟨(Shd.sumL l).toArray⟩]) Tryz.underlying60 info_str rfl (by omega) (by omega) hO5 rfl (by simp [Value.oneCell']) (by omega) (by omega) hB5.size
       have HO6 := Lib.hid hown
       have HB6 := Lib.hid (hB5.trans hb6)
       obtain ⟨A6, cap6, hv6⟩ := hO5.shape
       subst hv6
       clear hown hb6 hB5 hO5 hd hbl5
       go_wp2_with fail
       go_roundw
       case rel => exact ⟨k + 1, by omega, by go_num, by rw [HT.out]; simpa [strs] using HO6.out, HB6.out⟩
       case measure => simp [intOf]; omega
  ·have hke : k = ls.length := by omega
   subst hke
   have HN0 := Lib.hid hn
   have d1 : ¬ ((ls.length : Int) < (ls.length : Int)) := by omega
   clear ho hbl
   go_wp2_with fail
   go_ret
   refine ⟨_, rfl, ?_, HB1.out.trans (Below.mono HBL.out hs1)⟩
   have h := HO.out
   rw [List.take_length] at h
   refine ⟨h.1, ?_⟩
   rcases h.2 with h | ⟨g, cap, cur, fz, h1, h2, h3⟩
   ·exact .inl h
   ·exact .inr ⟨g, cap, cur, fz, h1, Nat.le_trans hs1 h2, h3⟩
theorem sum_any (s : ByteArray) (hs : s.size ≤ 70368744177664) (w : World) :
 Calls Tryz.prog 131 #[.string s] w fun e w' => e = .returned (.string ⟨(Shd.sumL s.data.toList).toArray⟩) ∧ Below w.heap.size w w' := by
 have hsl : s.data.toList.length = s.size := by simp
 have hst : Strs (w.alloc (.cells #[.string s] 9)) (.slice (some ⟨w.heap.size, 0, none⟩) 1 1) [s.data.toList] := ⟨_, 1, rfl, fun _ => ⟨w.heap.size, 0, rfl, by simp, fun j hj => by
  obtain rfl : j = 0 := by simpa using hj
  exact (Blk.new w 9 #[.string s]).cell 0⟩⟩
 have HC := Lib.hid (sums_any [s.data.toList] (.slice (some ⟨w.heap.size, 0, none⟩) 1 1) (by simpa using hs) (by simp) _ hst)
 clear hst
 go_enter Tryz.func131, Tryz.ntmps131
 go_wp2_with (go_at_call 64; refine HC.out.mono ?_)
 rintro e w' ⟨v, rfl, hv, hb⟩
 obtain ⟨g, cap, rfl, _, _, _⟩ := hv.addr (by simp)
 have hc : w'.cell? ⟨g, 0, none⟩ = some (.string ⟨(Shd.sumL s.data.toList).toArray⟩) := hv.cells rfl 0 _ (by simp [strs])
 have HB := Lib.hid ((Stab.Ext.alloc w (.cells #[.string s] 9)).trans hb)
 clear hv hb
 go_wp2_with fail
 go_ret
 exact ⟨rfl, HB.out⟩
end R1
end Go.Proofs.YtnbkhdbligjifaaGreatDoor
namespace Go.Proofs.YtnbkhdbligjifaaGreatDoor
open Go Go.RowKit Vm
open scoped Classical
namespace Str
open Hlt
def TextsAt (w : World) (v : Value) (xs : List ByteArray) : Prop :=
 ∃ A c, v = .slice A xs.length c ∧ xs.length ≤ c ∧ (0 < xs.length → ∃ g o, A = some ⟨g, o, none⟩ ∧ g < w.heap.size ∧ ∀ j x, xs[j]? = some x → w.cell? ⟨g, o + j, none⟩ = some (.string x))
theorem TextsAt.ext {w w' : World} {v : Value} {xs : List ByteArray} (h : TextsAt w v xs) (hf : Fr [] w w') : TextsAt w' v xs := by
 obtain ⟨A, c, h1, h2, h3⟩ := h
 refine ⟨A, c, h1, h2, fun h0 => ?_⟩
 obtain ⟨g, o, q1, q2, q3⟩ := h3 h0
 exact ⟨g, o, q1, Nat.lt_of_lt_of_le q2 hf.size, fun j x hx => (World.cell?_of_block (hf.block g q2 (by simp))).trans (q3 j x hx)⟩
theorem TextsAt.strs {w : World} {v : Value} {xs : List ByteArray} (h : TextsAt w v xs) : R1.Strs w v (xs.map fun x => x.data.toList) := by
 obtain ⟨A, c, h1, h2, h3⟩ := h
 refine ⟨A, c, by rw [List.length_map]; exact h1, fun h0 => ?_⟩
 rw [List.length_map] at h0
 obtain ⟨g, o, q1, q2, q3⟩ := h3 h0
 refine ⟨g, o, q1, q2, fun j hj => ?_⟩
 rw [List.length_map] at hj
 rw [q3 j xs[j] (List.getElem?_eq_getElem hj), List.getD, List.getElem?_map, List.getElem?_eq_getElem hj]
 rfl
theorem dgB_sum (x : ByteArray) : (⟨(Shd.sumL x.data.toList).toArray⟩ : ByteArray) = dgB x := by
 rw [← dgB_list]
def NoClash (xs : List ByteArray) (i : Nat) : Prop := ∀ a b, b < a → a < i → ∀ x y, xs[a]? = some x → xs[b]? = some y → dgB x = dgB y → x = y
theorem clash_all {xs : List ByteArray} (h : NoClash xs xs.length) : ¬ Clashes xs := by
 rintro ⟨x, hx, y, hy, he, hne⟩
 obtain ⟨a, ha, rfl⟩ := List.mem_iff_getElem.1 hx
 obtain ⟨b, hb, rfl⟩ := List.mem_iff_getElem.1 hy
 rcases Nat.lt_trichotomy a b with hl | hl | hl
 ·exact hne (h b a hl hb _ _ (List.getElem?_eq_getElem hb) (List.getElem?_eq_getElem ha) he.symm).symm
 ·subst hl; exact hne rfl
 ·exact hne (h a b hl ha _ _ (List.getElem?_eq_getElem ha) (List.getElem?_eq_getElem hb) he)
theorem clash_any (xs : List ByteArray) (v : Value) (hls : ∀ x ∈ xs, x.size ≤ 70368744177664) (hn : xs.length ≤ 1000000000) (w : World) (hv : TextsAt w v xs) :
 Calls Tryz.prog 29 #[v] w fun e w' => e = .returned (.bool (decide (Clashes xs))) ∧ Below w.heap.size w w' := by
 have HS := Lib.hid (R1.sums_any (xs.map fun x => x.data.toList) v (fun l hl => by
  obtain ⟨x, hx, rfl⟩ := List.mem_map.1 hl
  have := hls x hx
  simpa using this) (by rw [List.length_map]; exact hn) w hv.strs)
 have HV := Lib.hid hv
 obtain ⟨A, c, hve, hlc, -⟩ := hv
 subst hve
 go_enter Tryz.func29, Tryz.ntmps29
 go_wp2_with (go_at_call 64; with_reducible refine HS.out.mono ?_)
 intro e w1 hq1
 obtain ⟨v1, he1, ho1, hb1⟩ := hq1
 subst he1
 rw [List.length_map] at ho1
 have hcl : ∀ (j : Nat) (x : ByteArray), xs[j]? = some x → (R1.strs ((xs.map fun x => x.data.toList).map Shd.sumL))[j]? = some (Value.string (dgB x)) := fun j x hx => by
  simp only [R1.strs, List.getElem?_map, hx, Option.map_some, dgB_sum]
 obtain ⟨A1, c1, hv1⟩ := OwnG.shape ho1
 subst hv1
 have HO := Lib.hid ho1
 have HCL := Lib.hid hcl
 have HB := Lib.hid (show Stab.Ext w w1 from hb1)
 have HV1 := Lib.hid (HV.out.ext (Fr.of_below (O := []) hb1))
 clear hb1 ho1 hcl HS
 go_wp2_with fail
 go_loopw [4] (fun i wr => ∃ q : Nat, q ≤ xs.length ∧ i = .int .i64 (q : Int) ∧ NoClash xs q ∧ Stab.Ext w1 wr) (fun i _ => xs.length - (intOf i).toNat)
 case atStart => exact ⟨0, by omega, rfl, fun a b _ ha => absurd ha (Nat.not_lt_zero _), Stab.Ext.refl _⟩
 case round =>
  obtain ⟨q, hq, rfl, hnc, hE⟩ := hrel
  have HNC := Lib.hid hnc
  have HE := Lib.hid hE
  by_cases hlt : q < xs.length
  ·have hlt2 : (q : Int) < (xs.length : Int) := by omega
   clear hnc hE
   go_wp2_with fail
   go_loopw [5] (fun k wx => ∃ m : Nat, m ≤ q ∧ k = .int .i64 (m : Int) ∧ (∀ b, b < m → ∀ x y, xs[q]? = some x → xs[b]? = some y → dgB x = dgB y → x = y) ∧ Stab.Ext w1 wx) (fun k _ => q - (intOf k).toNat)
   case atStart => exact ⟨0, by omega, rfl, fun b hb => absurd hb (Nat.not_lt_zero _), HE.out⟩
   case round =>
    obtain ⟨m, hm, rfl, hmc, hE⟩ := hrel
    have HMC := Lib.hid hmc
    have HE2 := Lib.hid hE
    by_cases hml : m < q
    ·have hml2 : (m : Int) < (q : Int) := by omega
     have hxq := List.getElem?_eq_getElem hlt
     have hxm := List.getElem?_eq_getElem (show m < xs.length by omega)
     obtain ⟨A2, c2, hv2, -, h3⟩ := HV1.out.ext (Fr.of_below (O := []) hE)
     obtain ⟨g, o, hA, hgl, hc⟩ := h3 (by omega)
     cases hv2
     subst hA
     have r0 := hc q _ hxq
     have r1 := hc m _ hxm
     have hO := OwnG.ext HO.out hE
     obtain ⟨g1, c1', hv1, -⟩ := OwnG.addr hO (by omega)
     obtain ⟨rfl, rfl⟩ : A1 = some ⟨g1, 0, none⟩ ∧ c1 = c1' := by cases hv1; exact ⟨rfl, rfl⟩
     have s0 := OwnG.cells hO rfl q _ (HCL.out q _ hxq)
     have s1 := OwnG.cells hO rfl m _ (HCL.out m _ hxm)
     have HQX := Lib.hid hxq
     have HMX := Lib.hid hxm
     clear hmc hE h3 hc hv1 hO hxq hxm
     generalize xs[q] = x at *
     generalize xs[m] = y at *
     have hmo : Tryz.prog.follows .mixedOrders = true := by kernel_rfl
     by_cases hd : dgB x = dgB y
     ·by_cases hxy : x = y
      ·subst hxy
       have HM2 := Lib.hid (show ∀ b, b < m + 1 → ∀ x y, xs[q]? = some x → xs[b]? = some y → dgB x = dgB y → x = y from fun b hb x' y' h1 h2 h3 => by
        by_cases he : b = m
        ·subst he
         rw [HQX.out] at h1
         rw [HMX.out] at h2
         cases h1; cases h2; rfl
        ·exact HMC.out b (by omega) x' y' h1 h2 h3)
       clear hd
       go_wp2_with fail
       go_region
       go_wp2_with fail
       go_roundw
       case rel => exact ⟨m + 1, by omega, by go_num, HM2.out, HE2.out.trans (Stab.Ext.drew _)⟩
       case measure => simp [intOf]; omega
      ·have hne : (x.toList == y.toList) = false := by
        rw [beq_eq_false_iff_ne]
        exact fun e => hxy (bytes_inj.1 e)
       have HC := Lib.hid (show Clashes xs from ⟨x, List.mem_of_getElem? HQX.out, y, List.mem_of_getElem? HMX.out, hd, hxy⟩)
       rw [hd] at s0
       clear hd hxy
       go_wp2_with fail
       go_region
       go_wp2_with fail
       go_ret
       exact ⟨by simp [HC.out], HB.out.trans (HE2.out.trans (Stab.Ext.drew _))⟩
     ·have hdn : ((dgB x).toList == (dgB y).toList) = false := by
       rw [beq_eq_false_iff_ne]
       exact fun e => hd (bytes_inj.1 e)
      have HM2 := Lib.hid (show ∀ b, b < m + 1 → ∀ x y, xs[q]? = some x → xs[b]? = some y → dgB x = dgB y → x = y from fun b hb x' y' h1 h2 h3 => by
       by_cases he : b = m
       ·subst he
        rw [HQX.out] at h1
        rw [HMX.out] at h2
        cases h1; cases h2; exact absurd h3 hd
       ·exact HMC.out b (by omega) x' y' h1 h2 h3)
      clear hd
      go_wp2_with fail
      go_region
      go_wp2_with fail
      go_roundw
      case rel => exact ⟨m + 1, by omega, by go_num, HM2.out, HE2.out.trans (Stab.Ext.drew _)⟩
      case measure => simp [intOf]; omega
    ·obtain rfl : q = m := by omega
     have d1 : ¬ ((q : Int) < (q : Int)) := by omega
     have HN2 := Lib.hid (show NoClash xs (q + 1) from fun a b hba ha x y h1 h2 h3 => by
      by_cases he : a = q
      ·subst he; exact HMC.out b hba x y h1 h2 h3
      ·exact HNC.out a b hba (by omega) x y h1 h2 h3)
     clear hmc hE
     go_wp2_with fail
     go_roundw
     case rel => exact ⟨q + 1, by omega, by go_num, HN2.out, HE2.out⟩
     case measure => simp [intOf]; omega
  ·obtain rfl : q = xs.length := by omega
   have d1 : ¬ ((xs.length : Int) < (xs.length : Int)) := by omega
   have HCC := Lib.hid (clash_all HNC.out)
   clear hnc hE
   go_wp2_with fail
   go_ret
   exact ⟨by simp [HCC.out], HB.out.trans HE.out⟩
end Str
end Go.Proofs.YtnbkhdbligjifaaGreatDoor
namespace Go.Proofs.YtnbkhdbligjifaaGreatDoor
open Go.ChangeShapes Go.WideShapes Go.ChangeAt Go.RowKit Go.Joins Go.Deep
namespace Hlt
open Vm
theorem handed_sized {H : Type} {enc : TypeId × Value → H} {a : Assume} {C : Checked} {os : Os} {f : FuncId} {fn : Func} {s : ChangeSpec} {conds : List PathCond} {apart fresh handsOn again : Bool} {X : World → Array Value → Prop}
 (hX : ∀ (w w' : World) (args : Array Value), w.heap = w'.heap → X w args → X w' args)
 (own : ownKnob C.prog.godebug = none) (started : os.Started) (noInit : C.prog.inits.idxOf? f = none) (hfn : C.prog.funcs[f]? = some fn)
 (witness : ∃ (w : World) (tape : Tape) (i : Input), w.os = os ∧ (w.forCall tape i).Shaped C.prog ∧ i.vars = [] ∧ Input.okWide C.prog (w.forCall tape i) .any w.heap.size f i ∧
  ((s.pre enc C.prog fn conds apart (w.forCall tape i).memory i.args ∧ X (w.forCall tape i).memory i.args) ∧ sizedMet enc C.prog fn (OpenSpec.ofChange s) apart (w.forCall tape i).memory i.args) ∧ a.holds C.prog (lone (Frame.enter C.prog f i.args .normal) [] (w.forCall tape i)))
 (contract : ∀ (W : World) (base : Nat) (args : Array Value) (ds gs : List (DataW H)) (before : List MemPlace),
  (∀ (j : Nat) t v, fn.params[j]? = some t → args[j]? = some v → Value.okWide C.prog W .any base t v) →
  DataW.Whole enc C.prog fn.params.toList s.vars apart W args.toList ds gs before →
  (DataW.weightsEach C.prog (fn.params.toList ++ s.plain.varTypes C.prog) (ds ++ gs)).all (· ≤ reachBytes) = true →
  W.ShapedOpen C.prog → X W args →
  Calls C.prog f args W fun e W' => ∃ v, e = .returned v ∧ s.post enc C.prog fn apart fresh handsOn again W args v W') :
 ReturnsInHanded a C os f .any (fun w args => (s.pre enc C.prog fn conds apart w args ∧ X w args) ∧ sizedMet enc C.prog fn (OpenSpec.ofChange s) apart w args) (s.post enc C.prog fn apart fresh handsOn again) := by
 refine returnsInHanded_of_calls own started noInit witness ?_
 intro w tape i _ hsh _ hok hpre hholds
 obtain ⟨_, _, _, fn', hfn', _, _, _, _, hval⟩ := hok
 have e : fn' = fn := Option.some.inj (hfn'.symm.trans hfn)
 subst e
 obtain ⟨⟨⟨ds, gs, before, hw, hc⟩, hx⟩, hz⟩ := hpre
 have hw' := DataW.Whole.of_heap (w' := w.forCall tape i) (by rfl) hw
 refine (contract (w.forCall tape i) w.heap.size i.args ds gs before hval hw' (hz.weights hw) hsh (hX _ _ _ (by rfl) hx)).mono fun e W' ⟨v, he, hp⟩ => ?_
 subst he
 exact ChangeSpec.post_blind hp
theorem second_sized {H : Type} {P : Program} {t0 t1 : TypeId} {ts : List TypeId} {d0 d1 : DataW H} {r : List (DataW H)} (h : (DataW.weightsEach P (t0 :: t1 :: ts) (d0 :: d1 :: r)).all (· ≤ reachBytes) = true) : (d1.weights P t1).all (· ≤ reachBytes) = true := by
 simp only [DataW.weightsEach, List.all_append, Bool.and_eq_true] at h
 exact h.2.1
theorem weightsAll_mem {H : Type} {P : Program} {e : TypeId} {d : DataW H} {y : Nat} (hy : y ∈ d.weights P e) : ∀ {l : List (DataW H)}, d ∈ l → y ∈ DataW.weightsAll P e l
 | x :: l, h => by
   rw [DataW.weightsAll, List.mem_append]
   rcases List.mem_cons.1 h with rfl | h
   ·exact .inl hy
   ·exact .inr (weightsAll_mem hy h)
section
variable {H : Type} {enc : TypeId × Value → H} {w : World} {base : Nat} {held : Bool} {b0 : Nat} {r : Reach}
theorem open_textsz {v : Value} {d : DataW H} {p : List MemPlace} (hv : Value.okWide Tryz.prog w r b0 60 v) (h : DataW.Trod enc Tryz.prog w base (fun _ => true) held 60 v d p)
 (hz : (d.weights Tryz.prog 60).all (· ≤ reachBytes) = true) : ∃ l : List ByteArray, Str.TextsAt w v l ∧ ∀ x ∈ l, x.size ≤ 140737488351232 := by
 obtain ⟨a0, len0, cap0, rfl⟩ := okWide_slice Tryz.underlying60 hv
 obtain ⟨fuel, hf⟩ := h
 have h1 : Tryz.prog.cellsOf 9 = 1 := by kernel_rfl
 rcases Go.Deep.open_slice Tryz.underlying60 hf with ⟨hc, _⟩ | ⟨a, len, cap, m, n, D, Pl, hc, hb, hlc, hcm, hm, hx, hi⟩
 ·simp [Value.cells] at hc
  obtain ⟨rfl, rfl, rfl⟩ := hc
  exact ⟨[], ⟨none, 0, rfl, Nat.le_refl _, fun h => absurd h (Nat.lt_irrefl _)⟩, fun x hx => by cases hx⟩
 ·simp [Value.cells] at hc
  obtain ⟨rfl, rfl, rfl⟩ := hc
  simp only [if_true] at hm
  subst hm
  have hd := (Prod.mk.inj hx).1
  subst hd
  have key : ∀ i, i < len0 → ∃ x : ByteArray, w.cell? (a.add i) = some (.string x) ∧ x.size ≤ 140737488351232 := by
   intro i hil
   obtain ⟨cs', hcs, ht⟩ := hi i (by omega)
   rw [h1, Nat.mul_one] at hcs
   obtain ⟨_, hl, hcell⟩ := World.cells?_some hcs
   obtain ⟨c, rfl⟩ : ∃ c, cs' = [c] := by
    match cs', hl with
    | [c], _ => exact ⟨c, rfl⟩
   obtain ⟨x0, he, hD, _⟩ := DataW.trod_string Tryz.underlying9 ht
   simp at he
   subst he
   have h0 := hcell 0 (by simp)
   have ha : (a.add i).add 0 = a.add i := by simp [Addr.add]
   rw [ha] at h0
   refine ⟨x0, h0, ?_⟩
   have hDi := (Prod.mk.inj hD).1
   have hmem : x0.data.toList.length ∈ DataW.weightsAll Tryz.prog 9 ((List.range len0).map D) := weightsAll_mem (d := D i) (by rw [hDi]; simp [DataW.weights]) (List.mem_map.2 ⟨i, List.mem_range.2 hil, rfl⟩)
   have hall := List.all_eq_true.1 hz x0.data.toList.length (by
    rw [DataW.weights, Tryz.underlying60]
    exact List.mem_cons_of_mem _ (List.mem_append_left _ hmem))
   have : x0.data.toList.length ≤ reachBytes := of_decide_eq_true hall
   have e2 : x0.data.toList.length = x0.size := by simp
   have e3 : reachBytes = 140737488351232 := by decide
   omega
  obtain ⟨l, rfl, hp⟩ := list_of len0 key
  refine ⟨l, ⟨some a, _, rfl, hlc, fun hl0 => ?_⟩, fun x hx => ?_⟩
  ·have h00 := (hp 0 l[0] (List.getElem?_eq_getElem hl0)).1
   obtain ⟨g, o, sp⟩ := a
   obtain rfl : sp = none := add_none h00
   have hadd : ∀ j, (⟨g, o, none⟩ : Addr).add j = ⟨g, o + j, none⟩ := fun j => by unfold Addr.add; split <;> simp_all
   refine ⟨g, o, rfl, ?_, fun i x hx => ?_⟩
   ·rw [hadd] at h00; exact lt_cell h00
   ·have := (hp i x hx).1
    rw [hadd] at this
    exact this
  ·obtain ⟨i, hi, rfl⟩ := List.mem_iff_getElem.1 hx
   exact (hp i _ (List.getElem?_eq_getElem hi)).2
end
end Hlt
end Go.Proofs.YtnbkhdbligjifaaGreatDoor
