/-
 The walks of the document's package strongboxref01: Filled. The walks of the document's package strongboxref01: Sums, Sum.
-/
import Derived.Test.YtdbkadickikgjaaGreatDoorOwnG
import Derived.Test.YtdbkadickikgjaaGreatDoorInfo
import Derived.Test.YtdbkadickikgjaaGreatDoorShaEat
import Derived.Test.YtdbkadickikgjaaGreatDoorRef01Change
import Derived.Test.YtdbkadickikgjaaGreatDoorShaBlocks
import Derived.Test.YtdbkadickikgjaaGreatDoorSumL
namespace Go.Proofs.YtdbkadickikgjaaGreatDoor
open Go.RowKit
namespace R1
open Sha
attribute [local go_sem ↓] appSem_eq
def slen : Value → Nat
 | .slice _ n _ => n
 | _ => 0
def onez (k : Nat) : List UInt8 := 128 :: List.replicate k 0
theorem onez_snoc (k : Nat) : onez (k + 1) = onez k ++ [0] := by simp [onez, List.replicate_succ']
theorem cells_snoc (l : List UInt8) (b : UInt8) (x : Int) (h : x = (b.toNat : Int)) : Lib.byteCells l ++ [Value.int .u8 x] = Lib.byteCells (l ++ [b]) := by rw [h]; simp [Lib.byteCells]
def FilledEnd (s : ByteArray) (w : World) (e : Ending) (w' : World) : Prop := ∃ v, e = .returned v ∧ OwnG w' w.heap.size 5 1 v (s.data.toList ++ pad s.size).length (Lib.byteCells (s.data.toList ++ pad s.size)) ∧ Below w.heap.size w w'
set_option maxRecDepth 100000 in
set_option maxHeartbeats 2000000 in
theorem filled_any (s : ByteArray) (hs : s.size ≤ 70368744177664) (w : World) :
   Calls Tryz.prog 240 #[.string s] w (FilledEnd s w) := by
 have hsl : s.data.toList.length = s.size := by simp
 have hcv := fun (w : World) => Lib.run_convert_string_bytes (P := Tryz.prog) w 9 145 5 s Tryz.underlying9 Tryz.underlying145 Tryz.underlying5
 have hcw := hcv w
 have hb1 := Lib.bytesWorld_below w 5 s
 have ho1 := ownG_bytes w 5 s w.heap.size (Nat.le_refl _) hs
 have hz1 := Lib.bytesWorld_size w 5 s
 clear hcv
 generalize Lib.bytesWorld w 5 s = w1 at *
 generalize grownCap w s.size 0 5 = c1 at *
 obtain ⟨g5, c5, w5, hrun, hown, hb5, _⟩ := ownG_new (c := 1) (m := 1) (C := #[.int .u8 128]) Tryz.underlying145 info_u8 rfl (by omega) (by omega) ho1 rfl (by simp [Value.oneCell']) (by omega) (by omega) hb1.size
 have HO := Lib.hid hown
 have HB := Lib.hid (hb1.trans hb5)
 have HZ := Lib.hid hz1
 clear hown hb5 hb1 hz1 ho1
 go_enter Tryz.func240, Tryz.ntmps240
 go_wp2_with fail
 have ho := HO.out
 rw [show Lib.byteCells s.data.toList ++ (#[Value.int IntKind.u8 128] : Array Value).toList = Lib.byteCells (s.data.toList ++ onez 0) from cells_snoc _ 128 _ rfl] at ho
 have hbb := HB.out
 clear hrun hcw
 go_loopw [3] (fun v wr => ∃ k : Nat, k ≤ zeros s.size ∧ OwnG wr w.heap.size 5 1 v (s.size + 1 + k) (Lib.byteCells (s.data.toList ++ onez k)) ∧ Below w.heap.size w wr) (fun v _ => s.size + 1 + zeros s.size - slen v)
 case atStart => exact ⟨0, by omega, ho, hbb⟩
 case round =>
   obtain ⟨k, hk, hv, hbl⟩ := hrel
   clear ho hbb
   obtain ⟨A', cap', rfl⟩ := hv.shape
   have hzd : zeros s.size = (119 - s.size % 64) % 64 := rfl
   have hu : (0 : Int) ≤ ((s.size + 1 + k : Nat) : Int) := by omega
   by_cases hlt : k < zeros s.size
   · have t1 : (((s.size + 1 + k : Nat) : Int) % 64 != 56) = true := by simp; omega
     have hm : (Nat.cast (s.size + 1 + k) : Int) = (s.size : Int) + 1 + (k : Int) := by omega
     rw [hm] at t1 hu
     obtain ⟨g6, c6, w6, hrun, hown, hb6, _⟩ := ownG_new (c := 1) (m := 1) (C := #[.int .u8 0]) Tryz.underlying145 info_u8 rfl (by omega) (by omega) hv rfl (by simp [Value.oneCell']) (by omega) (by omega) hbl.size
     have HO2 := Lib.hid hown
     have HB2 := Lib.hid (hbl.trans hb6)
     clear hown hb6 hzd hm
     go_wp2_with fail
     go_roundw
     case rel => exact ⟨k + 1, by omega, by rw [onez_snoc, ← List.append_assoc, ← cells_snoc _ 0 0 rfl]; exact HO2.out, HB2.out⟩
     case measure => simp [slen]; omega
   · obtain rfl : k = zeros s.size := by omega
     have t1 : (((s.size + 1 + zeros s.size : Nat) : Int) % 64 != 56) = false := by simp; omega
     have hm : (Nat.cast (s.size + 1 + zeros s.size) : Int) = (s.size : Int) + 1 + (zeros s.size : Int) := by omega
     rw [hm] at t1 hu
     clear hzd hm
     go_wp2_with fail
     have hv0 : OwnG wr w.heap.size 5 1 (.slice A' (s.size + 1 + zeros s.size) cap') (s.size + 1 + zeros s.size + 0) (Lib.byteCells (s.data.toList ++ onez (zeros s.size) ++ (lenBytes s.size).take 0)) := by simpa using hv
     go_loopw [3, 5] (fun v i wr => ∃ (j : Nat) (I : Int), j ≤ 8 ∧ I = 56 - 8 * (j : Int) ∧ i = .int .i64 I ∧ OwnG wr w.heap.size 5 1 v (s.size + 1 + zeros s.size + j) (Lib.byteCells (s.data.toList ++ onez (zeros s.size) ++ (lenBytes s.size).take j)) ∧ Below w.heap.size w wr) (fun _ i _ => (intOf i + 8).toNat)
     case atStart => exact ⟨0, 56, by omega, rfl, rfl, hv0, hbl⟩
     case round =>
       obtain ⟨j, I, hj, hI, rfl, hv, hbl⟩ := hrel
       clear hv0
       obtain ⟨A', cap', rfl⟩ := hv.shape
       by_cases hlt : j < 8
       · have hlb : (lenBytes s.size).take (j + 1) = (lenBytes s.size).take j ++ [UInt8.ofNat (s.size * 8 % 18446744073709551616 / 256 ^ (7 - j))] := by
           rw [List.take_succ_eq_append_getElem (by simp [lenBytes]; omega)]
           simp [lenBytes]
         have HLB := Lib.hid hlb
         clear hlb
         have HV := Lib.hid hv
         have HBL := Lib.hid hbl
         have HI := Lib.hid hI
         have i0 : 0 ≤ I := by omega
         have i1 : I < 64 := by omega
         clear hv hbl hI
         obtain ⟨X, hX⟩ : ∃ X : Int, (s.size : Int) * 8 / 2 ^ I.toNat % 256 = X := ⟨_, rfl⟩
         have hXB : X = ((UInt8.ofNat (s.size * 8 % 18446744073709551616 / 256 ^ (7 - j))).toNat : Int) := by
           have e1 : I.toNat = 8 * (7 - j) := by have := HI.out; omega
           rw [← hX, e1, UInt8.toNat_ofNat', Nat.mod_eq_of_lt (by omega : s.size * 8 < 18446744073709551616)]
           have e2 : ((s.size : Int) * 8 / 2 ^ (8 * (7 - j))) = ((s.size * 8 / 2 ^ (8 * (7 - j)) : Nat) : Int) := by
             rw [Int.natCast_ediv, Int.natCast_pow, Int.natCast_mul]; rfl
           rw [e2, Nat.pow_mul, show (2 : Nat) ^ 8 = 256 from rfl]
           generalize s.size * 8 / 256 ^ (7 - j) = q
           omega
         obtain ⟨g6, c6, w6, hrun, hown, hb6, _⟩ := ownG_new (c := 1) (m := 1) (C := #[.int .u8 X]) Tryz.underlying145 info_u8 rfl (by omega) (by omega) HV.out rfl (by simp [Value.oneCell']) (by omega) (by have : zeros s.size < 64 := Nat.mod_lt _ (by omega); omega) HBL.out.size
         have HO2 := Lib.hid hown
         have HB2 := Lib.hid (HBL.out.trans hb6)
         have HXB := Lib.hid hXB
         clear hown hb6 hXB
         go_wp2_with fail
         go_roundw
         case rel =>
           refine ⟨j + 1, I - 8, by omega, by have := HI.out; omega, rfl, ?_, HB2.out⟩
           have h1 := HO2.out
           rw [cells_snoc _ _ X HXB.out] at h1
           rw [HLB.out, ← List.append_assoc]
           exact h1
         case measure => simp [intOf]; omega
       · have hj8 : j = 8 := by omega
         subst hj8
         have hI8 : I = -8 := by omega
         have i0 : ¬ (0 ≤ I) := by omega
         have hz : zeros s.size < 64 := Nat.mod_lt _ (by omega)
         have hpad : s.data.toList ++ onez (zeros s.size) ++ (lenBytes s.size).take 8 = s.data.toList ++ pad s.size := by
           rw [List.take_of_length_le (by simp [lenBytes]), List.append_assoc]; rfl
         have hpl : (s.data.toList ++ pad s.size).length = s.size + 1 + zeros s.size + 8 := by
           rw [List.length_append, hsl, pad]; simp [lenBytes]; omega
         have HV := Lib.hid hv
         have HBL := Lib.hid hbl
         have HP := Lib.hid hpad
         have HL := Lib.hid hpl
         clear hv hbl hpad hpl hI8 hI
         go_wp2_with fail
         go_ret
         refine ⟨_, rfl, ?_, HBL.out⟩
         rw [HL.out, ← HP.out]
         exact HV.out
end R1
end Go.Proofs.YtdbkadickikgjaaGreatDoor
namespace Go.Proofs.YtdbkadickikgjaaGreatDoor
open Go.RowKit
namespace R1
open Sha
attribute [local go_sem ↓] appSem_eq
def strs (ls : List (List UInt8)) : List Value := ls.map fun l => Value.string ⟨l.toArray⟩
def Strs (w : World) (v : Value) (ls : List (List UInt8)) : Prop := ∃ A c, v = .slice A ls.length c ∧ (0 < ls.length → ∃ g o, A = some ⟨g, o, none⟩ ∧ g < w.heap.size ∧ ∀ j, j < ls.length → w.cell? ⟨g, o + j, none⟩ = some (.string ⟨(ls.getD j []).toArray⟩))
theorem Strs.ext {w w' : World} {v : Value} {ls : List (List UInt8)} (h : Strs w v ls) (hE : Stab.Ext w w') : Strs w' v ls := by
 obtain ⟨A, c, h1, h2⟩ := h
 refine ⟨A, c, h1, fun h0 => ?_⟩
 obtain ⟨g, o, h3, h4, h5⟩ := h2 h0
 exact ⟨g, o, h3, Nat.lt_of_lt_of_le h4 hE.size, fun j hj => hE.cell (h5 j hj)⟩
theorem Strs.of_own {w : World} {base : Nat} {e : TypeId} {v : Value} {n : Nat} {ls : List (List UInt8)} (h : OwnG w base e 1 v n (strs ls)) : Strs w v ls := by
 have hn : n = ls.length := by have := h.1; simp [strs] at this; exact this.symm
 subst hn
 obtain ⟨A, c, rfl⟩ := h.shape
 refine ⟨A, c, rfl, fun h0 => ?_⟩
 obtain ⟨g, cap, he, _, _, hl⟩ := h.addr h0
 cases he
 refine ⟨g, 0, rfl, hl, fun j hj => ?_⟩
 rw [Nat.zero_add]
 exact h.cells rfl j _ (by simp [strs, hj, List.getD])
def Num8 (v : Value) (s : St) (w : World) : Prop := ∃ g c, v = .slice (some ⟨g, 0, none⟩) 8 c ∧ g < w.heap.size ∧ ∀ j, j < 8 → w.cell? ⟨g, j, none⟩ = some (.int .u32 (s.list.getD j 0))
theorem Num8.ext {v : Value} {s : St} {w w' : World} (h : Num8 v s w) (hE : Stab.Ext w w') : Num8 v s w' := by
 obtain ⟨g, c, h1, h2, h3⟩ := h
 exact ⟨g, c, h1, Nat.lt_of_lt_of_le h2 hE.size, fun j hj => hE.cell (h3 j hj)⟩
theorem change8_any (s : St) (hs : s.ok) (b : List UInt8) (hb : b.length = 64) (v : Value) (gr g o cr cap : Nat) (w : World) (hv : Num8 v s w)
   (hrr : ∀ j, j < 64 → w.cell? ⟨gr, j, none⟩ = some (.int .u32 (R64.getD j 0))) (hgr : gr < w.heap.size)
   (hrow : ∀ j, j < 64 → w.cell? ⟨g, o + j, none⟩ = some (.int .u8 (at8 b j))) (hgw : g < w.heap.size) :
   Calls Tryz.prog 241 #[v, .slice (some ⟨gr, 0, none⟩) 64 cr, .slice (some ⟨g, o, none⟩) 64 cap] w fun e w' => ∃ v', e = .returned v' ∧ Num8 v' (comp R64 b s) w' ∧ Stab.Ext w w' := by
 obtain ⟨gn, cn, rfl, hgn, hn⟩ := hv
 refine (change_any s hs R64 R64_len R64_small b hb gn gr g o cn cr cap w hn hgn hrr hgr hrow hgw).mono ?_
 rintro e w' ⟨gv, cv, rfl, _, hbk, hbl⟩
 exact ⟨_, rfl, ⟨gv, cv, rfl, hbk.lt, fun j hj => (hbk.cell j).trans (cells_get _ j hj)⟩, hbl⟩
theorem st_get {s : St} (h : s.ok) (j : Nat) : 0 ≤ s.list.getD j 0 ∧ s.list.getD j 0 < 4294967296 := by
 obtain ⟨h1, h2, h3, h4, h5, h6, h7, h8⟩ := h
 match j with
 | 0 => exact h1
 | 1 => exact h2
 | 2 => exact h3
 | 3 => exact h4
 | 4 => exact h5
 | 5 => exact h6
 | 6 => exact h7
 | 7 => exact h8
 | j + 8 => exact ⟨Int.le_refl _, by show (0 : Int) < _; omega⟩
def SumsEnd (ls : List (List UInt8)) (w : World) (e : Ending) (w' : World) : Prop := ∃ v, e = .returned v ∧ OwnG w' w.heap.size 9 1 v ls.length (strs (ls.map Shd.sumL)) ∧ Below w.heap.size w w'
def Row8 (v : Value) (l : List UInt8) (w : World) : Prop := ∃ g c, v = .slice (some ⟨g, 0, none⟩) l.length c ∧ l.length ≤ c ∧ g < w.heap.size ∧ ∀ j, j < l.length → w.cell? ⟨g, j, none⟩ = some (.int .u8 (at8 l j))
theorem Row8.ext {v : Value} {l : List UInt8} {w w' : World} (h : Row8 v l w) (hE : Stab.Ext w w') : Row8 v l w' := by
 obtain ⟨g, c, h1, h0, h2, h3⟩ := h
 exact ⟨g, c, h1, h0, Nat.lt_of_lt_of_le h2 hE.size, fun j hj => hE.cell (h3 j hj)⟩
theorem Row8.of_own {w : World} {base n : Nat} {e : TypeId} {v : Value} {l : List UInt8} (h : OwnG w base e 1 v n (Lib.byteCells l)) (h0 : 0 < l.length) : Row8 v l w := by
 have hn : n = l.length := by have := h.1; rw [Lib.byteCells_length] at this; omega
 subst hn
 obtain ⟨g, c, he, _, hc, hl⟩ := h.addr h0
 subst he
 refine ⟨g, c, rfl, hc, hl, fun j hj => h.cells rfl j _ ?_⟩
 simp [Lib.byteCells, hj, at8, List.getD]
set_option maxRecDepth 100000 in
set_option maxHeartbeats 8000000 in
theorem sums_any (ls : List (List UInt8)) (v : Value) (hls : ∀ l ∈ ls, l.length ≤ 70368744177664) (hn : ls.length ≤ 1000000000) (w : World) (hv : Strs w v ls) :
   Calls Tryz.prog 148 #[v] w (SumsEnd ls w) := by
 obtain ⟨A, c, rfl, ha⟩ := hv
 have HA := Lib.hid ha
 clear ha
 go_enter Tryz.func148, Tryz.ntmps148
 go_wp2_with (go_at_call 239; refine (roots_any _).mono ?_)
 rintro e w1 ⟨v1, v2, rfl, hv1, hv2, hb1⟩
 obtain ⟨A1, c1, rfl, hf1⟩ := row_form hv1
 obtain ⟨A2, c2, rfl, hf2⟩ := row_form hv2
 obtain ⟨g1, cur1, rfl, _, hB1, hc1⟩ := hf1 (by omega)
 obtain ⟨g2, cur2, rfl, _, hB2, hc2⟩ := hf2 (by omega)
 have hN : Num8 (.slice (some ⟨g1, 0, none⟩) 8 c1) S0 w1 := ⟨g1, c1, rfl, hB1.lt, fun j hj => by
   rw [hB1.cell]
   refine hc1 j _ ?_
   have : j < S0.list.length := hj
   simp [r32, List.getD, this]⟩
 have hR : ∀ j, j < 64 → w1.cell? ⟨g2, j, none⟩ = some (.int .u32 (R64.getD j 0)) := fun j hj => by
   rw [hB2.cell]
   refine hc2 j _ ?_
   have : j < R64.length := by rw [R64_len]; exact hj
   simp [r32, List.getD, this]
 have hs1 := hb1.size
 have HN := Lib.hid hN
 have HR := Lib.hid hR
 have HB1 := Lib.hid hb1
 have hg2 := hB2.lt
 clear hN hR hb1 hv1 hv2 hf1 hf2 hc1 hc2 hB1 hB2
 go_wp2_with fail
 go_loopw [5, 6] (fun o i wr => ∃ k : Nat, k ≤ ls.length ∧ i = .int .i64 (k : Int) ∧ OwnG wr w1.heap.size 9 1 o k (strs ((ls.take k).map Shd.sumL)) ∧ Below w1.heap.size w1 wr) (fun _ i _ => ls.length - (intOf i).toNat)
 case atStart => exact ⟨0, by omega, rfl, OwnG.nil _ _ _ _, Below.refl _ _⟩
 case round =>
   obtain ⟨k, hk, rfl, ho, hbl⟩ := hrel
   obtain ⟨wo, rfl⟩ : ∃ wo : World, wo = wr := ⟨_, rfl⟩
   have HO := Lib.hid ho
   have HBL := Lib.hid hbl
   have hso := hbl.size
   by_cases hlt : k < ls.length
   · have hd : (k : Int) < (ls.length : Int) := by omega
     obtain ⟨ga, oa, rfl, hga, hca⟩ := HA.out (by omega)
     have hcell : wo.cell? ⟨ga, oa + k, none⟩ = some (.string ⟨(ls.getD k []).toArray⟩) := by
       have h1 : w1.cell? ⟨ga, oa + k, none⟩ = _ := (HB1.out.cell (p := ⟨ga, oa + k, none⟩) hga).trans (hca k hlt)
       exact (hbl.cell (p := ⟨ga, oa + k, none⟩) (by show ga < w1.heap.size; omega)).trans h1
     have hmem : ls.getD k [] ∈ ls := by simp [List.getD, hlt]
     have hT : (ls.take (k + 1)).map Shd.sumL = (ls.take k).map Shd.sumL ++ [Shd.sumL (ls.getD k [])] := by
       rw [List.take_succ_eq_append_getElem hlt, List.map_append, List.map_singleton, List.getD, List.getElem?_eq_getElem hlt]; rfl
     have HT := Lib.hid hT
     have hlm := hls _ hmem
     have HA2 := Lib.hid hca
     generalize ls.getD k [] = l at *
     obtain ⟨s, hs⟩ : ∃ s : ByteArray, s = ⟨l.toArray⟩ := ⟨_, rfl⟩
     have hsd : s.data.toList = l := by rw [hs]
     have hss : s.size = l.length := by rw [hs]; rfl
     rw [← hs] at hcell
     have HS := Lib.hid hsd
     have HSS := Lib.hid hss
     clear hs hsd hT hmem hca ho hbl
     go_wp2_with (go_at_call 240; refine (filled_any s (by have := HSS.out; omega) _).mono ?_)
     rintro e w2 ⟨vf, rfl, hfo, hb2⟩
     rw [HS.out, HSS.out] at hfo
     obtain ⟨nb, hnb, hnl⟩ := padded l
     have hrow := Row8.of_own hfo (by rw [List.length_append, pad_length]; omega)
     obtain ⟨F, hF⟩ : ∃ F, F = l ++ pad l.length := ⟨_, rfl⟩
     rw [← hF] at hrow hnb
     have HF := Lib.hid hF
     obtain ⟨gf, cf, rfl, hcf, hgf, hrow⟩ := hrow
     rw [hnb] at hrow hcf ⊢
     have HRW := Lib.hid hrow
     have HNB := Lib.hid hnb
     have HB2 := Lib.hid hb2
     have hs2 := hb2.size
     clear hF hfo hrow hnb hb2 hcell hss
     go_wp2_with fail
     have hN2 : Num8 (.slice (some ⟨g1, 0, none⟩) 8 c1) (stN R64 S0 F 0) w2 := (HN.out.ext (Below.mono HBL.out (Nat.le_refl _))).ext HB2.out
     go_loopw [7, 9] (fun n i wr => ∃ (m : Nat) (I : Int), m ≤ nb ∧ I = 64 * (m : Int) ∧ i = .int .i64 I ∧ Num8 n (stN R64 S0 F m) wr ∧ Stab.Ext w2 wr) (fun _ i _ => 64 * nb + 64 - (intOf i).toNat)
     case atStart => exact ⟨0, 0, by omega, rfl, rfl, hN2, Stab.Ext.refl _⟩
     case round =>
       obtain ⟨m, I, hm, hI, rfl, hN3, hE3⟩ := hrel
       clear hN2
       have HN3 := Lib.hid hN3
       have HE3 := Lib.hid hE3
       by_cases hlt2 : m < nb
       · have e1 : (64 * nb : Nat) = 64 * nb := rfl
         have d1 : I < 64 * (nb : Int) := by omega
         have d2 : (0 : Int) ≤ I := by omega
         have d3 : I + 64 ≤ (cf : Int) := by omega
         have d4 : I ≤ I + 64 := by omega
         have d5 : (I + 64).toNat - I.toNat = 64 := by omega
         have d6 : I.toNat = 64 * m := by omega
         have HD6 := Lib.hid d6
         have HI := Lib.hid hI
         clear e1 d6 hI hN3 hE3
         have hg2w : g2 < wr.heap.size := by have := HE3.out.size; omega
         have hgfw : gf < wr.heap.size := by have := HE3.out.size; omega
         have hR3 : Hid (∀ j, j < 64 → wr.cell? ⟨g2, j, none⟩ = some (.int .u32 (R64.getD j 0))) := Lib.hid fun j hj => HE3.out.cell (HB2.out.cell (p := ⟨g2, j, none⟩) (by show g2 < wo.heap.size; omega) |>.trans ((HBL.out.cell (p := ⟨g2, j, none⟩) hg2).trans (HR.out j hj)))
         have hrow3 : Hid (∀ j, j < 64 → wr.cell? ⟨gf, I.toNat + j, none⟩ = some (.int .u8 (at8 ((F.drop (64 * m)).take 64) j))) := Lib.hid fun j hj => by
           have h1 := HE3.out.cell (HRW.out (64 * m + j) (by omega))
           rw [HD6.out, h1, at8, at8]
           simp [List.getD, hj]
         have hlen3 : Hid (((F.drop (64 * m)).take 64).length = 64) := Lib.hid (by rw [List.length_take, List.length_drop, HNB.out]; omega)
         go_wp2_with (go_at_call 241; refine (change8_any (stN R64 S0 F m) (stN_ok _ _ S0_ok _ _) ((F.drop (64 * m)).take 64) hlen3.out u7 g2 gf I.toNat c2 (cf - I.toNat) wr HN3.out hR3.out hg2w hrow3.out hgfw).mono ?_)
         rintro e w3 ⟨v3, rfl, hN4, hE4⟩
         have HN4 := Lib.hid hN4
         have HE4 := Lib.hid hE4
         clear hN4 hE4
         go_wp2_with fail
         go_roundw
         case rel => exact ⟨m + 1, I + 64, by omega, by have := HI.out; omega, rfl, HN4.out, HE3.out.trans HE4.out⟩
         case measure => simp [intOf]; omega
       · have hme : m = nb := by omega
         subst hme
         have d1 : ¬ (I < 64 * (m : Int)) := by omega
         have hst : stN R64 S0 F m = (eat R64 F S0).1 := stN_end _ _ _ _ HNB.out
         rw [hst, HF.out] at hN3
         have hsum : stBytes (eat R64 (l ++ pad l.length) S0).1 = Shd.sumL l := rfl
         have HSM := Lib.hid hsum
         have HOK : Hid (∀ j, 0 ≤ (eat R64 (l ++ pad l.length) S0).1.list.getD j 0 ∧ (eat R64 (l ++ pad l.length) S0).1.list.getD j 0 < 4294967296) := Lib.hid (st_get (eat_ok _ _ _ S0_ok))
         generalize (eat R64 (l ++ pad l.length) S0).1 = st at *
         clear hst hsum HN3
         obtain ⟨w4, rfl⟩ : ∃ w4 : World, w4 = wr := ⟨_, rfl⟩
         have HN4 := Lib.hid hN3
         clear hN3 hI hE3
         go_wp2_with fail
         go_loopw [10, 11] (fun d i wr => ∃ j : Nat, j ≤ 8 ∧ i = .int .i64 (j : Int) ∧ OwnG wr w4.heap.size 5 1 d (4 * j) (Lib.byteCells (outL st j)) ∧ Below w4.heap.size w4 wr) (fun _ i _ => 8 - (intOf i).toNat)
         case atStart => exact ⟨0, by omega, rfl, OwnG.nil _ _ _ _, Below.refl _ _⟩
         case round =>
           obtain ⟨j, hj, rfl, hd, hbl5⟩ := hrel
           by_cases hlt3 : j < 8
           · obtain ⟨gn, cn, rfl, hgn, hcn⟩ := HN4.out
             have hx := hcn j hlt3
             have hok : 0 ≤ st.list.getD j 0 ∧ st.list.getD j 0 < 4294967296 := HOK.out j
             have hL := outL_succ st j hlt3
             have HL := Lib.hid hL
             have HD := Lib.hid hd
             have HB5 := Lib.hid hbl5
             have hx5 : wr.cell? ⟨gn, j, none⟩ = some (.int .u32 (st.list.getD j 0)) := (hbl5.cell (p := ⟨gn, j, none⟩) hgn).trans hx
             have hb4 : bytes4 (st.list.getD j 0) = [UInt8.ofNat ((st.list.getD j 0).toNat / 16777216), UInt8.ofNat ((st.list.getD j 0).toNat / 65536), UInt8.ofNat ((st.list.getD j 0).toNat / 256), UInt8.ofNat ((st.list.getD j 0).toNat / 1)] := rfl
             have HB4 := Lib.hid hb4
             clear hL hd hbl5 hx hcn hb4
             generalize st.list.getD j 0 = x at *
             obtain ⟨x0, x1⟩ := hok
             obtain ⟨p1, hp1⟩ : ∃ p : Int, x.tdiv 16777216 = p := ⟨_, rfl⟩
             have ep1 : x / 16777216 = p1 := by rw [← hp1, Int.tdiv_eq_ediv_of_nonneg x0]
             obtain ⟨p2, hp2⟩ : ∃ p : Int, x.tdiv 65536 = p := ⟨_, rfl⟩
             have ep2 : x / 65536 = p2 := by rw [← hp2, Int.tdiv_eq_ediv_of_nonneg x0]
             obtain ⟨p3, hp3⟩ : ∃ p : Int, x.tdiv 256 = p := ⟨_, rfl⟩
             have ep3 : x / 256 = p3 := by rw [← hp3, Int.tdiv_eq_ediv_of_nonneg x0]
             obtain ⟨r2, hr2⟩ : ∃ p : Int, p2.tmod 256 = p := ⟨_, rfl⟩
             obtain ⟨r3, hr3⟩ : ∃ p : Int, p3.tmod 256 = p := ⟨_, rfl⟩
             obtain ⟨r4, hr4⟩ : ∃ p : Int, x.tmod 256 = p := ⟨_, rfl⟩
             have er2 : p2 % 256 = r2 := by rw [← hr2, Int.tmod_eq_emod_of_nonneg (by omega)]
             have er3 : p3 % 256 = r3 := by rw [← hr3, Int.tmod_eq_emod_of_nonneg (by omega)]
             have er4 : x % 256 = r4 := by rw [← hr4, Int.tmod_eq_emod_of_nonneg (by omega)]
             have s1 : IntKind.u32.wrap p1 = p1 := by rw [IntKind.wrap_u32']; omega
             have s2 : IntKind.u32.wrap p2 = p2 := by rw [IntKind.wrap_u32']; omega
             have s3 : IntKind.u32.wrap p3 = p3 := by rw [IntKind.wrap_u32']; omega
             have s4 : IntKind.u32.wrap r2 = r2 := by rw [IntKind.wrap_u32']; omega
             have s5 : IntKind.u32.wrap r3 = r3 := by rw [IntKind.wrap_u32']; omega
             have s6 : IntKind.u32.wrap r4 = r4 := by rw [IntKind.wrap_u32']; omega
             have b1 : IntKind.u8.wrap p1 = p1 := by rw [IntKind.wrap_u8]; omega
             have b2 : IntKind.u8.wrap r2 = r2 := by rw [IntKind.wrap_u8]; omega
             have b3 : IntKind.u8.wrap r3 = r3 := by rw [IntKind.wrap_u8]; omega
             have b4 : IntKind.u8.wrap r4 = r4 := by rw [IntKind.wrap_u8]; omega
             have HC : Hid (Lib.byteCells (outL st (j + 1)) = Lib.byteCells (outL st j) ++ [Value.int .u8 p1, Value.int .u8 r2, Value.int .u8 r3, Value.int .u8 r4]) := Lib.hid (by
               rw [HL.out, HB4.out, Lib.byteCells_append]
               have t1 : ((UInt8.ofNat (x.toNat / 16777216)).toNat : Int) = p1 := by rw [UInt8.toNat_ofNat']; omega
               have t2 : ((UInt8.ofNat (x.toNat / 65536)).toNat : Int) = r2 := by rw [UInt8.toNat_ofNat']; omega
               have t3 : ((UInt8.ofNat (x.toNat / 256)).toNat : Int) = r3 := by rw [UInt8.toNat_ofNat']; omega
               have t4 : ((UInt8.ofNat (x.toNat / 1)).toNat : Int) = r4 := by rw [UInt8.toNat_ofNat']; omega
               simp only [Lib.byteCells, List.map_cons, List.map_nil, t1, t2, t3, t4])
             have dj : (j : Int) < 8 := by omega
             clear er2 er3 er4 ep1 ep2 ep3 HL HB4
             have HX := Lib.hid hx5
             clear hx5
             go_wp2_with fail
             refine Stab.wp_region_stable 28 81 [some 46, some 47, some 48, some 49, some 50, some 51, some 52, some 53, some 54, some 55, some 56, some 57, some 58, some 59, some 60, some 61, some 62, some 63, some 64, some 65, some 66, some 67, some 68, some 69, some 70, some 71, some 72, some 73] [[], [], [], [1, 2], [3], [4], [5], [], [], [7, 8], [9], [10], [11], [12], [], [], [14, 15], [16], [17], [18], [19], [], [], [21, 22], [23], [24], [25], [6, 13, 20, 26]] [0, 27] (fun W => W.cell? ⟨gn, j, none⟩ = some (.int .u32 x)) [Stab.eqv ?r16e0, Stab.eqv ?r16e1, Stab.eqv ?r16e2, Stab.eqv ?r16e3, Stab.eqv ?r16e4, Stab.eqv ?r16e5, Stab.eqv ?r16e6, Stab.eqv ?r16e7, Stab.eqv ?r16e8, Stab.eqv ?r16e9, Stab.eqv ?r16e10, Stab.eqv ?r16e11, Stab.eqv ?r16e12, Stab.eqv ?r16e13, Stab.eqv ?r16e14, Stab.eqv ?r16e15, Stab.eqv ?r16e16, Stab.eqv ?r16e17, Stab.eqv ?r16e18, Stab.eqv ?r16e19, Stab.eqv ?r16e20, Stab.eqv ?r16e21, Stab.eqv ?r16e22, Stab.eqv ?r16e23, Stab.eqv ?r16e24, Stab.eqv ?r16e25, Stab.eqv ?r16e26, Stab.newrow wr.heap.size 5 #[.int .u8 p1, .int .u8 r2, .int .u8 r3, .int .u8 r4] 4 4] (by kernel_rfl) rfl (by kernel_rfl) (by kernel_rfl) (fun us => by simp only [Stab.putAll, Act.put, List.setIfInBounds_toArray, List.set_cons_zero, List.set_cons_succ]; rfl) HX.out (fun _ _ h hE => hE.cell h) ?goals16 ?last16
             case goals16 =>
               simp only [List.take_succ_cons, List.take_zero]
               refine Stab.Goals.plain rfl rfl (fun us w cK hE hS hp hK => ?_) ?_
               · go_simp
                 refine hK _ _ ?_ (Stab.Ext.refl _)
                 show _ = _
                 with_reducible rfl
               refine Stab.Goals.plain rfl rfl (fun us w cK hE hS hp hK => ?_) ?_
               · go_simp
                 refine hK _ _ ?_ (Stab.Ext.refl _)
                 show _ = _
                 with_reducible rfl
               refine Stab.Goals.plain rfl rfl (fun us w cK hE hS hp hK => ?_) ?_
               · go_simp
                 refine hK _ _ ?_ (Stab.Ext.refl _)
                 show _ = _
                 with_reducible rfl
               refine Stab.Goals.plain rfl rfl (fun us w cK hE hS hp hK => ?_) ?_
               · obtain ⟨h1, h2, -⟩ := hp
                 replace h1 : us 1 = _ := h1
                 replace h2 : us 2 = _ := h2
                 go_simp
                 refine hK _ _ ?_ (Stab.Ext.refl _)
                 show _ = _
                 with_reducible rfl
               refine Stab.Goals.plain rfl rfl (fun us w cK hE hS hp hK => ?_) ?_
               · obtain ⟨h3, -⟩ := hp
                 replace h3 : us 3 = _ := h3
                 go_simp
                 refine hK _ _ ?_ (Stab.Ext.refl _)
                 show _ = _
                 with_reducible rfl
               refine Stab.Goals.plain rfl rfl (fun us w cK hE hS hp hK => ?_) ?_
               · obtain ⟨h4, -⟩ := hp
                 replace h4 : us 4 = _ := h4
                 go_simp
                 refine hK _ _ ?_ (Stab.Ext.refl _)
                 show _ = _
                 with_reducible rfl
               refine Stab.Goals.plain rfl rfl (fun us w cK hE hS hp hK => ?_) ?_
               · obtain ⟨h5, -⟩ := hp
                 replace h5 : us 5 = _ := h5
                 go_simp
                 refine hK _ _ ?_ (Stab.Ext.refl _)
                 show _ = _
                 with_reducible rfl
               refine Stab.Goals.plain rfl rfl (fun us w cK hE hS hp hK => ?_) ?_
               · go_simp
                 refine hK _ _ ?_ (Stab.Ext.refl _)
                 show _ = _
                 with_reducible rfl
               refine Stab.Goals.plain rfl rfl (fun us w cK hE hS hp hK => ?_) ?_
               · go_simp
                 refine hK _ _ ?_ (Stab.Ext.refl _)
                 show _ = _
                 with_reducible rfl
               refine Stab.Goals.plain rfl rfl (fun us w cK hE hS hp hK => ?_) ?_
               · obtain ⟨h7, h8, -⟩ := hp
                 replace h7 : us 7 = _ := h7
                 replace h8 : us 8 = _ := h8
                 go_simp
                 refine hK _ _ ?_ (Stab.Ext.refl _)
                 show _ = _
                 with_reducible rfl
               refine Stab.Goals.plain rfl rfl (fun us w cK hE hS hp hK => ?_) ?_
               · obtain ⟨h9, -⟩ := hp
                 replace h9 : us 9 = _ := h9
                 go_simp
                 refine hK _ _ ?_ (Stab.Ext.refl _)
                 show _ = _
                 with_reducible rfl
               refine Stab.Goals.plain rfl rfl (fun us w cK hE hS hp hK => ?_) ?_
               · obtain ⟨h10, -⟩ := hp
                 replace h10 : us 10 = _ := h10
                 go_simp
                 refine hK _ _ ?_ (Stab.Ext.refl _)
                 show _ = _
                 with_reducible rfl
               refine Stab.Goals.plain rfl rfl (fun us w cK hE hS hp hK => ?_) ?_
               · obtain ⟨h11, -⟩ := hp
                 replace h11 : us 11 = _ := h11
                 go_simp
                 refine hK _ _ ?_ (Stab.Ext.refl _)
                 show _ = _
                 with_reducible rfl
               refine Stab.Goals.plain rfl rfl (fun us w cK hE hS hp hK => ?_) ?_
               · obtain ⟨h12, -⟩ := hp
                 replace h12 : us 12 = _ := h12
                 go_simp
                 refine hK _ _ ?_ (Stab.Ext.refl _)
                 show _ = _
                 with_reducible rfl
               refine Stab.Goals.plain rfl rfl (fun us w cK hE hS hp hK => ?_) ?_
               · go_simp
                 refine hK _ _ ?_ (Stab.Ext.refl _)
                 show _ = _
                 with_reducible rfl
               refine Stab.Goals.plain rfl rfl (fun us w cK hE hS hp hK => ?_) ?_
               · go_simp
                 refine hK _ _ ?_ (Stab.Ext.refl _)
                 show _ = _
                 with_reducible rfl
               refine Stab.Goals.plain rfl rfl (fun us w cK hE hS hp hK => ?_) ?_
               · obtain ⟨h14, h15, -⟩ := hp
                 replace h14 : us 14 = _ := h14
                 replace h15 : us 15 = _ := h15
                 go_simp
                 refine hK _ _ ?_ (Stab.Ext.refl _)
                 show _ = _
                 with_reducible rfl
               refine Stab.Goals.plain rfl rfl (fun us w cK hE hS hp hK => ?_) ?_
               · obtain ⟨h16, -⟩ := hp
                 replace h16 : us 16 = _ := h16
                 go_simp
                 refine hK _ _ ?_ (Stab.Ext.refl _)
                 show _ = _
                 with_reducible rfl
               refine Stab.Goals.plain rfl rfl (fun us w cK hE hS hp hK => ?_) ?_
               · obtain ⟨h17, -⟩ := hp
                 replace h17 : us 17 = _ := h17
                 go_simp
                 refine hK _ _ ?_ (Stab.Ext.refl _)
                 show _ = _
                 with_reducible rfl
               refine Stab.Goals.plain rfl rfl (fun us w cK hE hS hp hK => ?_) ?_
               · obtain ⟨h18, -⟩ := hp
                 replace h18 : us 18 = _ := h18
                 go_simp
                 refine hK _ _ ?_ (Stab.Ext.refl _)
                 show _ = _
                 with_reducible rfl
               refine Stab.Goals.plain rfl rfl (fun us w cK hE hS hp hK => ?_) ?_
               · obtain ⟨h19, -⟩ := hp
                 replace h19 : us 19 = _ := h19
                 go_simp
                 refine hK _ _ ?_ (Stab.Ext.refl _)
                 show _ = _
                 with_reducible rfl
               refine Stab.Goals.plain rfl rfl (fun us w cK hE hS hp hK => ?_) ?_
               · go_simp
                 refine hK _ _ ?_ (Stab.Ext.refl _)
                 show _ = _
                 with_reducible rfl
               refine Stab.Goals.plain rfl rfl (fun us w cK hE hS hp hK => ?_) ?_
               · go_simp
                 refine hK _ _ ?_ (Stab.Ext.refl _)
                 show _ = _
                 with_reducible rfl
               refine Stab.Goals.plain rfl rfl (fun us w cK hE hS hp hK => ?_) ?_
               · obtain ⟨h21, h22, -⟩ := hp
                 replace h21 : us 21 = _ := h21
                 replace h22 : us 22 = _ := h22
                 go_simp
                 refine hK _ _ ?_ (Stab.Ext.refl _)
                 show _ = _
                 with_reducible rfl
               refine Stab.Goals.plain rfl rfl (fun us w cK hE hS hp hK => ?_) ?_
               · obtain ⟨h23, -⟩ := hp
                 replace h23 : us 23 = _ := h23
                 go_simp
                 refine hK _ _ ?_ (Stab.Ext.refl _)
                 show _ = _
                 with_reducible rfl
               refine Stab.Goals.plain rfl rfl (fun us w cK hE hS hp hK => ?_) ?_
               · obtain ⟨h24, -⟩ := hp
                 replace h24 : us 24 = _ := h24
                 go_simp
                 refine hK _ _ ?_ (Stab.Ext.refl _)
                 show _ = _
                 with_reducible rfl
               refine Stab.Goals.plain rfl rfl (fun us w cK hE hS hp hK => ?_) ?_
               · obtain ⟨h25, -⟩ := hp
                 replace h25 : us 25 = _ := h25
                 go_simp
                 refine hK _ _ ?_ (Stab.Ext.refl _)
                 show _ = _
                 with_reducible rfl
               refine Stab.Goals.plain rfl rfl (fun us w cK hE hS hp hK => ?_) ?_
               · obtain ⟨h6, h13, h20, h26, -⟩ := hp
                 replace h6 : us 6 = _ := h6
                 replace h13 : us 13 = _ := h13
                 replace h20 : us 20 = _ := h20
                 replace h26 : us 26 = _ := h26
                 go_simp
                 exact hK _ _ ⟨_, rfl, hE.size, Blk.new _ _ _⟩ (Stab.Ext.alloc _ _)
               exact Stab.Goals.nil
             case last16 =>
               intro us w' hE _ hp
               obtain ⟨h0, ⟨gb, e27, hgb, hbk⟩, -⟩ := hp
               replace h0 : us 0 = _ := h0
               simp only [List.drop_succ_cons, List.drop_zero, h0, e27]
               have hEx := (Stab.Ext.drew wr).trans hE
               have hbw := HB5.out.trans (Below.mono hEx HB5.out.size)
               obtain ⟨g5, c5, w5, hrun, hown, hb5, _⟩ := ownG_blk (c := 4) (m := 4) Tryz.underlying145 info_u8 rfl (by omega) (by omega) (HD.out.ext hEx) hbk rfl (by simp [Value.oneCell']) (by omega) (by omega) hbw.size
               have HO5 := Lib.hid hown
               have HB6 := Lib.hid (hbw.trans hb5)
               clear hown hb5 hbw hbk hE h0 e27 hEx
               obtain ⟨A', cap', hve⟩ := HD.out.shape
               subst hve
               go_wp2_with fail
               go_roundw
               case rel => exact ⟨j + 1, by omega, by go_num, by rw [HC.out, show 4 * (j + 1) = 4 * j + 4 by omega]; exact HO5.out, HB6.out⟩
               case measure => simp [intOf]; omega
           · have hj8 : j = 8 := by omega
             subst hj8
             rw [outL_end, HSM.out] at hd
             have htx := ownG_text (P := Tryz.prog) (dst := 9) Tryz.underlying145 Tryz.underlying5 Tryz.underlying9 hd
             obtain ⟨A', cap', hve⟩ := hd.shape
             subst hve
             have hO5 := HO.out.ext (((Stab.Ext.trans HB2.out HE3.out)).trans (show Stab.Ext w4 wr from hbl5))
             have hB5 : Below w1.heap.size w1 wr := HBL.out.trans ((Below.mono HB2.out hso).trans ((Below.mono HE3.out (Nat.le_trans hso hs2)).trans (Below.mono hbl5 (Nat.le_trans hso (Nat.le_trans hs2 HE3.out.size)))))
             obtain ⟨g6, c6, w6, hrun, hown, hb6, _⟩ := ownG_new (c := 1) (m := 1) (C := #[.string ⟨(Shd.sumL l).toArray⟩]) Tryz.underlying29 info_str rfl (by omega) (by omega) hO5 rfl (by simp [Value.oneCell']) (by omega) (by omega) hB5.size
             have HO6 := Lib.hid hown
             have HB6 := Lib.hid (hB5.trans hb6)
             obtain ⟨A6, cap6, hv6⟩ := hO5.shape
             subst hv6
             clear hown hb6 hB5 hO5 hd hbl5
             go_wp2_with fail
             go_roundw
             case rel => exact ⟨k + 1, by omega, by go_num, by rw [HT.out]; simpa [strs] using HO6.out, HB6.out⟩
             case measure => simp [intOf]; omega
   · have hke : k = ls.length := by omega
     subst hke
     have HN0 := Lib.hid hn
     have d1 : ¬ ((ls.length : Int) < (ls.length : Int)) := by omega
     clear ho hbl
     go_wp2_with fail
     go_ret
     refine ⟨_, rfl, ?_, HB1.out.trans (Below.mono HBL.out hs1)⟩
     have h := HO.out
     rw [List.take_length] at h
     refine ⟨h.1, ?_⟩
     rcases h.2 with h | ⟨g, cap, cur, fz, h1, h2, h3⟩
     · exact .inl h
     · exact .inr ⟨g, cap, cur, fz, h1, Nat.le_trans hs1 h2, h3⟩
set_option maxRecDepth 100000 in
set_option maxHeartbeats 1000000 in
theorem sum_any (s : ByteArray) (hs : s.size ≤ 70368744177664) (w : World) :
   Calls Tryz.prog 66 #[.string s] w fun e w' => e = .returned (.string ⟨(Shd.sumL s.data.toList).toArray⟩) ∧ Below w.heap.size w w' := by
 have hsl : s.data.toList.length = s.size := by simp
 have hst : Strs (w.alloc (.cells #[.string s] 9)) (.slice (some ⟨w.heap.size, 0, none⟩) 1 1) [s.data.toList] := ⟨_, 1, rfl, fun _ => ⟨w.heap.size, 0, rfl, by simp, fun j hj => by
   obtain rfl : j = 0 := by simpa using hj
   exact (Blk.new w 9 #[.string s]).cell 0⟩⟩
 have HC := Lib.hid (sums_any [s.data.toList] (.slice (some ⟨w.heap.size, 0, none⟩) 1 1) (by simpa using hs) (by simp) _ hst)
 clear hst
 go_enter Tryz.func66, Tryz.ntmps66
 go_wp2_with (go_at_call 148; refine HC.out.mono ?_)
 rintro e w' ⟨v, rfl, hv, hb⟩
 obtain ⟨g, cap, rfl, _, _, _⟩ := hv.addr (by simp)
 have hc : w'.cell? ⟨g, 0, none⟩ = some (.string ⟨(Shd.sumL s.data.toList).toArray⟩) := hv.cells rfl 0 _ (by simp [strs])
 have HB := Lib.hid ((Stab.Ext.alloc w (.cells #[.string s] 9)).trans hb)
 clear hv hb
 go_wp2_with fail
 go_ret
 exact ⟨rfl, HB.out⟩
end R1
end Go.Proofs.YtdbkadickikgjaaGreatDoor
