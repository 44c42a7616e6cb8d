/-
 The payloads that are at hand. Two rows of the call's own, each appended to in one region; numbers and texts of a row. The stripe package: what Read keeps of each shard.
-/
import Derived.Test.YtnbkhdbligjifaaGreatDoorHeldM
import Derived.Test.YtnbkhdbligjifaaGreatDoorSolC
import Derived.Test.YtnbkhdbligjifaaGreatDoorStrE
set_option linter.unusedVariables false
set_option linter.unusedSimpArgs false
set_option maxRecDepth 100000
set_option maxHeartbeats 40000000
namespace Go.Proofs.YtnbkhdbligjifaaGreatDoor
open Go Go.RowKit
namespace Cod
def IntsN (w : World) (v : Value) (l : List Nat) : Prop := ∃ A c, v = .slice A l.length c ∧ l.length ≤ c ∧ ∀ i x, l[i]? = some x → ∃ b o, A = some ⟨b, o, none⟩ ∧ w.cell? ⟨b, o + i, none⟩ = some (.int .i64 (x : Nat))
def StrsN (w : World) (v : Value) (l : List (List UInt8)) : Prop := ∃ A c, v = .slice A l.length c ∧ l.length ≤ c ∧ ∀ i s, l[i]? = some s → ∃ b o, A = some ⟨b, o, none⟩ ∧ w.cell? ⟨b, o + i, none⟩ = some (.string ⟨s.toArray⟩)
theorem IntsN.ext {w w' : World} {v : Value} {l : List Nat} (h : IntsN w v l) (hE : Stab.Ext w w') : IntsN w' v l := by
 obtain ⟨A, c, h1, h5, h2⟩ := h
 exact ⟨A, c, h1, h5, fun i x hi => by obtain ⟨b, o, h3, h4⟩ := h2 i x hi; exact ⟨b, o, h3, hE.cell h4⟩⟩
theorem StrsN.ext {w w' : World} {v : Value} {l : List (List UInt8)} (h : StrsN w v l) (hE : Stab.Ext w w') : StrsN w' v l := by
 obtain ⟨A, c, h1, h5, h2⟩ := h
 exact ⟨A, c, h1, h5, fun i x hi => by obtain ⟨b, o, h3, h4⟩ := h2 i x hi; exact ⟨b, o, h3, hE.cell h4⟩⟩
theorem IntsN.ints {w : World} {v : Value} {l : List Nat} (h : IntsN w v l) (h0 : 0 < l.length) : Sol.Ints w v l := by
 obtain ⟨A, c, rfl, hc, h2⟩ := h
 obtain ⟨x, hx⟩ : ∃ x, l[0]? = some x := ⟨_, List.getElem?_eq_getElem h0⟩
 obtain ⟨b, o, rfl, _⟩ := h2 0 x hx
 exact ⟨b, o, c, rfl, hc, fun i x hi => by obtain ⟨b', o', he, h4⟩ := h2 i x hi; cases he; exact h4⟩
theorem StrsN.strs {w : World} {v : Value} {l : List (List UInt8)} (h : StrsN w v l) (h0 : 0 < l.length) : Strs w v l := by
 obtain ⟨A, c, rfl, hc, h2⟩ := h
 obtain ⟨x, hx⟩ : ∃ x, l[0]? = some x := ⟨_, List.getElem?_eq_getElem h0⟩
 obtain ⟨b, o, rfl, _⟩ := h2 0 x hx
 exact ⟨b, o, c, rfl, hc, fun i x hi => by obtain ⟨b', o', he, h4⟩ := h2 i x hi; cases he; exact h4⟩
theorem zip_take_len {hs : List Nat} {ps : List (List UInt8)} (h : ps.length = hs.length) : ((hs.zip ps).take hs.length).length = hs.length := by simp [h]
theorem zip_take_all {hs : List Nat} {ps : List (List UInt8)} (h : ps.length = hs.length) : (hs.zip ps).take hs.length = hs.zip ps := List.take_of_length_le (by simp; omega)
theorem zip_keys {hs : List Nat} {ps : List (List UInt8)} (h : ps.length = hs.length) (q : Nat) : ((hs.zip ps).take q).map (·.1) = hs.take q := by
 rw [List.map_take, List.map_fst_zip (by omega)]
theorem zip_next {hs : List Nat} {ps : List (List UInt8)} {q x : Nat} {s : List UInt8} (hx : hs[q]? = some x) (hs' : ps[q]? = some s) : (hs.zip ps).take (q + 1) = (hs.zip ps).take q ++ [(x, s)] := by
 have : (hs.zip ps)[q]? = some (x, s) := by simp [List.getElem?_zip_eq_some, hx, hs']
 rw [List.take_add_one, this]; rfl
theorem fresh_key {hs : List Nat} (hn : hs.Nodup) {q x : Nat} (hx : hs[q]? = some x) : x ∉ hs.take q := by
 intro hm
 obtain ⟨i, hi, he⟩ := List.mem_iff_getElem?.1 hm |>.imp fun i h => (show i < q ∧ hs[i]? = some x by
  rw [List.getElem?_take] at h
  split at h
  ·exact ⟨‹_›, h⟩
  ·cases h)
 have hil := (List.getElem?_eq_some_iff.1 he).1
 have hql := (List.getElem?_eq_some_iff.1 hx).1
 have h1 := (List.getElem?_eq_some_iff.1 he).2
 have h2 := (List.getElem?_eq_some_iff.1 hx).2
 exact List.pairwise_iff_getElem.1 hn i q hil hql hi (h1.trans h2.symm)
theorem info_held : (Tryz.prog.info? 200).map (fun i => (i.zero, i.size, i.bytes)) = some (some (.agg #[.string ⟨#[]⟩]), 1, 16) := by kernel_rfl
theorem zero_held (w : World) : (zeroValue 200).run Tryz.prog w = .ok (.agg #[.string ⟨#[]⟩]) w := by
 obtain ⟨i, hi, hz, _⟩ := info_parts info_held
 simp [zeroValue, typeInfo, hi, hz]
def HandPost (w : World) (K : Nat) (hs : List Nat) (ps : List (List UInt8)) (e : Ending) (w' : World) : Prop :=
 Below w.heap.size w w' ∧ if hs.length < K then e = .returned (.tuple #[.map none, .int .i64 54]) else ∃ b, e = .returned (.tuple #[.map (some b), .int .i64 0]) ∧ Held.Is w' b (hs.zip ps)
theorem hand_any {w : World} {K N : Nat} {vh vp : Value} {hs : List Nat} {ps : List (List UInt8)} (hc : codeB (K : Int) (N : Int) = true) (hh : IntsN w vh hs) (hp : StrsN w vp ps) (h2 : ps.length = hs.length) (hnd : hs.Nodup) (hlt : ∀ x ∈ hs, x < N) (h12 : hs.length ≤ 12) :
 Calls Tryz.prog 123 #[.agg #[.int .i64 (K : Int), .int .i64 (N : Int)], vh, vp] w (HandPost w K hs ps) := by
 obtain ⟨k1, k2, k3⟩ := (codeB_iff _ _).1 hc
 have hE0 := Stab.Ext.alloc w (.cells #[.int .i64 (K : Int), .int .i64 (N : Int)] 25)
 have bx := Blk.new w 25 #[.int .i64 (K : Int), .int .i64 (N : Int)]
 have HR := Lib.hid (show ERd w.heap.size (K : Int) (N : Int) _ from ⟨bx.cell 0, bx.cell 1⟩)
 have HH := Lib.hid (hh.ext hE0)
 have HP := Lib.hid (hp.ext hE0)
 have HB0 := Lib.hid hE0
 have HLT := Lib.hid hlt
 have HND := Lib.hid hnd
 have H2 := Lib.hid h2
 have HM := Lib.hid (mayCode_any (K : Int) (N : Int) (w.alloc (.cells #[.int .i64 (K : Int), .int .i64 (N : Int)] 25)))
 rw [hc] at HM
 have k0 := HR.out.c0
 have k1' := HR.out.c1
 obtain ⟨Ah, ch, rfl, -, -⟩ := hh
 obtain ⟨Ap, cp, rfl, -, -⟩ := hp
 have hmm := @run_makeMap Tryz.prog
 rw [h2]
 obtain ⟨n, hn⟩ : ∃ n, n = hs.length := ⟨_, rfl⟩
 rw [← hn] at h12
 rw [← hn]
 have HNL := Lib.hid hn
 clear h2 hE0 bx hlt hnd hc hn
 go_enter Tryz.func123, Tryz.ntmps123
 go_wp2_with (go_at_call 87; with_reducible refine HM.out.mono ?_)
 rintro e w1 ⟨rfl, hb1⟩
 have hE1 : Stab.Ext (w.alloc (.cells #[.int .i64 (K : Int), .int .i64 (N : Int)] 25)) (w1.alloc (.map #[] 0)) := hb1.trans ((Stab.Ext.alloc w1 _).mono hb1.size)
 have HH1 := Lib.hid (HH.out.ext hE1)
 have HP1 := Lib.hid (HP.out.ext hE1)
 have HR1 := Lib.hid (HR.out.ext hE1)
 have HB1 := Lib.hid (show Stab.Ext w (w1.alloc (.map #[] 0)) from HB0.out.trans hE1)
 have HI1 := Lib.hid (Held.empty_is w1)
 have hbx : w.heap.size < w1.heap.size := by have := hb1.size; simp at this; omega
 have HE1 := Lib.hid hE1
 clear hb1 hE1 k0 k1'
 go_wp2_with fail
 go_loopw [26] (fun i wr => ∃ q : Nat, q ≤ n ∧ i = .int .i64 (q : Int) ∧ Held.Is wr w1.heap.size ((hs.zip ps).take q) ∧ Vm.Fr [w1.heap.size] (w1.alloc (.map #[] 0)) wr) (fun i _ => n - (intOf i).toNat)
 case atStart => exact ⟨0, by omega, rfl, by simpa using HI1.out, Vm.Fr.refl _ _⟩
 case round =>
  obtain ⟨q, hq, rfl, hI, hfr⟩ := hrel
  have hcellk : ∀ {b o : Nat} {u : Value}, (w1.alloc (.map #[] 0)).cell? ⟨b, o, none⟩ = some u → b ≠ w1.heap.size → wr.cell? ⟨b, o, none⟩ = some u := fun {b o u} h1 h2 => (World.cell?_of_block (a := ⟨b, o, none⟩) (hfr.block b (Spr.lt_cell h1) (by simpa using h2))).trans h1
  have k0 := hcellk HR1.out.c0 (by omega)
  have k1' := hcellk HR1.out.c1 (by omega)
  by_cases hqn : q < n
  ·have hq2 : (q : Int) < (n : Int) := by omega
   have hqs : q < hs.length := by rw [← HNL.out]; exact hqn
   obtain ⟨x, hx⟩ : ∃ x, hs[q]? = some x := ⟨_, List.getElem?_eq_getElem hqs⟩
   obtain ⟨s, hs'⟩ : ∃ s, ps[q]? = some s := ⟨_, List.getElem?_eq_getElem (by rw [H2.out]; exact hqs)⟩
   obtain ⟨A9, c9, he9, -, hA9⟩ := HH.out
   cases he9
   obtain ⟨b9, o9, rfl, hcx⟩ := hA9 q x hx
   obtain ⟨A8, c8, he8, -, hA8⟩ := HP.out
   cases he8
   obtain ⟨b8, o8, rfl, hcs⟩ := hA8 q s hs'
   have l9 := Spr.lt_cell hcx
   have l8 := Spr.lt_cell hcs
   simp only [World.size_alloc] at l9 l8
   have c1 := hcellk (HE1.out.cell hcx) (by omega)
   have c2 := hcellk (HE1.out.cell hcs) (by omega)
   have hxN := HLT.out x (List.mem_of_getElem? hx)
   have g1 : ¬ ((x : Int) < 0) := by omega
   have g2 : ¬ ((N : Int) ≤ (x : Int)) := by omega
   have hfk : x ∉ ((hs.zip ps).take q).map (·.1) := by rw [zip_keys H2.out]; exact fresh_key HND.out hx
   have hlk := Held.run_miss (P := Tryz.prog) Tryz.underlying193 Tryz.underlying3 hI (zero_held wr) hfk
   have hx3 := Stab.Ext.alloc wr (.cells #[.string ⟨#[]⟩] 200)
   obtain ⟨w7, hpush, hI7, hfr7⟩ := Held.run_push (P := Tryz.prog) Tryz.underlying193 Tryz.underlying3 (hI.ext hx3) hfk s
   have k1'' := hx3.cell k1'
   have c2' := hx3.cell c2
   rw [← zip_next hx hs'] at hI7
   have HI7 := Lib.hid hI7
   have HF7 := Lib.hid ((hfr.next (Vm.Fr.of_below hx3)).next hfr7)
   clear hI hfr hI7 hfr7 hx3 hcs hcx hcellk hfk hx hs'
   go_wp2_with fail
   go_roundw
   case rel => exact ⟨q + 1, by omega, by go_num, HI7.out, HF7.out⟩
   case measure => simp [intOf]; omega
  ·obtain rfl : q = n := by omega
   have d1 : ¬ ((q : Int) < (q : Int)) := by omega
   have hlen := Held.run_len (P := Tryz.prog) Tryz.underlying193 hI 3
   have hq7 := HNL.out
   rw [hq7, zip_take_len H2.out, ← hq7] at hlen
   rw [hq7, zip_take_all H2.out] at hI
   have HI := Lib.hid hI
   have HB := Lib.hid (show Below w.heap.size w wr from Sol.below_fr HB1.out (Nat.le_refl _) hfr (by simp; omega))
   clear hI hfr hcellk
   by_cases hqK : q < K
   ·have hqK2 : (q : Int) < (K : Int) := by omega
    go_wp2_with fail
    go_ret2
    exact ⟨HB.out, by rw [if_pos (by rw [← HNL.out]; exact hqK)]; rfl⟩
   ·have hqK2 : ¬ (q : Int) < (K : Int) := by omega
    go_wp2_with fail
    go_ret2
    exact ⟨HB.out, by rw [if_neg (by rw [← HNL.out]; exact hqK)]; exact ⟨_, rfl, HI.out⟩⟩
end Cod
end Go.Proofs.YtnbkhdbligjifaaGreatDoor
namespace Go.Proofs.YtnbkhdbligjifaaGreatDoor
open Go Go.RowKit Vm
theorem row_far {W : World} {b b' : Nat} {e e' : TypeId} {s s' : Nat} {v v' : Value} {n n' : Nat} {xs xs' : List Value} (h : W.ownsRow b e s v n xs) (h' : W.ownsRow b' e' s' v' n' xs') (hne : e ≠ e') {g : Nat} (hg : v.ownBlock = some g) : v'.ownBlock ≠ some g := by
 intro hg'
 rcases h.2 with ⟨rfl, _⟩ | ⟨g1, c1, u1, rfl, _, h1, _⟩
 ·cases hg
 rcases h'.2 with ⟨rfl, _⟩ | ⟨g2, c2, u2, rfl, _, h2, _⟩
 ·cases hg'
 have q1 : g1 = g := by simpa [Value.ownBlock] using hg
 have q2 : g2 = g := by simpa [Value.ownBlock] using hg'
 subst q1; subst q2
 rw [h1] at h2
 simp at h2
 exact hne h2.2
theorem row_cells {W : World} {b : Nat} {e : TypeId} {s : Nat} {v : Value} {n : Nat} {xs : List Value} (h : W.ownsRow b e s v n xs) {g : Nat} (hg : v.ownBlock = some g) : ∃ o : Obj, W.heap[g]? = some o ∧ o.isCells = true := by
 rcases h.2 with ⟨rfl, _⟩ | ⟨g1, c1, u1, rfl, _, h1, _⟩
 ·cases hg
 ·have q1 : g1 = g := by simpa [Value.ownBlock] using hg
  subst q1
  exact ⟨_, h1, rfl⟩
theorem keeps_grown {W W' : World} {row : Option Nat} (h : W.grownBy W' row) (hc : ∀ g, row = some g → ∃ o : Obj, W.heap[g]? = some o ∧ o.isCells = true) : KeepsOthers W W' :=
 ⟨h.size, fun k o hk ho => by
  rw [h.block k (Array.getElem?_eq_some_iff.1 hk).1 fun e => by
   obtain ⟨o', h1, h2⟩ := hc k e.symm
   rw [hk] at h1; cases h1; rw [ho] at h2; cases h2]
  exact hk⟩
theorem keeps_ext {W W' : World} (h : Stab.Ext W W') : KeepsOthers W W' := ⟨h.size, fun k o hk _ => (h.block k (Array.getElem?_eq_some_iff.1 hk).1).trans hk⟩
theorem own_app_kept {P : Program} {t e : TypeId} {z : Value} {bytes : Nat} (ht : P.underlying t = some (.slice e)) (he : (P.info? e).map (fun i => (i.zero, i.size, i.bytes)) = some (some z, 1, bytes)) (hzs : z.cells.size = 1) (hb0 : 0 < bytes)
 {w : World} {base n gb c : Nat} {v : Value} {xs : List Value} {a : Value} (hv : w.ownsRow base e 1 v n xs) (hb : Blk w gb e #[a]) (h1 : a.oneCell' = true)
 (hby : (n + 1) * bytes ≤ 70368744177664) (hbase : base ≤ w.heap.size) :
 ∃ g cap w', (appSem #[t, t] t #[v, .slice (some ⟨gb, 0, none⟩) 1 c]).run P w = .ok (.slice (some ⟨g, 0, none⟩) (n + 1) cap) w' ∧ w'.ownsRow base e 1 (.slice (some ⟨g, 0, none⟩) (n + 1) cap) (n + 1) (xs ++ [a]) ∧
  w.grownBy w' v.ownBlock ∧ w'.ownsRow base e 1 v n xs ∧ ∀ b u, w.ownsRow b e 1 u (n + 1) (xs ++ [a]) → w'.ownsRow b e 1 u (n + 1) (xs ++ [a]) := by
 obtain ⟨g, cap, w', hrun, h2, -, h4, -⟩ := own_app (t := t) (c := c) ht he hzs (by omega) hb0 hv hb (m := 1) (by simp) (by simp [h1]) (by omega) (by omega) hbase
 refine ⟨g, cap, w', hrun, h2, h4, ?_⟩
 obtain ⟨i, hi, hz0, hz1, hz2⟩ := info_parts he
 have hle : n + 1 ≤ (n + 1) * bytes := Nat.le_mul_of_pos_right _ hb0
 have hnews : ∀ j u, [a][j]? = some u → w.cell? ((⟨gb, 0, none⟩ : Addr).add j) = some u := Stab.cells_blk (l := [a]) (by simpa using hb)
 have moved : Stab.Ext w w' → w'.ownsRow base e 1 v n xs ∧ ∀ b u, w.ownsRow b e 1 u (n + 1) (xs ++ [a]) → w'.ownsRow b e 1 u (n + 1) (xs ++ [a]) := fun hE => ⟨own_ext hv hE, fun b u hu => own_ext hu hE⟩
 have hE2 : ∀ o, Stab.Ext w (w.drew.alloc o) := fun o => (Stab.Ext.drew _).trans (Stab.Ext.alloc _ _)
 rcases hv.2 with ⟨rfl, rfl⟩ | ⟨g0, cap0, cur, rfl, hbg, hg, hnc, hcm, hcs, htake⟩
 ·have hr := run_append_nil (P := P) w t t e i z ht hi hz0 ⟨gb, 0, none⟩ 1 c [a] (by rw [hz1]; rfl) hnews (by omega) (by omega) (by rw [hz2]; omega)
  have he' : (appSem #[t, t] t #[.slice none 0 0, .slice (some ⟨gb, 0, none⟩) 1 c]).run P w = _ := hr
  have hw := (Result.ok.inj (he'.symm.trans hrun)).2
  subst hw
  exact moved (hE2 _)
 ·by_cases hroom : n + 1 ≤ cap0
  ·have hr := run_append_room (P := P) w t t e i ht hi g0 n cap0 cur hg ⟨gb, 0, none⟩ 1 c [a] (by rw [hz1]; rfl) hnews (by simpa using h1) hroom (by rw [hz1, hcs]; simpa using hroom)
   have he' : (appSem #[t, t] t #[.slice (some ⟨g0, 0, none⟩) n cap0, .slice (some ⟨gb, 0, none⟩) 1 c]).run P w = _ := hr
   have hw := (Result.ok.inj (he'.symm.trans hrun)).2
   subst hw
   rw [hz1, Nat.mul_one] at h2 ⊢
   rw [Nat.mul_one] at hcs htake
   have hxl : xs.length = n := by have := hv.1; omega
   have hnew := setRow_heap w g0 cur (cur.toList.take n ++ [a] ++ cur.toList.drop (n + [a].length)).toArray e (0, 0) hg
   have hsz : (cur.toList.take n ++ [a] ++ cur.toList.drop (n + [a].length)).toArray.size = cap0 := by simp; omega
   refine ⟨⟨hv.1, .inr ⟨g0, cap0, _, rfl, hbg, hnew, hnc, hcm, by omega, ?_⟩⟩, fun b u hu => ?_⟩
   ·rw [Nat.mul_one, htake, List.append_assoc, List.take_left' (by omega)]
   ·rcases hu.2 with ⟨_, h0⟩ | ⟨g1, cap1, cur1, rfl, hb1, hg1, hn1, hm1, hs1, ht1⟩
    ·omega
    ·by_cases hgg : g1 = g0
     ·subst hgg
      rw [hg] at hg1
      cases hg1
      refine ⟨hu.1, .inr ⟨g1, cap1, _, rfl, hb1, hnew, hn1, hm1, by omega, ?_⟩⟩
      rw [Nat.mul_one, htake, List.take_left' (by simp; omega)]
     ·exact ⟨hu.1, .inr ⟨g1, cap1, cur1, rfl, hb1, (setRow_other w g0 g1 _ hgg).trans hg1, hn1, hm1, hs1, ht1⟩⟩
  ·have holds : ∀ j u, xs[j]? = some u → w.cell? ((⟨g0, 0, none⟩ : Addr).add j) = some u := hv.cells (g := g0) rfl
   have hr := run_append_grow (P := P) w t t e i z ht hi hz0 ⟨g0, 0, none⟩ n cap0 xs (by rw [hz1]; exact hv.1) holds ⟨gb, 0, none⟩ 1 c [a] (by rw [hz1]; rfl) hnews (by omega) (by omega) (growslice_fits (by omega) (by rw [hz2]; omega))
   have he' : (appSem #[t, t] t #[.slice (some ⟨g0, 0, none⟩) n cap0, .slice (some ⟨gb, 0, none⟩) 1 c]).run P w = _ := hr
   have hw := (Result.ok.inj (he'.symm.trans hrun)).2
   subst hw
   exact moved (hE2 _)
structure EAB (base : Nat) (e1 e2 : TypeId) (v1 v2 : Value) (n1 n2 : Nat) (xs1 xs2 : List Value) (a c : Value) (w w' : World) : Prop where
 os : w'.os = w.os
 tape : w'.tape = w.tape
 output : w'.output = w.output
 size : w.heap.size ≤ w'.heap.size
 blk : ∀ k, k < w.heap.size → some k ≠ v1.ownBlock → some k ≠ v2.ownBlock → w'.heap[k]? = w.heap[k]?
 keep : KeepsOthers w w'
 a0 : w.ownsRow base e1 1 v1 n1 xs1 → w'.ownsRow base e1 1 v1 n1 xs1
 b0 : w.ownsRow base e2 1 v2 n2 xs2 → w'.ownsRow base e2 1 v2 n2 xs2
 a1 : ∀ u, w.ownsRow base e1 1 u (n1 + 1) (xs1 ++ [a]) → w'.ownsRow base e1 1 u (n1 + 1) (xs1 ++ [a])
 b1 : ∀ u, w.ownsRow base e2 1 u (n2 + 1) (xs2 ++ [c]) → w'.ownsRow base e2 1 u (n2 + 1) (xs2 ++ [c])
section
variable {base : Nat} {e1 e2 : TypeId} {v1 v2 : Value} {n1 n2 : Nat} {xs1 xs2 : List Value} {a c : Value} {w w' w2 : World}
theorem EAB.ext (h : Stab.Ext w w') : EAB base e1 e2 v1 v2 n1 n2 xs1 xs2 a c w w' :=
 ⟨h.os, h.tape, h.output, h.size, fun k hk _ _ => h.block k hk, keeps_ext h, fun k => own_ext k h, fun k => own_ext k h, fun _ k => own_ext k h, fun _ k => own_ext k h⟩
theorem EAB.refl : EAB base e1 e2 v1 v2 n1 n2 xs1 xs2 a c w w := EAB.ext (Stab.Ext.refl _)
theorem EAB.trans (h : EAB base e1 e2 v1 v2 n1 n2 xs1 xs2 a c w w') (k : EAB base e1 e2 v1 v2 n1 n2 xs1 xs2 a c w' w2) : EAB base e1 e2 v1 v2 n1 n2 xs1 xs2 a c w w2 :=
 ⟨k.os.trans h.os, k.tape.trans h.tape, k.output.trans h.output, Nat.le_trans h.size k.size, fun x hx p q => (k.blk x (Nat.lt_of_lt_of_le hx h.size) p q).trans (h.blk x hx p q), h.keep.trans k.keep,
  fun x => k.a0 (h.a0 x), fun x => k.b0 (h.b0 x), fun u x => k.a1 u (h.a1 u x), fun u x => k.b1 u (h.b1 u x)⟩
theorem EAB.one (hne : e1 ≠ e2) (h0 : w.ownsRow base e1 1 v1 n1 xs1) (hg : w.grownBy w' v1.ownBlock) (k0 : w'.ownsRow base e1 1 v1 n1 xs1) (k1 : ∀ b u, w.ownsRow b e1 1 u (n1 + 1) (xs1 ++ [a]) → w'.ownsRow b e1 1 u (n1 + 1) (xs1 ++ [a])) :
 EAB base e1 e2 v1 v2 n1 n2 xs1 xs2 a c w w' :=
 have far : ∀ {b s u m ys}, w.ownsRow b e2 s u m ys → w'.ownsRow b e2 s u m ys := fun hu => row_heap hu fun g hgu => hg.block g (row_lt hu hgu) fun e => row_far hu h0 (Ne.symm hne) hgu e.symm
 ⟨hg.os, hg.tape, hg.output, hg.size, fun k hk p _ => hg.block k hk p, keeps_grown hg fun g hgg => row_cells h0 hgg, fun _ => k0, far, fun u => k1 base u, fun u => far⟩
theorem EAB.two (hne : e1 ≠ e2) (h0 : w.ownsRow base e2 1 v2 n2 xs2) (hg : w.grownBy w' v2.ownBlock) (k0 : w'.ownsRow base e2 1 v2 n2 xs2) (k1 : ∀ b u, w.ownsRow b e2 1 u (n2 + 1) (xs2 ++ [c]) → w'.ownsRow b e2 1 u (n2 + 1) (xs2 ++ [c])) :
 EAB base e1 e2 v1 v2 n1 n2 xs1 xs2 a c w w' :=
 have far : ∀ {b s u m ys}, w.ownsRow b e1 s u m ys → w'.ownsRow b e1 s u m ys := fun hu => row_heap hu fun g hgu => hg.block g (row_lt hu hgu) fun e => row_far hu h0 hne hgu e.symm
 ⟨hg.os, hg.tape, hg.output, hg.size, fun k hk _ q => hg.block k hk q, keeps_grown hg fun g hgg => row_cells h0 hgg, far, fun _ => k0, fun u => far, fun u => k1 base u⟩
def ptrE (base : Nat) (e1 e2 : TypeId) (v1 v2 : Value) (n1 n2 : Nat) (xs1 xs2 : List Value) (a c : Value) (t : TypeId) (cs : Array Value) : Stab.EVal (EAB base e1 e2 v1 v2 n1 n2 xs1 xs2 a c) :=
 ⟨fun v W => ∃ g, v = .slice (some ⟨g, 0, none⟩) 1 1 ∧ some g ≠ v1.ownBlock ∧ some g ≠ v2.ownBlock ∧ Blk W g t cs, fun _ _ _ ⟨g, h1, h2, h3, h4⟩ hE => ⟨g, h1, h2, h3, (hE.blk g h4.lt h2 h3).trans h4⟩⟩
end
theorem wp_app {P : Program} {o : Oper} {a : Act} {K : Act → World → Prop} {Q : Exit → Act → World → Prop} {w w' : World} {s x : Operand} {t : TypeId} {v u r : Value}
 (ho : o.op = .call { callee := .builtin .append, args := #[s, x], argTypes := #[t, t] }) (hty : o.type = t) (hs : a.eval s = v) (hx : a.eval x = u) (hr : (appSem #[t, t] t #[v, u]).run P w = .ok r w') (h : K (a.put o.dst r) w') : o.wp P a w K Q := by
 have hr' : (Builtin.append_ #[t, t] t #[v, u]).run P w = .ok r w' := hr
 unfold Oper.wp execOp
 simp only [ho, hty, resolve, invoke, builtin, Sem.run_bind, Sem.run_pure, Result.andThen_ok, List.map_toArray, List.map_cons, List.map_nil, hs, hx, hr']
 exact h
theorem ints_row {W : World} {b : Nat} {e : TypeId} {v : Value} {l : List Nat} (h : W.ownsRow b e 1 v l.length (l.map fun x => .int .i64 (x : Nat))) : Cod.IntsN W v l := by
 rcases h.2 with ⟨rfl, h0⟩ | ⟨g, cap, cur, rfl, _, hg, hn, _, _, ht⟩
 ·have : l = [] := List.eq_nil_of_length_eq_zero h0
  subst this
  exact ⟨none, 0, rfl, Nat.le_refl _, fun i x hi => by cases hi⟩
 ·refine ⟨_, cap, rfl, hn, fun i x hi => ⟨g, 0, rfl, ?_⟩⟩
  have := h.cells (g := g) rfl i (.int .i64 (x : Nat)) (by rw [List.getElem?_map, hi]; rfl)
  rwa [show (⟨g, 0, none⟩ : Addr).add i = ⟨g, 0 + i, none⟩ by cases i <;> simp [Addr.add]] at this
theorem strs_row {W : World} {b : Nat} {e : TypeId} {v : Value} {l : List (List UInt8)} (h : W.ownsRow b e 1 v l.length (l.map fun x => .string ⟨x.toArray⟩)) : Cod.StrsN W v l := by
 rcases h.2 with ⟨rfl, h0⟩ | ⟨g, cap, cur, rfl, _, hg, hn, _, _, ht⟩
 ·have : l = [] := List.eq_nil_of_length_eq_zero h0
  subst this
  exact ⟨none, 0, rfl, Nat.le_refl _, fun i x hi => by cases hi⟩
 ·refine ⟨_, cap, rfl, hn, fun i x hi => ⟨g, 0, rfl, ?_⟩⟩
  have := h.cells (g := g) rfl i (.string ⟨x.toArray⟩) (by rw [List.getElem?_map, hi]; rfl)
  rwa [show (⟨g, 0, none⟩ : Addr).add i = ⟨g, 0 + i, none⟩ by cases i <;> simp [Addr.add]] at this
end Go.Proofs.YtnbkhdbligjifaaGreatDoor
namespace Go.Proofs.YtnbkhdbligjifaaGreatDoor
open Go Go.RowKit Go.Shelf Vm
namespace Str
open Hlt
attribute [local go_sem] Oper.semAt_some
attribute [local go_sem ↓] appSem_eq
noncomputable def hvL (p : PW) (d : ByteArray) (k n : Int) (q : Nat) : List Nat := (List.range q).filter fun j => (gotN p d k n j).sound
noncomputable def pyL (p : PW) (d : ByteArray) (k n : Int) (q : Nat) : List ByteArray := (hvL p d k n q).map fun j => (gotN p d k n j).pay
noncomputable def moreR (p : PW) (d : ByteArray) (k n : Nat) (q : Nat) : Bool := decide ((hvL p d k n (q + 1)).length < k)
theorem hvL_len (p : PW) (d : ByteArray) (k n : Int) (q : Nat) : (hvL p d k n q).length ≤ q := Nat.le_trans (List.length_filter_le _ _) (by simp)
theorem pyL_len (p : PW) (d : ByteArray) (k n : Int) (q : Nat) : (pyL p d k n q).length = (hvL p d k n q).length := by simp [pyL]
theorem hvL_yes {p : PW} {d : ByteArray} {k n : Int} {q : Nat} (h : (gotN p d k n q).sound = true) : hvL p d k n (q + 1) = hvL p d k n q ++ [q] ∧ pyL p d k n (q + 1) = pyL p d k n q ++ [(gotN p d k n q).pay] := by
 have : hvL p d k n (q + 1) = hvL p d k n q ++ [q] := by simp [hvL, List.range_succ, h]
 exact ⟨this, by unfold pyL; rw [this, List.map_append]; rfl⟩
theorem hvL_no {p : PW} {d : ByteArray} {k n : Int} {q : Nat} (h : (gotN p d k n q).sound = false) : hvL p d k n (q + 1) = hvL p d k n q ∧ pyL p d k n (q + 1) = pyL p d k n q := by
 have : hvL p d k n (q + 1) = hvL p d k n q := by simp [hvL, List.range_succ, h]
 exact ⟨this, by unfold pyL; rw [this]⟩
def strsV (l : List ByteArray) : List Value := l.map fun x => .string x
def nums (l : List Nat) : List Value := l.map fun x => .int .i64 (x : Nat)
structure RdS (base A1 A2 c4 : Nat) (k n : Int) (v1 v2 : Value) (hs : List Nat) (ps : List ByteArray) (W : World) : Prop where
 i1 : Boxed W A1 54 v1
 i2 : Boxed W A2 60 v2
 c : Blk W c4 25 #[.int .i64 k, .int .i64 n]
 a0 : W.ownsRow base 3 1 v1 hs.length (nums hs)
 b0 : W.ownsRow base 9 1 v2 hs.length (strsV ps)
 base : base ≤ W.heap.size
def rdO (A1 A2 c4 : Nat) (v1 v2 : Value) : List Nat := A1 :: A2 :: c4 :: (v1.ownBlock.toList ++ v2.ownBlock.toList)
def RdI (base A1 A2 c4 : Nat) (p : PW) (d : ByteArray) (k n : Int) (q : Nat) (S : List Nat) (W : World) : Prop :=
 ∃ v1 v2, S = rdO A1 A2 c4 v1 v2 ∧ RdS base A1 A2 c4 k n v1 v2 (hvL p d k n q) (pyL p d k n q) W
theorem RdS.keep {base A1 A2 c4 : Nat} {k n : Int} {v1 v2 : Value} {hs : List Nat} {ps : List ByteArray} {W W' : World} {Y : List Nat} (h : RdS base A1 A2 c4 k n v1 v2 hs ps W) (hf : Fr Y W W') (hY : ∀ y, y ∈ Y → y ∉ rdO A1 A2 c4 v1 v2) : RdS base A1 A2 c4 k n v1 v2 hs ps W' where
 i1 := (hf.block A1 h.i1.lt fun hm => hY _ hm (by simp [rdO])).trans h.i1
 i2 := (hf.block A2 h.i2.lt fun hm => hY _ hm (by simp [rdO])).trans h.i2
 c := hf.blk h.c fun hm => hY _ hm (by simp [rdO])
 a0 := row_heap h.a0 fun g hg => hf.block g (row_lt h.a0 hg) fun hm => hY _ hm (by simp [rdO, hg])
 b0 := row_heap h.b0 fun g hg => hf.block g (row_lt h.b0 hg) fun hm => hY _ hm (by simp [rdO, hg])
 base := Nat.le_trans h.base hf.size
theorem RdS.lt {base A1 A2 c4 : Nat} {k n : Int} {v1 v2 : Value} {hs : List Nat} {ps : List ByteArray} {W : World} (h : RdS base A1 A2 c4 k n v1 v2 hs ps W) : ∀ x, x ∈ rdO A1 A2 c4 v1 v2 → x < W.heap.size := by
 intro x hx
 simp only [rdO, List.mem_cons, List.mem_append, Option.mem_toList] at hx
 rcases hx with rfl | rfl | rfl | hx | hx
 ·exact h.i1.lt
 ·exact h.i2.lt
 ·exact h.c.lt
 ·exact row_lt h.a0 hx
 ·exact row_lt h.b0 hx
theorem rdI_st {base A1 A2 c4 : Nat} {p : PW} {d : ByteArray} {k n : Int} : ∀ q S W W' Y, RdI base A1 A2 c4 p d k n q S W → Fr Y W W' → (∀ y, y ∈ Y → y ∉ S) → RdI base A1 A2 c4 p d k n q S W' := by
 rintro q S W W' Y ⟨v1, v2, rfl, h⟩ hf hY
 exact ⟨v1, v2, rfl, h.keep hf hY⟩
theorem own_app_at {P : Program} {t e : TypeId} {z : Value} {bytes : Nat} (ht : P.underlying t = some (.slice e)) (he : (P.info? e).map (fun i => (i.zero, i.size, i.bytes)) = some (some z, 1, bytes)) (hzs : z.cells.size = 1) (hb0 : 0 < bytes)
 {w : World} {base n gb c : Nat} {v : Value} {xs : List Value} {a : Value} (hv : w.ownsRow base e 1 v n xs) (hb : Blk w gb e #[a]) (h1 : a.oneCell' = true)
 (hby : (n + 1) * bytes ≤ 70368744177664) (hbase : base ≤ w.heap.size) :
 ∃ g cap w', (appSem #[t, t] t #[v, .slice (some ⟨gb, 0, none⟩) 1 c]).run P w = .ok (.slice (some ⟨g, 0, none⟩) (n + 1) cap) w' ∧ w'.ownsRow base e 1 (.slice (some ⟨g, 0, none⟩) (n + 1) cap) (n + 1) (xs ++ [a]) ∧
  w.grownBy w' v.ownBlock ∧ w'.ownsRow base e 1 v n xs ∧ (∀ b u, w.ownsRow b e 1 u (n + 1) (xs ++ [a]) → w'.ownsRow b e 1 u (n + 1) (xs ++ [a])) ∧ (v.ownBlock = some g ∨ g = w.heap.size) := by
 obtain ⟨g, cap, w', r1, r2, r3, r4, r5⟩ := own_app_kept (c := c) ht he hzs hb0 hv hb h1 hby hbase
 obtain ⟨g2, cap2, w2, q1, -, -, -, q5⟩ := own_app (t := t) (c := c) ht he hzs (by omega) hb0 hv hb (m := 1) (by simp) (by simp [h1]) (by omega) (by omega) hbase
 rw [r1] at q1
 injection q1 with q1 q2
 injection q1 with q1
 injection q1 with q1
 injection q1 with q1
 subst q1
 exact ⟨g, cap, w', r1, r2, r3, r4, r5, q5⟩
def oneE2 (lo base : Nat) (e1 e2 : TypeId) (v1 v2 : Value) (n1 n2 : Nat) (xs1 xs2 : List Value) (a c : Value) : Stab.EVal (EAB base e1 e2 v1 v2 n1 n2 xs1 xs2 a c) :=
 ⟨fun v W => (∃ g cap, v = .slice (some ⟨g, 0, none⟩) (n1 + 1) cap ∧ (v1.ownBlock = some g ∨ lo ≤ g)) ∧ W.ownsRow base e1 1 v (n1 + 1) (xs1 ++ [a]), fun v _ _ h hE => ⟨h.1, hE.a1 v h.2⟩⟩
def twoE2 (lo base : Nat) (e1 e2 : TypeId) (v1 v2 : Value) (n1 n2 : Nat) (xs1 xs2 : List Value) (a c : Value) : Stab.EVal (EAB base e1 e2 v1 v2 n1 n2 xs1 xs2 a c) :=
 ⟨fun v W => (∃ g cap, v = .slice (some ⟨g, 0, none⟩) (n2 + 1) cap ∧ (v2.ownBlock = some g ∨ lo ≤ g)) ∧ W.ownsRow base e2 1 v (n2 + 1) (xs2 ++ [c]), fun v _ _ h hE => ⟨h.1, hE.b1 v h.2⟩⟩
structure RdF (lo base A1 A2 : Nat) (v1 v2 : Value) (m : Nat) (xs1 xs2 : List Value) (W : World) : Prop where
 i1 : Boxed W A1 54 v1
 i2 : Boxed W A2 60 v2
 a0 : W.ownsRow base 3 1 v1 m xs1
 b0 : W.ownsRow base 9 1 v2 m xs2
 base : base ≤ W.heap.size
 lo : lo ≤ W.heap.size
theorem read1_any {base A1 A2 c4 : Nat} (hA : A1 < base ∧ A2 < base ∧ c4 < base ∧ A1 ≠ A2 ∧ c4 ≠ A1 ∧ c4 ≠ A2) (p : PW) (d : ByteArray) (k n : Nat) (q : Nat) (hq : q < 1000) (S : List Nat) (W : World) (hI : RdI base A1 A2 c4 p d k n q S W) :
 Calls Tryz.prog 62 #[.int .i64 (q : Int), .string (gotN p d k n q).pay, .bool (gotN p d k n q).sound, .pointer (some ⟨A1, 0, none⟩), .pointer (some ⟨A2, 0, none⟩), .pointer (some ⟨c4, 0, none⟩)] W (OnP (RdI base A1 A2 c4 p d k n) (moreR p d k n) q S W) := by
 obtain ⟨v1, v2, rfl, hI⟩ := hI
 obtain ⟨ha1, ha2, ha3, ha4, ha5, ha6⟩ := hA
 refine (callsIn_wide (n := 5)).1 ?_
 have h15 : 1 ≤ 5 := by omega
 refine callsIn_of_wp Tryz.func62 rfl trivial ?_ rfl
 simp only [Tryz.ntmps62, List.size_toArray, List.length_cons, List.length_nil, Nat.reduceAdd, Nat.reduceSub, Array.replicate_succ, Array.replicate_zero, List.push_toArray, List.append_toArray, List.nil_append, List.cons_append]
 have hln := hvL_len p d k n q
 obtain ⟨B1, c1, hv1⟩ := row_shape hI.a0
 obtain ⟨B2, c2, hv2⟩ := row_shape hI.b0
 subst hv1 hv2
 have g1 := hI.i1.cell
 have g2 := hI.i2.cell
 have g3 := hI.c.cell 0
 simp only [List.getElem?_toArray, List.getElem?_cons_zero] at g3
 cases hs : (gotN p d k n q).sound with
 | false =>
   obtain ⟨h1, h2⟩ := hvL_no hs
   have HP := Lib.hid (show OnP (RdI base A1 A2 c4 p d k n) (moreR p d k n) q (rdO A1 A2 c4 (.slice B1 (hvL p d k n q).length c1) (.slice B2 (hvL p d k n q).length c2)) W (.returned (.bool (moreR p d k n q))) W from
    ⟨rfl, _, ⟨_, _, rfl, by rw [h1, h2]; exact hI⟩, Fr.refl _ _, fun x hx => .inl hx, hI.lt⟩)
   have HM := Lib.hid (show moreR p d k n q = decide ((hvL p d k n q).length < k) by unfold moreR; rw [h1])
   clear hI h1 h2
   gi_wp2_with fail
   go_ret
   have := HP.out
   rw [HM.out] at this
   exact this
 | true =>
   obtain ⟨h1, h2⟩ := hvL_yes hs
   have hm : moreR p d k n q = decide ((hvL p d k n q).length + 1 < k) := by unfold moreR; rw [h1, List.length_append]; rfl
   have hpl := pyL_len p d k n q
   generalize hhs : hvL p d k n q = hs at *
   generalize hps : pyL p d k n q = ps at *
   generalize (gotN p d k n q).pay = pay at *
   have FIN : ∀ (R W2 : World) (u1 u2 : Value), EAB base 3 9 (.slice B1 hs.length c1) (.slice B2 hs.length c2) hs.length hs.length (nums hs) (strsV ps) (.int .i64 (q : Nat)) (.string pay) W R → R.ownsRow base 3 1 u1 (hs.length + 1) (nums hs ++ [.int .i64 (q : Nat)]) → R.ownsRow base 9 1 u2 (hs.length + 1) (strsV ps ++ [.string pay]) → (∀ g, u1.ownBlock = some g → (Value.slice B1 hs.length c1).ownBlock = some g ∨ W.heap.size ≤ g) → (∀ g, u2.ownBlock = some g → (Value.slice B2 hs.length c2).ownBlock = some g ∨ W.heap.size ≤ g) → W2 = (R.setCell ⟨A1, 0, none⟩ u1).setCell ⟨A2, 0, none⟩ u2 →
    (R.cell? ⟨A1, 0, none⟩ = some (.slice B1 hs.length c1) ∧ R.frozen? ⟨A1, 0, none⟩ = false ∧ R.cell? ⟨A2, 0, none⟩ = some (.slice B2 hs.length c2) ∧ R.frozen? ⟨A2, 0, none⟩ = false ∧ R.cell? ⟨c4, 0, none⟩ = some (.int .i64 (k : Int))) ∧ OnP (RdI base A1 A2 c4 p d k n) (moreR p d k n) q (rdO A1 A2 c4 (.slice B1 hs.length c1) (.slice B2 hs.length c2)) W (.returned (.bool (decide (hs.length + 1 < k)))) W2 := by
    rintro R W2 u1 u2 hT hr1 hr2 ho1 ho2 rfl
    have q1 : Boxed R A1 54 (.slice B1 hs.length c1) := (hT.blk _ hI.i1.lt (hI.i1.not_row (by decide) hI.a0) (hI.i1.not_row (by decide) hI.b0)).trans hI.i1
    have q2 : Boxed R A2 60 (.slice B2 hs.length c2) := (hT.blk _ hI.i2.lt (hI.i2.not_row (by decide) hI.a0) (hI.i2.not_row (by decide) hI.b0)).trans hI.i2
    have q3 : Blk R c4 25 #[.int .i64 (k : Int), .int .i64 (n : Int)] := (hT.blk _ hI.c.lt (fun e => by have := (hI.a0.lt c4 e.symm).1; omega) (fun e => by have := (hI.b0.lt c4 e.symm).1; omega)).trans hI.c
    have q3c := q3.cell 0
    simp only [List.getElem?_toArray, List.getElem?_cons_zero] at q3c
    refine ⟨⟨q1.cell, q1.frozen, q2.cell, q2.frozen, q3c⟩, by rw [hm], rdO A1 A2 c4 u1 u2, ⟨u1, u2, rfl, ?_⟩, ?_, ?_, ?_⟩
    rotate_left
    ·refine ⟨hT.os, hT.tape, hT.output, by have := hT.size; simp only [World.setCell, Array.size_modify]; omega, fun x hx hn => ?_⟩
     simp only [rdO, List.mem_cons, List.mem_append, Option.mem_toList, not_or] at hn
     obtain ⟨n1, n2, n3, n4, n5⟩ := hn
     exact (Below.heap_setCell _ _ _ _ (by simpa using n2)).trans ((Below.heap_setCell _ _ _ _ (by simpa using n1)).trans (hT.blk x hx (fun e => n4 e.symm) (fun e => n5 e.symm)))
    ·intro x hx
     simp only [rdO, List.mem_cons, List.mem_append, Option.mem_toList] at hx ⊢
     rcases hx with hx | hx | hx | hx | hx
     ·exact .inl (.inl hx)
     ·exact .inl (.inr (.inl hx))
     ·exact .inl (.inr (.inr (.inl hx)))
     ·exact (ho1 x hx).imp (fun h => .inr (.inr (.inr (.inl h)))) id
     ·exact (ho2 x hx).imp (fun h => .inr (.inr (.inr (.inr h)))) id
    ·intro x hx
     have hsz := hT.size
     simp only [World.setCell, Array.size_modify]
     simp only [rdO, List.mem_cons, List.mem_append, Option.mem_toList] at hx
     rcases hx with rfl | rfl | rfl | hx | hx
     ·have := hI.i1.lt; omega
     ·have := hI.i2.lt; omega
     ·have := hI.c.lt; omega
     ·exact row_lt hr1 hx
     ·exact row_lt hr2 hx
    ·rw [h1, h2]
     have s1 : Boxed (R.setCell ⟨A1, 0, none⟩ u1) A1 54 u1 := q1.set u1
     have s2 : Boxed (R.setCell ⟨A1, 0, none⟩ u1) A2 60 (.slice B2 hs.length c2) := (Below.heap_setCell _ _ _ _ (by simpa using Ne.symm ha4)).trans q2
     refine ⟨(Below.heap_setCell _ _ _ _ (by simpa using ha4)).trans s1, s2.set u2, (Below.heap_setCell _ _ _ _ (by simpa using ha6)).trans ((Below.heap_setCell _ _ _ _ (by simpa using ha5)).trans q3), ?_, ?_, ?_⟩
     ·rw [List.length_append, show nums (hs ++ [q]) = nums hs ++ [.int .i64 (q : Nat)] by simp [nums]]
      exact row_heap (row_heap hr1 fun g hg => Below.heap_setCell _ _ _ _ fun e => by have := (hr1.lt g hg).1; simp at e; omega) fun g hg => Below.heap_setCell _ _ _ _ fun e => by have := (hr1.lt g hg).1; simp at e; omega
     ·rw [List.length_append, show strsV (ps ++ [pay]) = strsV ps ++ [.string pay] by simp [strsV]]
      exact row_heap (row_heap hr2 fun g hg => Below.heap_setCell _ _ _ _ fun e => by have := (hr2.lt g hg).1; simp at e; omega) fun g hg => Below.heap_setCell _ _ _ _ fun e => by have := (hr2.lt g hg).1; simp at e; omega
     ·have := hT.size; have := hI.base; simp only [World.setCell, Array.size_modify]; omega
   have HFIN := Lib.hid FIN
   have HI := Lib.hid hI
   have it : (Tryz.prog.info? 3).map (fun i => (i.zero, i.size, i.bytes)) = some (some (.int .i64 0), 1, 8) := by kernel_rfl
   have is_ : (Tryz.prog.info? 9).map (fun i => (i.zero, i.size, i.bytes)) = some (some (.string ⟨#[]⟩), 1, 16) := by kernel_rfl
   have hSS : ∀ w', EAB base 3 9 (.slice B1 hs.length c1) (.slice B2 hs.length c2) hs.length hs.length (nums hs) (strsV ps) (.int .i64 (q : Nat)) (.string pay) W.drew w' → RdF W.heap.size base A1 A2 (.slice B1 hs.length c1) (.slice B2 hs.length c2) hs.length (nums hs) (strsV ps) w' := fun w' hE => by
    have hE' := (EAB.ext (Stab.Ext.drew W)).trans hE
    exact ⟨(hE'.blk _ hI.i1.lt (hI.i1.not_row (by decide) hI.a0) (hI.i1.not_row (by decide) hI.b0)).trans hI.i1, (hE'.blk _ hI.i2.lt (hI.i2.not_row (by decide) hI.a0) (hI.i2.not_row (by decide) hI.b0)).trans hI.i2, hE'.a0 hI.a0, hE'.b0 hI.b0, Nat.le_trans hI.base hE'.size, hE'.size⟩
   clear FIN hI h1 h2 hm g1 g2 g3
   gi_wp2_with fail
   refine Stab.wpIn_region_E 8 24 [some 11, some 12, some 13, some 14, some 15, some 16, some 17, some 18] [[], [], [1], [0, 2], [], [], [5], [4, 6, 3]] [3, 7] (RdF W.heap.size base A1 A2 (.slice B1 hs.length c1) (.slice B2 hs.length c2) hs.length (nums hs) (strsV ps))
    [Stab.eqE (EAB base 3 9 (.slice B1 hs.length c1) (.slice B2 hs.length c2) hs.length hs.length (nums hs) (strsV ps) (.int .i64 (q : Nat)) (.string pay)) ?v0, Stab.eqE _ ?v1, ptrE base 3 9 (.slice B1 hs.length c1) (.slice B2 hs.length c2) hs.length hs.length (nums hs) (strsV ps) (.int .i64 (q : Nat)) (.string pay) 3 #[.int .i64 (q : Nat)], oneE2 W.heap.size base 3 9 (.slice B1 hs.length c1) (.slice B2 hs.length c2) hs.length hs.length (nums hs) (strsV ps) (.int .i64 (q : Nat)) (.string pay), Stab.eqE _ ?v4, Stab.eqE _ ?v5, ptrE base 3 9 (.slice B1 hs.length c1) (.slice B2 hs.length c2) hs.length hs.length (nums hs) (strsV ps) (.int .i64 (q : Nat)) (.string pay) 9 #[.string pay], twoE2 W.heap.size base 3 9 (.slice B1 hs.length c1) (.slice B2 hs.length c2) hs.length hs.length (nums hs) (strsV ps) (.int .i64 (q : Nat)) (.string pay)]
    rfl (by kernel_rfl) rfl (by kernel_rfl) (fun ⟨_, _, h⟩ => (by have h : OnP _ _ _ _ _ _ _ := h; exact absurd h.1 (by simp))) (by kernel_rfl) (by kernel_rfl) (fun us => by simp only [Stab.putAll, Act.put, List.setIfInBounds_toArray, List.set_cons_zero, List.set_cons_succ]; rfl)
    EAB.refl (fun _ _ _ => EAB.trans) hSS ?goals2 ?last2
   case goals2 =>
    simp only [List.take_succ_cons, List.take_zero]
    refine Stab.GoalsE.plain rfl rfl (fun us w cK hE hS hp hK => ?_) ?_
    ·skip
     have d1 := hS.i1.cell
     go_simp
     refine hK _ _ ?_ EAB.refl
     show _ = _
     with_reducible rfl
    refine Stab.GoalsE.plain rfl rfl (fun us w cK hE hS hp hK => ?_) ?_
    ·skip
     go_simp
     refine hK _ _ ?_ EAB.refl
     show _ = _
     with_reducible rfl
    refine Stab.GoalsE.plain rfl rfl (fun us w cK hE hS hp hK => ?_) ?_
    ·skip
     obtain ⟨h1, -⟩ := hp
     replace h1 : us 1 = _ := h1
     go_simp
     exact hK _ _ ⟨_, rfl, fun e => by have := row_lt hS.a0 e.symm; omega, fun e => by have := row_lt hS.b0 e.symm; omega, Blk.new _ _ _⟩ (EAB.ext (Stab.Ext.alloc _ _))
    refine Stab.GoalsE.plain rfl rfl (fun us w cK hE hS hp hK => ?_) ?_
    ·obtain ⟨h0, ⟨z, h2, -, -, hz⟩, -⟩ := hp
     replace h0 : us 0 = _ := h0
     obtain ⟨g, cap, wa, hrun, o1, hg, k0, k1, k2⟩ := own_app_at (c := 1) Tryz.underlying54 it rfl (by omega) hS.a0 hz rfl (by omega) hS.base
     refine wp_app rfl rfl (by go_simp) (by go_simp) hrun ?_
     refine ⟨rfl, ?_⟩
     exact hK _ _ ⟨⟨g, cap, rfl, k2.imp id fun h => by have := hS.lo; omega⟩, o1⟩ (EAB.one (by decide) hS.a0 hg k0 k1)
    refine Stab.GoalsE.plain rfl rfl (fun us w cK hE hS hp hK => ?_) ?_
    ·skip
     have d1 := hS.i2.cell
     go_simp
     refine hK _ _ ?_ EAB.refl
     show _ = _
     with_reducible rfl
    refine Stab.GoalsE.plain rfl rfl (fun us w cK hE hS hp hK => ?_) ?_
    ·skip
     go_simp
     refine hK _ _ ?_ EAB.refl
     show _ = _
     with_reducible rfl
    refine Stab.GoalsE.plain rfl rfl (fun us w cK hE hS hp hK => ?_) ?_
    ·skip
     obtain ⟨h5, -⟩ := hp
     replace h5 : us 5 = _ := h5
     go_simp
     exact hK _ _ ⟨_, rfl, fun e => by have := row_lt hS.a0 e.symm; omega, fun e => by have := row_lt hS.b0 e.symm; omega, Blk.new _ _ _⟩ (EAB.ext (Stab.Ext.alloc _ _))
    refine Stab.GoalsE.plain rfl rfl (fun us w cK hE hS hp hK => ?_) ?_
    ·obtain ⟨h4, ⟨z, h6, -, -, hz⟩, -⟩ := hp
     replace h4 : us 4 = _ := h4
     obtain ⟨g, cap, wa, hrun, o1, hg, k0, k1, k2⟩ := own_app_at (c := 1) Tryz.underlying60 is_ rfl (by omega) hS.b0 hz rfl (by omega) hS.base
     refine wp_app rfl rfl (by go_simp) (by go_simp) hrun ?_
     refine ⟨rfl, ?_⟩
     exact hK _ _ ⟨⟨g, cap, rfl, k2.imp id fun h => by have := hS.lo; omega⟩, o1⟩ (EAB.two (by decide) hS.b0 hg k0 k1)
    exact Stab.GoalsE.nil
   case last2 =>
    intro us W9 hE9 hS hp
    obtain ⟨⟨⟨ga, ca, h3, ho1⟩, r1⟩, ⟨⟨gb, cb, h8, ho2⟩, r2⟩, -⟩ := hp
    rw [h3] at r1
    rw [h8] at r2
    simp only [List.drop_succ_cons, List.drop_zero, h3, h8]
    have k1 : ∀ g, (Value.slice (some ⟨ga, 0, none⟩) (hs.length + 1) ca).ownBlock = some g → (Value.slice B1 hs.length c1).ownBlock = some g ∨ W.heap.size ≤ g := fun g hg => by
     have : ga = g := by simpa [Value.ownBlock] using hg
     rw [← this]; exact ho1
    have k2 : ∀ g, (Value.slice (some ⟨gb, 0, none⟩) (hs.length + 1) cb).ownBlock = some g → (Value.slice B2 hs.length c2).ownBlock = some g ∨ W.heap.size ≤ g := fun g hg => by
     have : gb = g := by simpa [Value.ownBlock] using hg
     rw [← this]; exact ho2
    obtain ⟨⟨q1, z1, q2, z2, q4⟩, hfin⟩ := HFIN.out W9 _ _ _ ((EAB.ext (Stab.Ext.drew W)).trans hE9) r1 r2 k1 k2 rfl
    clear k1 k2
    have HFF := Lib.hid hfin
    clear hS r1 r2 hE9 hfin
    go_wp2_with fail
    gi_wp2_with fail
    go_ret
    have hff := HFF.out
    rw [← show decide ((hs.length : Int) + 1 < (k : Int)) = decide (hs.length + 1 < k) from decide_eq_decide.2 (by omega)] at hff
    exact hff
end Str
end Go.Proofs.YtnbkhdbligjifaaGreatDoor
