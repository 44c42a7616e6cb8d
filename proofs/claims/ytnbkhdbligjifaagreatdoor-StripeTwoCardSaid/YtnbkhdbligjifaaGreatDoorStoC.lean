/-
 A store in memory: an object is put.
-/
import Derived.Test.YtnbkhdbligjifaaGreatDoorUsedP
set_option linter.unusedVariables false
set_option linter.unusedSimpArgs false
set_option maxRecDepth 100000
set_option maxHeartbeats 40000000
namespace Go.Proofs.YtnbkhdbligjifaaGreatDoor
open Go Go.RowKit
namespace Vm
attribute [local go_sem ↓] appSem_eq
theorem infoW : (Tryz.prog.info? 155).map (fun i => (i.zero, i.size, i.bytes)) = some (some (.agg #[.string ⟨#[]⟩, .string ⟨#[]⟩, .bool false]), 3, 40) := by kernel_rfl
theorem lt_cell {w : World} {b o : Nat} {v : Value} (h : w.cell? ⟨b, o, none⟩ = some v) : b < w.heap.size := by
 rcases Nat.lt_or_ge b w.heap.size with h1 | h1
 ·exact h1
 ·have : w.heap[b]? = none := Array.getElem?_eq_none h1
  simp [World.cell?, this] at h
def bareB (n : ByteArray) : Bool := n.toList == [109, 48] || n.toList == [109, 49]
theorem bare_any (n : ByteArray) (w : World) : Calls Tryz.prog 108 #[.string n] w fun e w' => e = .returned (.bool (bareB n)) ∧ w = w' := (bare_walk n w).mono fun _ _ h => ⟨h.1, h.2.symm⟩
def usedN : TMap → Nat
 | [] => 0
 | p :: m => (if bareB p.1 then 0 else p.2.size) + usedN m
theorem wall_used : ∀ (es : List MapEntry) (m : TMap), EntsAre es m → wall wtU es = usedN m
 | [], [], _ => rfl
 | [], _ :: _, h => by simp [EntsAre] at h
 | _ :: _, [], h => by simp [EntsAre] at h
 | e :: es, p :: m, h => by
   simp only [EntsAre, List.map_cons, List.cons.injEq, Prod.mk.injEq] at h
   obtain ⟨⟨h1, h2⟩, h3⟩ := h
   rw [wall, wall_used es m h3, usedN]
   congr 1
   unfold wtU bareB
   rw [h1, h2]
theorem used_le {m : TMap} (h : ∀ p ∈ m, p.1.size ≤ 80 ∧ p.2.size ≤ 65536) : usedN m ≤ m.length * 65536 := by
 induction m with
 | nil => simp [usedN]
 | cons p m ih =>
   have h1 := ih fun q hq => h q (List.mem_cons_of_mem _ hq)
   have h2 := (h p (List.mem_cons_self ..)).2
   rw [usedN, List.length_cons, Nat.succ_mul]
   split <;> omega
theorem used_any {w : World} {B g m : Nat} {s : PSt} {ws : Value} (h : SIs w B s g m ws) (hs : Small s.seen) :
 Calls Tryz.prog 109 #[.pointer (some ⟨B, 0, none⟩)] w fun e w' => e = .returned (.int .i64 (usedN s.seen : Nat)) ∧ Below w.heap.size w w' := by
 obtain ⟨es, cl, hb, hf⟩ := h.seen
 refine used_walk (P := B) (o := 0) (by rw [Nat.zero_add]; exact h.c2) ⟨hb, hf.born, hf.once, fun e he => ?_, wall_used _ _ hf.ents, ?_⟩
 ·have h1 : (e.key, e.val) ∈ es.toList.map (fun e => (e.key, e.val)) := List.mem_map_of_mem (f := fun e : MapEntry => (e.key, e.val)) he
  rw [hf.ents] at h1
  obtain ⟨p, _, hp⟩ := List.mem_map.1 h1
  simp only [Prod.mk.injEq] at hp
  exact ⟨p.1, p.2, hp.1.symm, hp.2.symm⟩
 ·have := used_le hs.key
  have := hs.len
  omega
theorem refS_seen (s : PSt) : (refS s).seen = s.seen := by unfold refS; split <;> rfl
theorem refS_writes (s : PSt) : (refS s).writes = s.writes := by unfold refS; split <;> rfl
theorem SIs.post' {w w' : World} {B g m : Nat} {s' : PSt} {ws : Value} {v : Value} (h : SIs w' B s' g m ws) (hf : Fr (sOwn B g m ws) w w') : StPost w B (sOwn B g m ws) v s' (.returned v) w' := ⟨rfl, _, ⟨g, m, ws, h, rfl⟩, hf, fun k hk => .inl hk⟩
def lookN (m : TMap) (n : ByteArray) : Nat := ((TMap.look m n).map ByteArray.size).getD 0
def fullB (s : PSt) (n d : ByteArray) : Bool := decide (0 ≤ s.room) && (!bareB n && decide (s.room < (usedN s.seen : Int) - lookN s.seen n + d.size))
def putE (s : PSt) (n d : ByteArray) : Int :=
 if n.size = 0 ∨ 80 < n.size ∨ 65536 < d.size then 1 else if s.down then 51 else if fullB s n d then 52 else if refB s then 53 else 0
def putS (s : PSt) (n d : ByteArray) : PSt :=
 if n.size = 0 ∨ 80 < n.size ∨ 65536 < d.size then s else if s.down then s else if fullB s n d then s else if refB s then refS s else
  { refS s with seen := TMap.put s.seen n d, writes := s.writes ++ [(n, d, false)] }
theorem row_shape {w : World} {base : Nat} {e : TypeId} {size : Nat} {v : Value} {n : Nat} {xs : List Value} (h : w.ownsRow base e size v n xs) : ∃ A cap, v = .slice A n cap := by
 rcases h.2 with ⟨rfl, rfl⟩ | ⟨g, cap, cur, rfl, _⟩
 ·exact ⟨none, 0, rfl⟩
 ·exact ⟨_, cap, rfl⟩
theorem SIs.appended {w w' : World} {B g m g' cap : Nat} {s : PSt} {ws : Value} {x : ByteArray × ByteArray × Bool} {n : Nat} {C : Array Value} (h : SIs w B s g m ws) (hown : w'.ownsRow 0 155 3 (.slice (some ⟨g', 0, none⟩) n cap) n (wcells s.writes ++ C.toList)) (hgr : (w.alloc (.cells C 155)).grownBy w' ws.ownBlock) (hwh : ws.ownBlock = some g' ∨ g' = w.heap.size + 1) (hC : C.toList = wcell x) (hn : n = s.writes.length + 1) :
 (∃ O', SAt (w'.setCell ⟨B, 1, none⟩ (.slice (some ⟨g', 0, none⟩) n cap)) B { s with writes := s.writes ++ [x] } O' ∧ Fr (sOwn B g m ws) w (w'.setCell ⟨B, 1, none⟩ (.slice (some ⟨g', 0, none⟩) n cap)) ∧ ∀ k, k ∈ O' → k ∈ sOwn B g m ws ∨ w.heap.size ≤ k) ∧ w'.cell? ⟨B, 1, none⟩ = some ws ∧ w'.frozen? ⟨B, 1, none⟩ = false := by
 have hn := h.apart
 simp only [sOwn, List.nodup_cons, List.mem_cons, not_or] at hn
 have hF0 : Fr ws.ownBlock.toList w w' := by
  refine ⟨hgr.os, hgr.tape, hgr.output, Nat.le_trans (by simp) hgr.size, fun k hk hkO => ?_⟩
  rw [hgr.block k (by simp; omega) (fun e => hkO (by simp [← e]))]
  exact Below.heap_alloc w _ k hk
 have hB' := hF0.blk h.blk hn.1.2.2
 have hF1 : Fr (sOwn B g m ws) w w' := hF0.sub fun k hk => by simp [sOwn, hk]
 have hF2 := hF1.next ((Fr.cell w' ⟨B, 1, none⟩ (.slice (some ⟨g', 0, none⟩) n cap)).sub (O' := sOwn B g m ws) fun k hk => by simp only [List.mem_singleton] at hk; simp [sOwn, hk])
 have hFB := Fr.cell w' ⟨B, 1, none⟩ (.slice (some ⟨g', 0, none⟩) n cap)
 have hg' : g' < w'.heap.size := row_lt hown rfl
 have hgB : g' ≠ B := by
  rcases hwh with h1 | h1
  ·rintro rfl; exact hn.1.2.2 (by simp [h1])
  ·have := h.blk.lt; omega
 have hgg : g' ≠ g := by
  rcases hwh with h1 | h1
  ·rintro rfl; exact hn.2.1.2 (by simp [h1])
  ·have := h.good.lt; omega
 have hgm : g' ≠ m := by
  rcases hwh with h1 | h1
  ·rintro rfl; exact hn.2.2.1 (by simp [h1])
  ·have := h.seen.lt; omega
 refine ⟨⟨sOwn B g m (.slice (some ⟨g', 0, none⟩) n cap), ⟨g, m, _, ⟨hB'.set_ 1 _, hFB.map (hF0.map h.good hn.2.1.2) (by simp only [List.mem_singleton]; exact Ne.symm hn.1.1), hFB.map (hF0.map h.seen hn.2.2.1) (by simp only [List.mem_singleton]; exact Ne.symm hn.1.2.1), ?_, ?_⟩, rfl⟩, hF2, fun k hk => ?_⟩, hB'.cell 1, hB'.frozen 1⟩
 ·have h1 := row_heap hown (w' := w'.setCell ⟨B, 1, none⟩ (.slice (some ⟨g', 0, none⟩) n cap)) fun k hk => by
   simp only [Value.ownBlock, Option.some.injEq] at hk
   subst hk
   exact Below.heap_setCell w' _ _ _ hgB
  rw [hC] at h1
  have e1 : (s.writes ++ [x]).length = n := by simp [‹n = s.writes.length + 1›]
  have e2 : wcells (s.writes ++ [x]) = wcells s.writes ++ wcell x := by simp [wcells]
  show World.ownsRow _ 0 _ 3 _ (s.writes ++ [x]).length (wcells (s.writes ++ [x]))
  rw [e1, e2]
  exact h1
 ·simp only [sOwn, Value.ownBlock, Option.toList_some, List.nodup_cons, List.mem_cons, List.not_mem_nil, or_false, not_or, not_false_eq_true, List.nodup_nil, and_true]
  exact ⟨⟨hn.1.1, hn.1.2.1, Ne.symm hgB⟩, ⟨hn.2.1.1, Ne.symm hgg⟩, Ne.symm hgm⟩
 ·simp only [sOwn, Value.ownBlock, Option.toList_some, List.mem_cons, List.not_mem_nil, or_false] at hk
  rcases hk with rfl | rfl | rfl | rfl
  ·exact .inl (by simp [sOwn])
  ·exact .inl (by simp [sOwn])
  ·exact .inl (by simp [sOwn])
  ·rcases hwh with h1 | h1
   ·exact .inl (by simp [sOwn, h1])
   ·exact .inr (by omega)
structure PRd (bx B g m : Nat) (ws : Value) (s : PSt) (n d : ByteArray) (W : World) : Prop where
 name : W.cell? ⟨bx, 0, none⟩ = some (.string n)
 data : W.cell? ⟨bx, 1, none⟩ = some (.string d)
 st : SIs W B s g m ws
theorem PRd.ext {bx B g m : Nat} {ws : Value} {s : PSt} {n d : ByteArray} {w w' : World} (h : PRd bx B g m ws s n d w) (hE : Stab.Ext w w') : PRd bx B g m ws s n d w' := ⟨hE.cell h.name, hE.cell h.data, h.st.keep (Fr.of_below (O := []) hE) (by simp)⟩
theorem put_any {w : World} {B : Nat} {s : PSt} {O : List Nat} (h : SAt w B s O) (hs : Small s.seen) (hwl : s.writes.length ≤ 1000000) (hroom : -9223372036854775808 ≤ s.room ∧ s.room ≤ 9223372036854775807) (N D : List UInt8) (hN : N.length ≤ 1000000) (hD : D.length ≤ 1000000) :
 Calls Tryz.prog 80 #[.pointer (some ⟨B, 0, none⟩), .agg #[.string ⟨N.toArray⟩, .string ⟨D.toArray⟩]] w (StPost w B O (.int .i64 (putE s ⟨N.toArray⟩ ⟨D.toArray⟩)) (putS s ⟨N.toArray⟩ ⟨D.toArray⟩)) := by
 have hNs : (⟨N.toArray⟩ : ByteArray).size = N.length := by simp [ByteArray.size]
 have hDs : (⟨D.toArray⟩ : ByteArray).size = D.length := by simp [ByteArray.size]
 have hdf : putE s ⟨N.toArray⟩ ⟨D.toArray⟩ = (if N.length = 0 ∨ 80 < N.length ∨ 65536 < D.length then 1 else if s.down then 51 else if fullB s ⟨N.toArray⟩ ⟨D.toArray⟩ then 52 else if refB s then 53 else 0) := by rw [putE, hNs, hDs]
 have hsf : putS s ⟨N.toArray⟩ ⟨D.toArray⟩ = (if N.length = 0 ∨ 80 < N.length ∨ 65536 < D.length then s else if s.down then s else if fullB s ⟨N.toArray⟩ ⟨D.toArray⟩ then s else if refB s then refS s else { refS s with seen := TMap.put s.seen ⟨N.toArray⟩ ⟨D.toArray⟩, writes := s.writes ++ [(⟨N.toArray⟩, ⟨D.toArray⟩, false)] }) := by rw [putS, hNs, hDs]
 obtain ⟨g, m, ws, h, rfl⟩ := h
 have h1 := h.alloc (.cells #[.string ⟨N.toArray⟩, .string ⟨D.toArray⟩] 45)
 have hF1 := Fr.alloc w (.cells #[.string ⟨N.toArray⟩, .string ⟨D.toArray⟩] 45)
 have HMLT := Lib.hid h.seen.lt
 by_cases hbad : N.length = 0 ∨ 80 < N.length ∨ 65536 < D.length
 ·rw [if_pos hbad] at hdf hsf
  rw [hdf, hsf]
  have H1 := Lib.hid h1
  have HF1 := Lib.hid hF1
  have h80 : N.length = 0 → N = [] := List.eq_nil_of_length_eq_zero
  clear h h1 hF1 hdf hsf hNs hDs
  rcases Nat.eq_zero_or_pos N.length with h0 | h0
  ·obtain rfl := h80 h0
   clear h80 hbad h0
   go_enter Tryz.func80, Tryz.ntmps80
   go_wp2_with fail
   go_ret
   exact H1.out.post HF1.out.nil
  ·have hemp : N.isEmpty = false := by
    cases N with
    | nil => exact absurd h0 (by simp)
    | cons a l => rfl
   by_cases h2 : 80 < N.length
   ·have h2i : (80 : Int) < (N.length : Int) := by omega
    clear h80 hbad
    go_enter Tryz.func80, Tryz.ntmps80
    go_wp2_with fail
    go_ret
    exact H1.out.post HF1.out.nil
   ·have h2i : ¬ (80 : Int) < (N.length : Int) := by omega
    have h3i : (65536 : Int) < (D.length : Int) := by omega
    clear h80 hbad
    go_enter Tryz.func80, Tryz.ntmps80
    go_wp2_with fail
    go_ret
    exact H1.out.post HF1.out.nil
 ·rw [if_neg hbad] at hdf hsf
  have h0 : 0 < N.length := by omega
  have hemp : N.isEmpty = false := by
   cases N with
   | nil => exact absurd h0 (by simp)
   | cons a l => rfl
  have h2i : ¬ (80 : Int) < (N.length : Int) := by omega
  have h3i : ¬ (65536 : Int) < (D.length : Int) := by omega
  have hBlt := h.blk.lt
  by_cases hdn : s.down = true
  ·rw [if_pos hdn] at hdf hsf
   rw [hdf, hsf]
   have c3 := h1.c3
   rw [hdn] at c3
   have H1 := Lib.hid h1
   have HF1 := Lib.hid hF1
   clear h h1 hF1 hdf hsf hNs hDs hdn hbad
   go_enter Tryz.func80, Tryz.ntmps80
   go_wp2_with fail
   go_ret
   exact H1.out.post HF1.out.nil
  ·rw [if_neg hdn] at hdf hsf
   have hdn2 : s.down = false := by simpa using hdn
   have c3 := h1.c3
   rw [hdn2] at c3
   have bx := Blk.new w 45 #[.string ⟨N.toArray⟩, .string ⟨D.toArray⟩]
   have HP := Lib.hid (show PRd w.heap.size B g m ws s ⟨N.toArray⟩ ⟨D.toArray⟩ (w.alloc (.cells #[.string ⟨N.toArray⟩, .string ⟨D.toArray⟩] 45)) from ⟨bx.cell 0, bx.cell 1, h1⟩)
   have HF1 := Lib.hid hF1
   have HDF := Lib.hid hdf
   have HSF := Lib.hid hsf
   have HNS := Lib.hid hNs
   have HDS := Lib.hid hDs
   have HS := Lib.hid hs
   have HWL := Lib.hid hwl
   clear h h1 hF1 hdf hsf hNs hDs hdn hdn2 hbad bx hs
   -- behind region 7
   by_cases hr : 0 ≤ s.room
   ·have hrb : decide (0 ≤ s.room) = true := decide_eq_true hr
    have HBW := Lib.hid (fun w => bare_any ⟨N.toArray⟩ w)
    cases hbr : bareB ⟨N.toArray⟩ with
    | true =>
      have HFB := Lib.hid (show fullB s ⟨N.toArray⟩ ⟨D.toArray⟩ = false from by rw [fullB, hbr]; simp)
      rw [hbr] at HBW
      clear hbr
      go_enter Tryz.func80, Tryz.ntmps80
      go_wp2_with fail
      refine Stab.rg 34 [[], [0], [1], [2], [3], [4], [5], [6, 5], [7, 5], [8, 5], [5, 9], [10], [11], [12, 11], [11], [14, 11], [15, 11], [16, 11], [11], [18, 11], [17, 19, 11], [20, 11], [13, 21, 11], [11], [23, 11], [24, 11], [22, 25, 11], [11], [27, 11], [28, 11], [29, 11], [26, 30, 11], [11, 31], [32]] [33] (PRd w.heap.size B g m ws s ⟨N.toArray⟩ ⟨D.toArray⟩) [Stab.eqv ?_, Stab.eqv ?_, Stab.eqv ?_, Stab.eqv ?_, Stab.eqv ?_, Stab.eqv ?_, Stab.eqv ?_, Stab.eqv ?_, Stab.eqv ?_, Stab.eqv ?_, Stab.eqv ?_, Stab.eqv ?_, Stab.eqv ?_, Stab.eqv ?_, Stab.eqv ?_, Stab.eqv ?_, Stab.eqv ?_, Stab.eqv ?_, Stab.eqv ?_, Stab.eqv ?_, Stab.eqv ?_, Stab.eqv ?_, Stab.eqv ?_, Stab.eqv ?_, Stab.eqv ?_, Stab.eqv ?_, Stab.eqv ?_, Stab.eqv ?_, Stab.eqv ?_, Stab.eqv ?_, Stab.eqv ?_, Stab.eqv ?_, Stab.eqv ?_, Stab.eqv ?_] (HP.out.ext (Stab.Ext.drew _)) (fun _ _ h hE => h.ext hE) ?goals7b ?last7b
      case goals7b =>
       simp only [List.take_succ_cons, List.take_zero]
       iterate 6
        refine Stab.gp (fun us w _ hE hS hp hK => ?_) ?_
        ·((try have e0 : _ = _ := hp.1); (try have e1 : _ = _ := hp.2.1); (try have e2 : _ = _ := hp.2.2.1); obtain ⟨s0, s1, st⟩ := hS; have s5 := st.c5; have s2 := st.c2; go_simp; exact hK _ _ (by show _ = _; with_reducible rfl) (Stab.Ext.refl _))
       iterate 2
        refine Stab.gt (fun us w _ hE hS hp hK => ?_) ?_
        ·((try have e0 : _ = _ := hp.1); (try have e1 : _ = _ := hp.2.1); (try have e2 : _ = _ := hp.2.2.1); refine ⟨(by first | exact e0 | exact e1 | exact e2), ?_⟩; obtain ⟨s0, s1, st⟩ := hS; have s5 := st.c5; have s2 := st.c2; go_simp; exact hK _ _ (by show _ = _; with_reducible rfl) (Stab.Ext.refl _))
       refine Stab.Goals.guarded rfl rfl (fun us w cK hE hS hp hK => ?_) ?_
       ·obtain ⟨h7, h5, -⟩ := hp
        replace h7 : us 7 = _ := h7
        replace h5 : us 5 = _ := h5
        refine ⟨_, h5, fun _ => ?_, fun h => absurd rfl h⟩
        go_simp
        go_wp2_with (go_at_call 108; ((with_reducible refine (HBW.out _).mono ?_); rintro e w1 ⟨rfl, rfl⟩))
        refine hK _ _ ?_ (Stab.Ext.refl _)
        show _ = _
        with_reducible rfl
       refine Stab.gt (fun us w _ hE hS hp hK => ?_) ?_
       ·((try have e0 : _ = _ := hp.1); (try have e1 : _ = _ := hp.2.1); (try have e2 : _ = _ := hp.2.2.1); refine ⟨(by first | exact e0 | exact e1 | exact e2), ?_⟩; obtain ⟨s0, s1, st⟩ := hS; have s5 := st.c5; have s2 := st.c2; go_simp; exact hK _ _ (by show _ = _; with_reducible rfl) (Stab.Ext.refl _))
       iterate 2
        refine Stab.gp (fun us w _ hE hS hp hK => ?_) ?_
        ·((try have e0 : _ = _ := hp.1); (try have e1 : _ = _ := hp.2.1); (try have e2 : _ = _ := hp.2.2.1); obtain ⟨s0, s1, st⟩ := hS; have s5 := st.c5; have s2 := st.c2; go_simp; exact hK _ _ (by show _ = _; with_reducible rfl) (Stab.Ext.refl _))
       iterate 20
        refine Stab.gs (fun us w _ hE hS hp hK => ?_) ?_
        ·((try have e0 : _ = _ := hp.1); (try have e1 : _ = _ := hp.2.1); (try have e2 : _ = _ := hp.2.2.1); exact ⟨(by first | exact e0 | exact e1 | exact e2), hK _ _ (by show _ = _; with_reducible rfl) (Stab.Ext.refl _)⟩)
       iterate 2
        refine Stab.gp (fun us w _ hE hS hp hK => ?_) ?_
        ·((try have e0 : _ = _ := hp.1); (try have e1 : _ = _ := hp.2.1); (try have e2 : _ = _ := hp.2.2.1); obtain ⟨s0, s1, st⟩ := hS; have s5 := st.c5; have s2 := st.c2; go_simp; exact hK _ _ (by show _ = _; with_reducible rfl) (Stab.Ext.refl _))
       exact Stab.Goals.nil
      case last7b =>
       intro us w2 hE hS hp
       obtain ⟨h33, -⟩ := hp
       replace h33 : us 33 = _ := h33
       simp only [List.drop_succ_cons, List.drop_zero, h33]
       have hE2 := (Stab.Ext.drew (w.alloc (.cells #[.string ⟨N.toArray⟩, .string ⟨D.toArray⟩] 45))).trans hE
       have HF2 := Lib.hid ((HF1.out.nil (O := sOwn B g m ws)).next (Fr.of_below hE2))
       have HP2 := Lib.hid hS
       rw [HFB.out] at HDF HSF
       simp only [Bool.false_eq_true, if_false] at HDF HSF
       clear hE hE2 hS h33
       refine wpList_nil ?_
       go_wp2_with (go_at_call 110; refine (refused_any HP2.out.st).mono ?_)
       rintro e w3 ⟨rfl, h3, hF3⟩
       have HF3 := Lib.hid (HF2.out.next (hF3.sub fun k hk => by simp only [List.mem_singleton] at hk; rw [hk]; exact h3.mem))
       have hnB : w.heap.size ≠ B := by omega
       have hobj0 : w3.cell? ⟨w.heap.size, 0, none⟩ = some (.string ⟨N.toArray⟩) := by
        have := HP2.out.name
        rw [World.cell?, hF3.block w.heap.size (lt_cell this) (by simpa using hnB)]
        exact this
       have hobj1 : w3.cell? ⟨w.heap.size, 1, none⟩ = some (.string ⟨D.toArray⟩) := by
        have := HP2.out.data
        rw [World.cell?, hF3.block w.heap.size (lt_cell this) (by simpa using hnB)]
        exact this
       have HP3 := Lib.hid (show PRd w.heap.size B g m ws (refS s) ⟨N.toArray⟩ ⟨D.toArray⟩ w3 from ⟨hobj0, hobj1, h3⟩)
       have HRS := Lib.hid (show (refS s).seen = s.seen ∧ (refS s).writes = s.writes from ⟨refS_seen s, refS_writes s⟩)
       clear h3 hF3 hobj0 hobj1
       cases hrf : refB s with
       | true =>
         rw [hrf] at HDF HSF
         simp only [if_true] at HDF HSF
         clear hrf
         go_wp2_with fail
         go_ret
         rw [HDF.out, HSF.out]
         exact HP3.out.st.post' HF3.out
       | false =>
         rw [hrf] at HDF HSF
         simp only [Bool.false_eq_true, if_false] at HDF HSF
         clear hrf
         generalize refS s = s1 at *
         go_wp2_with fail
         refine Stab.rg 8 [[], [0], [1], [2], [], [4], [], [6]] [3, 5, 7] (PRd w.heap.size B g m ws s1 ⟨N.toArray⟩ ⟨D.toArray⟩) [Stab.eqv ?_, Stab.eqv ?_, Stab.eqv ?_, Stab.eqv ?_, Stab.eqv ?_, Stab.eqv ?_, Stab.eqv ?_, Stab.eqv ?_] (HP3.out.ext (Stab.Ext.drew _)) (fun _ _ h hE => h.ext hE) ?goals11b ?last11b
         case goals11b =>
          simp only [List.take_succ_cons, List.take_zero]
          iterate 8
           refine Stab.gp (fun us w _ hE hS hp hK => ?_) ?_
           ·((try have e0 : _ = _ := hp.1); (try have e1 : _ = _ := hp.2.1); (try have e2 : _ = _ := hp.2.2.1); obtain ⟨s0, s1', s2⟩ := hS; have c2 := s2.c2; go_simp; exact hK _ _ (by show _ = _; with_reducible rfl) (Stab.Ext.refl _))
          exact Stab.Goals.nil
         case last11b =>
          intro us w4 hE hS hp
          obtain ⟨h3, h5, h7, -⟩ := hp
          replace h3 : us 3 = _ := h3
          replace h5 : us 5 = _ := h5
          replace h7 : us 7 = _ := h7
          simp only [List.drop_succ_cons, List.drop_zero, h3, h5, h7]
          have hE4 := (Stab.Ext.drew w3).trans hE
          obtain ⟨es, cl, hput, hfine⟩ := run_put Tryz.underlying126 Tryz.underlying9 hS.st.seen ⟨N.toArray⟩ ⟨D.toArray⟩
          obtain ⟨h7', hF7⟩ := hS.st.reseen hfine
          have hnm : w.heap.size ≠ m := by have := HMLT.out; omega
          have HF5 := Lib.hid ((HF3.out.next (Fr.of_below hE4)).next (hF7.sub fun k hk => by simp only [List.mem_singleton] at hk; rw [hk]; exact hS.st.inO))
          have hobj0 : (setObjAt w4 m (.map es cl)).cell? ⟨w.heap.size, 0, none⟩ = some (.string ⟨N.toArray⟩) := by
           rw [World.cell?, hF7.block w.heap.size (lt_cell hS.name) (by simpa using hnm)]; exact hS.name
          have hobj1 : (setObjAt w4 m (.map es cl)).cell? ⟨w.heap.size, 1, none⟩ = some (.string ⟨D.toArray⟩) := by
           rw [World.cell?, hF7.block w.heap.size (lt_cell hS.data) (by simpa using hnm)]; exact hS.data
          have HP5 := Lib.hid (show PRd w.heap.size B g m ws { s1 with seen := TMap.put s1.seen ⟨N.toArray⟩ ⟨D.toArray⟩ } ⟨N.toArray⟩ ⟨D.toArray⟩ (setObjAt w4 m (.map es cl)) from ⟨hobj0, hobj1, h7'⟩)
          clear hE hE4 hS h3 h5 h7 h7' hF7 hobj0 hobj1 hfine
          obtain ⟨s2, hs2⟩ : ∃ s2 : PSt, s2 = { s1 with seen := TMap.put s1.seen ⟨N.toArray⟩ ⟨D.toArray⟩ } := ⟨_, rfl⟩
          rw [← hs2] at HP5
          have HS2 := Lib.hid (show ({ s1 with seen := TMap.put s.seen ⟨N.toArray⟩ ⟨D.toArray⟩, writes := s.writes ++ [(⟨N.toArray⟩, ⟨D.toArray⟩, false)] } : PSt) = { s2 with writes := s2.writes ++ [((⟨N.toArray⟩ : ByteArray), (⟨D.toArray⟩ : ByteArray), false)] } ∧ s2.writes.length ≤ 1000000 from by
           rw [hs2, ← HRS.out.1, ← HRS.out.2]
           exact ⟨rfl, by show s1.writes.length ≤ _; rw [HRS.out.2]; exact HWL.out⟩)
          clear hs2
          go_wp2_with fail
          have hmo : Tryz.prog.follows .mixedOrders = true := by kernel_rfl
          clear hput
          generalize setObjAt w4 m (.map es cl) = w5 at *
          have s0 : w5.cell? ⟨w.heap.size, 0, none⟩ = some (.string ⟨N.toArray⟩) := HP5.out.name
          have s1' : w5.cell? ⟨w.heap.size, 1, none⟩ = some (.string ⟨D.toArray⟩) := HP5.out.data
          have c1 : w5.cell? ⟨B, 1, none⟩ = some ws := HP5.out.st.c1
          have hwl := HS2.out.2
          obtain ⟨g', cap', w7, hrun, hown, hb7, hgr, hwh⟩ := own_app_new (c := 1) (m := 1) (C := #[.string ⟨N.toArray⟩, .string ⟨D.toArray⟩, .bool false]) Tryz.underlying127 infoW rfl (by omega) (by omega) (show w5.drew.ownsRow 0 155 3 ws s2.writes.length (wcells s2.writes) from HP5.out.st.row) rfl (by simp [Value.oneCell']) (by omega) (by omega) (Nat.zero_le _)
          obtain ⟨hfin, c1', hz1⟩ := (HP5.out.st.keep (Fr.of_below (Stab.Ext.drew w5)) (O := []) (by simp)).appended (x := (⟨N.toArray⟩, ⟨D.toArray⟩, false)) hown hgr hwh rfl rfl
          have HFIN := Lib.hid hfin
          have HF6 := Lib.hid (HF5.out.next (Fr.of_below (Stab.Ext.drew w5)))
          have hnn : w.heap.size < w5.heap.size := lt_cell s0
          have hBn : B < w5.heap.size := lt_cell c1
          obtain ⟨A', cap0, hve⟩ : ∃ A' cap0, ws = .slice A' s2.writes.length cap0 := row_shape HP5.out.st.row
          clear hown hb7 hgr hwh hfin hwl
          subst hve
          replace hrun : (appSem #[127, 127] 127 #[.slice A' s2.writes.length cap0, .slice (some ⟨w5.heap.size, 0, none⟩) 1 1]).run Tryz.prog ((w5.alloc (.cells #[.string ⟨N.toArray⟩, .string ⟨D.toArray⟩, .bool false] 155)).drew) = .ok (.slice (some ⟨g', 0, none⟩) (s2.writes.length + 1) cap') w7 := hrun
          go_region
          go_wp2_with fail
          go_ret
          rw [HDF.out, HSF.out, HS2.out.1]
          obtain ⟨O', q1, q2, q3⟩ := HFIN.out
          exact ⟨rfl, O', q1, HF6.out.next q2, fun k hk => (q3 k hk).imp id fun h => Nat.le_trans HF6.out.size h⟩
    | false =>
      rw [hbr] at HBW
      obtain ⟨dl, hdl, hln⟩ : ∃ dl : ByteArray, ((TMap.look s.seen ⟨N.toArray⟩).map Value.string).getD (.string ⟨#[]⟩) = .string dl ∧ lookN s.seen ⟨N.toArray⟩ = dl.size := by
       unfold lookN
       cases TMap.look s.seen ⟨N.toArray⟩ with
       | none => exact ⟨⟨#[]⟩, rfl, rfl⟩
       | some d => exact ⟨d, rfl, rfl⟩
      have hdls : dl.size ≤ 65536 := by
       rw [← hln]
       unfold lookN
       cases hq : TMap.look s.seen ⟨N.toArray⟩ with
       | none => simp
       | some d => exact (HS.out.key _ (TMap.look_mem hq)).2
      have hul : usedN s.seen ≤ 1000000000 := by
       have := used_le HS.out.key
       have := HS.out.len
       omega
      have hfd : fullB s ⟨N.toArray⟩ ⟨D.toArray⟩ = decide (s.room < (usedN s.seen : Int) - (dl.size : Int) + (D.length : Int)) := by
       rw [fullB, hbr, hrb, hln, HDS.out]; rfl
      obtain ⟨x1, hx1⟩ : ∃ x1 : Int, x1 = (usedN s.seen : Int) - (dl.size : Int) := ⟨_, rfl⟩
      have hw1 : IntKind.i64.wrap ((usedN s.seen : Int) - (dl.size : Int)) = x1 := by rw [IntKind.wrap_i64]; omega
      obtain ⟨x2, hx2⟩ : ∃ x2 : Int, x2 = x1 + (D.length : Int) := ⟨_, rfl⟩
      have hw2 : IntKind.i64.wrap (x1 + (D.length : Int)) = x2 := by rw [IntKind.wrap_i64]; omega
      rw [← hx1, ← hx2] at hfd
      have HLK := Lib.hid hdl
      clear hdl hln hbr hx1 hx2
      by_cases hfull : s.room < x2
      ·have hfb : decide (s.room < x2) = true := decide_eq_true hfull
       have HFB := Lib.hid (hfd.trans hfb)
       clear hfd
       go_enter Tryz.func80, Tryz.ntmps80
       go_wp2_with fail
       refine Stab.rg 34 [[], [0], [1], [2], [3], [4], [5], [6, 5], [7, 5], [8, 5], [5, 9], [10], [11], [12, 11], [11], [14, 11], [15, 11], [16, 11], [11], [18, 11], [17, 19, 11], [20, 11], [13, 21, 11], [11], [23, 11], [24, 11], [22, 25, 11], [11], [27, 11], [28, 11], [29, 11], [26, 30, 11], [11, 31], [32]] [33] (PRd w.heap.size B g m ws s ⟨N.toArray⟩ ⟨D.toArray⟩) [Stab.eqv ?_, Stab.eqv ?_, Stab.eqv ?_, Stab.eqv ?_, Stab.eqv ?_, Stab.eqv ?_, Stab.eqv ?_, Stab.eqv ?_, Stab.eqv ?_, Stab.eqv ?_, Stab.eqv ?_, Stab.eqv ?_, Stab.eqv ?_, Stab.eqv ?_, Stab.eqv ?_, Stab.eqv ?_, Stab.eqv ?_, Stab.eqv ?_, Stab.eqv ?_, Stab.eqv ?_, Stab.eqv ?_, Stab.eqv ?_, Stab.eqv ?_, Stab.eqv ?_, Stab.eqv ?_, Stab.eqv ?_, Stab.eqv ?_, Stab.eqv ?_, Stab.eqv ?_, Stab.eqv ?_, Stab.eqv ?_, Stab.eqv ?_, Stab.eqv ?_, Stab.eqv ?_] (HP.out.ext (Stab.Ext.drew _)) (fun _ _ h hE => h.ext hE) ?goals7c ?last7c
       case goals7c =>
        simp only [List.take_succ_cons, List.take_zero]
        iterate 6
         refine Stab.gp (fun us w _ hE hS hp hK => ?_) ?_
         ·((try have e0 : _ = _ := hp.1); (try have e1 : _ = _ := hp.2.1); (try have e2 : _ = _ := hp.2.2.1); obtain ⟨s0, s1, st⟩ := hS; have s5 := st.c5; have s2 := st.c2; go_simp; exact hK _ _ (by show _ = _; with_reducible rfl) (Stab.Ext.refl _))
        iterate 2
         refine Stab.gt (fun us w _ hE hS hp hK => ?_) ?_
         ·((try have e0 : _ = _ := hp.1); (try have e1 : _ = _ := hp.2.1); (try have e2 : _ = _ := hp.2.2.1); refine ⟨(by first | exact e0 | exact e1 | exact e2), ?_⟩; obtain ⟨s0, s1, st⟩ := hS; have s5 := st.c5; have s2 := st.c2; go_simp; exact hK _ _ (by show _ = _; with_reducible rfl) (Stab.Ext.refl _))
        refine Stab.Goals.guarded rfl rfl (fun us w cK hE hS hp hK => ?_) ?_
        ·obtain ⟨h7, h5, -⟩ := hp
         replace h7 : us 7 = _ := h7
         replace h5 : us 5 = _ := h5
         refine ⟨_, h5, fun _ => ?_, fun h => absurd rfl h⟩
         go_simp
         go_wp2_with (go_at_call 108; ((with_reducible refine (HBW.out _).mono ?_); rintro e w1 ⟨rfl, rfl⟩))
         refine hK _ _ ?_ (Stab.Ext.refl _)
         show _ = _
         with_reducible rfl
        refine Stab.gt (fun us w _ hE hS hp hK => ?_) ?_
        ·((try have e0 : _ = _ := hp.1); (try have e1 : _ = _ := hp.2.1); (try have e2 : _ = _ := hp.2.2.1); refine ⟨(by first | exact e0 | exact e1 | exact e2), ?_⟩; obtain ⟨s0, s1, st⟩ := hS; have s5 := st.c5; have s2 := st.c2; go_simp; exact hK _ _ (by show _ = _; with_reducible rfl) (Stab.Ext.refl _))
        iterate 2
         refine Stab.gp (fun us w _ hE hS hp hK => ?_) ?_
         ·((try have e0 : _ = _ := hp.1); (try have e1 : _ = _ := hp.2.1); (try have e2 : _ = _ := hp.2.2.1); obtain ⟨s0, s1, st⟩ := hS; have s5 := st.c5; have s2 := st.c2; go_simp; exact hK _ _ (by show _ = _; with_reducible rfl) (Stab.Ext.refl _))
        refine Stab.gt (fun us w _ hE hS hp hK => ?_) ?_
        ·((try have e0 : _ = _ := hp.1); (try have e1 : _ = _ := hp.2.1); (try have e2 : _ = _ := hp.2.2.1); refine ⟨(by first | exact e0 | exact e1 | exact e2), ?_⟩; obtain ⟨s0, s1, st⟩ := hS; have s5 := st.c5; have s2 := st.c2; go_simp; exact hK _ _ (by show _ = _; with_reducible rfl) (Stab.Ext.refl _))
        refine Stab.Goals.guarded rfl rfl (fun us w cK hE hS hp hK => ?_) ?_
        ·obtain ⟨h12, h11, -⟩ := hp
         replace h12 : us 12 = _ := h12
         replace h11 : us 11 = _ := h11
         refine ⟨_, h11, fun _ => ?_, fun h => absurd rfl h⟩
         go_simp
         go_wp2_with (go_at_call 109; ((with_reducible refine (used_any hS.st HS.out).mono ?_); rintro e w1 ⟨rfl, hb⟩))
         refine hK _ _ ?_ hb
         show _ = _
         with_reducible rfl
        iterate 6
         refine Stab.gt (fun us w _ hE hS hp hK => ?_) ?_
         ·((try have e0 : _ = _ := hp.1); (try have e1 : _ = _ := hp.2.1); (try have e2 : _ = _ := hp.2.2.1); refine ⟨(by first | exact e0 | exact e1 | exact e2), ?_⟩; obtain ⟨s0, s1, st⟩ := hS; have s5 := st.c5; have s2 := st.c2; go_simp; exact hK _ _ (by show _ = _; with_reducible rfl) (Stab.Ext.refl _))
        refine Stab.Goals.guarded rfl rfl (fun us w cK hE hS hp hK => ?_) ?_
        ·obtain ⟨h17, h19, h11, -⟩ := hp
         replace h17 : us 17 = _ := h17
         replace h19 : us 19 = _ := h19
         replace h11 : us 11 = _ := h11
         refine ⟨_, h11, fun _ => ?_, fun h => absurd rfl h⟩
         have hlk := run_look Tryz.underlying126 Tryz.underlying9 hS.st.seen (zeroS w) ⟨N.toArray⟩ false
         rw [HLK.out] at hlk
         simp only [Bool.false_eq_true, if_false] at hlk
         go_simp
         refine hK _ _ ?_ (Stab.Ext.refl _)
         show _ = _
         with_reducible rfl
        iterate 11
         refine Stab.gt (fun us w _ hE hS hp hK => ?_) ?_
         ·((try have e0 : _ = _ := hp.1); (try have e1 : _ = _ := hp.2.1); (try have e2 : _ = _ := hp.2.2.1); refine ⟨(by first | exact e0 | exact e1 | exact e2), ?_⟩; obtain ⟨s0, s1, st⟩ := hS; have s5 := st.c5; have s2 := st.c2; go_simp; exact hK _ _ (by show _ = _; with_reducible rfl) (Stab.Ext.refl _))
        iterate 2
         refine Stab.gp (fun us w _ hE hS hp hK => ?_) ?_
         ·((try have e0 : _ = _ := hp.1); (try have e1 : _ = _ := hp.2.1); (try have e2 : _ = _ := hp.2.2.1); obtain ⟨s0, s1, st⟩ := hS; have s5 := st.c5; have s2 := st.c2; go_simp; exact hK _ _ (by show _ = _; with_reducible rfl) (Stab.Ext.refl _))
        exact Stab.Goals.nil
       case last7c =>
        intro us w2 hE hS hp
        obtain ⟨h33, -⟩ := hp
        replace h33 : us 33 = _ := h33
        simp only [List.drop_succ_cons, List.drop_zero, h33]
        have hE2 := (Stab.Ext.drew (w.alloc (.cells #[.string ⟨N.toArray⟩, .string ⟨D.toArray⟩] 45))).trans hE
        have HF2 := Lib.hid ((HF1.out.nil (O := sOwn B g m ws)).next (Fr.of_below hE2))
        have HP2 := Lib.hid hS
        rw [HFB.out] at HDF HSF
        simp only [if_true] at HDF HSF
        clear hE hE2 hS h33
        refine wpList_nil ?_
        go_wp2_with fail
        go_ret
        rw [HDF.out, HSF.out]
        exact HP2.out.st.post' HF2.out
      ·have hfb : decide (s.room < x2) = false := decide_eq_false hfull
       have HFB := Lib.hid (hfd.trans hfb)
       clear hfd
       go_enter Tryz.func80, Tryz.ntmps80
       go_wp2_with fail
       refine Stab.rg 34 [[], [0], [1], [2], [3], [4], [5], [6, 5], [7, 5], [8, 5], [5, 9], [10], [11], [12, 11], [11], [14, 11], [15, 11], [16, 11], [11], [18, 11], [17, 19, 11], [20, 11], [13, 21, 11], [11], [23, 11], [24, 11], [22, 25, 11], [11], [27, 11], [28, 11], [29, 11], [26, 30, 11], [11, 31], [32]] [33] (PRd w.heap.size B g m ws s ⟨N.toArray⟩ ⟨D.toArray⟩) [Stab.eqv ?_, Stab.eqv ?_, Stab.eqv ?_, Stab.eqv ?_, Stab.eqv ?_, Stab.eqv ?_, Stab.eqv ?_, Stab.eqv ?_, Stab.eqv ?_, Stab.eqv ?_, Stab.eqv ?_, Stab.eqv ?_, Stab.eqv ?_, Stab.eqv ?_, Stab.eqv ?_, Stab.eqv ?_, Stab.eqv ?_, Stab.eqv ?_, Stab.eqv ?_, Stab.eqv ?_, Stab.eqv ?_, Stab.eqv ?_, Stab.eqv ?_, Stab.eqv ?_, Stab.eqv ?_, Stab.eqv ?_, Stab.eqv ?_, Stab.eqv ?_, Stab.eqv ?_, Stab.eqv ?_, Stab.eqv ?_, Stab.eqv ?_, Stab.eqv ?_, Stab.eqv ?_] (HP.out.ext (Stab.Ext.drew _)) (fun _ _ h hE => h.ext hE) ?goals7d ?last7d
       case goals7d =>
        simp only [List.take_succ_cons, List.take_zero]
        iterate 6
         refine Stab.gp (fun us w _ hE hS hp hK => ?_) ?_
         ·((try have e0 : _ = _ := hp.1); (try have e1 : _ = _ := hp.2.1); (try have e2 : _ = _ := hp.2.2.1); obtain ⟨s0, s1, st⟩ := hS; have s5 := st.c5; have s2 := st.c2; go_simp; exact hK _ _ (by show _ = _; with_reducible rfl) (Stab.Ext.refl _))
        iterate 2
         refine Stab.gt (fun us w _ hE hS hp hK => ?_) ?_
         ·((try have e0 : _ = _ := hp.1); (try have e1 : _ = _ := hp.2.1); (try have e2 : _ = _ := hp.2.2.1); refine ⟨(by first | exact e0 | exact e1 | exact e2), ?_⟩; obtain ⟨s0, s1, st⟩ := hS; have s5 := st.c5; have s2 := st.c2; go_simp; exact hK _ _ (by show _ = _; with_reducible rfl) (Stab.Ext.refl _))
        refine Stab.Goals.guarded rfl rfl (fun us w cK hE hS hp hK => ?_) ?_
        ·obtain ⟨h7, h5, -⟩ := hp
         replace h7 : us 7 = _ := h7
         replace h5 : us 5 = _ := h5
         refine ⟨_, h5, fun _ => ?_, fun h => absurd rfl h⟩
         go_simp
         go_wp2_with (go_at_call 108; ((with_reducible refine (HBW.out _).mono ?_); rintro e w1 ⟨rfl, rfl⟩))
         refine hK _ _ ?_ (Stab.Ext.refl _)
         show _ = _
         with_reducible rfl
        refine Stab.gt (fun us w _ hE hS hp hK => ?_) ?_
        ·((try have e0 : _ = _ := hp.1); (try have e1 : _ = _ := hp.2.1); (try have e2 : _ = _ := hp.2.2.1); refine ⟨(by first | exact e0 | exact e1 | exact e2), ?_⟩; obtain ⟨s0, s1, st⟩ := hS; have s5 := st.c5; have s2 := st.c2; go_simp; exact hK _ _ (by show _ = _; with_reducible rfl) (Stab.Ext.refl _))
        iterate 2
         refine Stab.gp (fun us w _ hE hS hp hK => ?_) ?_
         ·((try have e0 : _ = _ := hp.1); (try have e1 : _ = _ := hp.2.1); (try have e2 : _ = _ := hp.2.2.1); obtain ⟨s0, s1, st⟩ := hS; have s5 := st.c5; have s2 := st.c2; go_simp; exact hK _ _ (by show _ = _; with_reducible rfl) (Stab.Ext.refl _))
        refine Stab.gt (fun us w _ hE hS hp hK => ?_) ?_
        ·((try have e0 : _ = _ := hp.1); (try have e1 : _ = _ := hp.2.1); (try have e2 : _ = _ := hp.2.2.1); refine ⟨(by first | exact e0 | exact e1 | exact e2), ?_⟩; obtain ⟨s0, s1, st⟩ := hS; have s5 := st.c5; have s2 := st.c2; go_simp; exact hK _ _ (by show _ = _; with_reducible rfl) (Stab.Ext.refl _))
        refine Stab.Goals.guarded rfl rfl (fun us w cK hE hS hp hK => ?_) ?_
        ·obtain ⟨h12, h11, -⟩ := hp
         replace h12 : us 12 = _ := h12
         replace h11 : us 11 = _ := h11
         refine ⟨_, h11, fun _ => ?_, fun h => absurd rfl h⟩
         go_simp
         go_wp2_with (go_at_call 109; ((with_reducible refine (used_any hS.st HS.out).mono ?_); rintro e w1 ⟨rfl, hb⟩))
         refine hK _ _ ?_ hb
         show _ = _
         with_reducible rfl
        iterate 6
         refine Stab.gt (fun us w _ hE hS hp hK => ?_) ?_
         ·((try have e0 : _ = _ := hp.1); (try have e1 : _ = _ := hp.2.1); (try have e2 : _ = _ := hp.2.2.1); refine ⟨(by first | exact e0 | exact e1 | exact e2), ?_⟩; obtain ⟨s0, s1, st⟩ := hS; have s5 := st.c5; have s2 := st.c2; go_simp; exact hK _ _ (by show _ = _; with_reducible rfl) (Stab.Ext.refl _))
        refine Stab.Goals.guarded rfl rfl (fun us w cK hE hS hp hK => ?_) ?_
        ·obtain ⟨h17, h19, h11, -⟩ := hp
         replace h17 : us 17 = _ := h17
         replace h19 : us 19 = _ := h19
         replace h11 : us 11 = _ := h11
         refine ⟨_, h11, fun _ => ?_, fun h => absurd rfl h⟩
         have hlk := run_look Tryz.underlying126 Tryz.underlying9 hS.st.seen (zeroS w) ⟨N.toArray⟩ false
         rw [HLK.out] at hlk
         simp only [Bool.false_eq_true, if_false] at hlk
         go_simp
         refine hK _ _ ?_ (Stab.Ext.refl _)
         show _ = _
         with_reducible rfl
        iterate 11
         refine Stab.gt (fun us w _ hE hS hp hK => ?_) ?_
         ·((try have e0 : _ = _ := hp.1); (try have e1 : _ = _ := hp.2.1); (try have e2 : _ = _ := hp.2.2.1); refine ⟨(by first | exact e0 | exact e1 | exact e2), ?_⟩; obtain ⟨s0, s1, st⟩ := hS; have s5 := st.c5; have s2 := st.c2; go_simp; exact hK _ _ (by show _ = _; with_reducible rfl) (Stab.Ext.refl _))
        iterate 2
         refine Stab.gp (fun us w _ hE hS hp hK => ?_) ?_
         ·((try have e0 : _ = _ := hp.1); (try have e1 : _ = _ := hp.2.1); (try have e2 : _ = _ := hp.2.2.1); obtain ⟨s0, s1, st⟩ := hS; have s5 := st.c5; have s2 := st.c2; go_simp; exact hK _ _ (by show _ = _; with_reducible rfl) (Stab.Ext.refl _))
        exact Stab.Goals.nil
       case last7d =>
        intro us w2 hE hS hp
        obtain ⟨h33, -⟩ := hp
        replace h33 : us 33 = _ := h33
        simp only [List.drop_succ_cons, List.drop_zero, h33]
        have hE2 := (Stab.Ext.drew (w.alloc (.cells #[.string ⟨N.toArray⟩, .string ⟨D.toArray⟩] 45))).trans hE
        have HF2 := Lib.hid ((HF1.out.nil (O := sOwn B g m ws)).next (Fr.of_below hE2))
        have HP2 := Lib.hid hS
        rw [HFB.out] at HDF HSF
        simp only [Bool.false_eq_true, if_false] at HDF HSF
        clear hE hE2 hS h33
        refine wpList_nil ?_
        go_wp2_with (go_at_call 110; refine (refused_any HP2.out.st).mono ?_)
        rintro e w3 ⟨rfl, h3, hF3⟩
        have HF3 := Lib.hid (HF2.out.next (hF3.sub fun k hk => by simp only [List.mem_singleton] at hk; rw [hk]; exact h3.mem))
        have hnB : w.heap.size ≠ B := by omega
        have hobj0 : w3.cell? ⟨w.heap.size, 0, none⟩ = some (.string ⟨N.toArray⟩) := by
         have := HP2.out.name
         rw [World.cell?, hF3.block w.heap.size (lt_cell this) (by simpa using hnB)]
         exact this
        have hobj1 : w3.cell? ⟨w.heap.size, 1, none⟩ = some (.string ⟨D.toArray⟩) := by
         have := HP2.out.data
         rw [World.cell?, hF3.block w.heap.size (lt_cell this) (by simpa using hnB)]
         exact this
        have HP3 := Lib.hid (show PRd w.heap.size B g m ws (refS s) ⟨N.toArray⟩ ⟨D.toArray⟩ w3 from ⟨hobj0, hobj1, h3⟩)
        have HRS := Lib.hid (show (refS s).seen = s.seen ∧ (refS s).writes = s.writes from ⟨refS_seen s, refS_writes s⟩)
        clear h3 hF3 hobj0 hobj1
        cases hrf : refB s with
        | true =>
          rw [hrf] at HDF HSF
          simp only [if_true] at HDF HSF
          clear hrf
          go_wp2_with fail
          go_ret
          rw [HDF.out, HSF.out]
          exact HP3.out.st.post' HF3.out
        | false =>
          rw [hrf] at HDF HSF
          simp only [Bool.false_eq_true, if_false] at HDF HSF
          clear hrf
          generalize refS s = s1 at *
          go_wp2_with fail
          refine Stab.rg 8 [[], [0], [1], [2], [], [4], [], [6]] [3, 5, 7] (PRd w.heap.size B g m ws s1 ⟨N.toArray⟩ ⟨D.toArray⟩) [Stab.eqv ?_, Stab.eqv ?_, Stab.eqv ?_, Stab.eqv ?_, Stab.eqv ?_, Stab.eqv ?_, Stab.eqv ?_, Stab.eqv ?_] (HP3.out.ext (Stab.Ext.drew _)) (fun _ _ h hE => h.ext hE) ?goals11d ?last11d
          case goals11d =>
           simp only [List.take_succ_cons, List.take_zero]
           iterate 8
            refine Stab.gp (fun us w _ hE hS hp hK => ?_) ?_
            ·((try have e0 : _ = _ := hp.1); (try have e1 : _ = _ := hp.2.1); (try have e2 : _ = _ := hp.2.2.1); obtain ⟨s0, s1', s2⟩ := hS; have c2 := s2.c2; go_simp; exact hK _ _ (by show _ = _; with_reducible rfl) (Stab.Ext.refl _))
           exact Stab.Goals.nil
          case last11d =>
           intro us w4 hE hS hp
           obtain ⟨h3, h5, h7, -⟩ := hp
           replace h3 : us 3 = _ := h3
           replace h5 : us 5 = _ := h5
           replace h7 : us 7 = _ := h7
           simp only [List.drop_succ_cons, List.drop_zero, h3, h5, h7]
           have hE4 := (Stab.Ext.drew w3).trans hE
           obtain ⟨es, cl, hput, hfine⟩ := run_put Tryz.underlying126 Tryz.underlying9 hS.st.seen ⟨N.toArray⟩ ⟨D.toArray⟩
           obtain ⟨h7', hF7⟩ := hS.st.reseen hfine
           have hnm : w.heap.size ≠ m := by have := HMLT.out; omega
           have HF5 := Lib.hid ((HF3.out.next (Fr.of_below hE4)).next (hF7.sub fun k hk => by simp only [List.mem_singleton] at hk; rw [hk]; exact hS.st.inO))
           have hobj0 : (setObjAt w4 m (.map es cl)).cell? ⟨w.heap.size, 0, none⟩ = some (.string ⟨N.toArray⟩) := by
            rw [World.cell?, hF7.block w.heap.size (lt_cell hS.name) (by simpa using hnm)]; exact hS.name
           have hobj1 : (setObjAt w4 m (.map es cl)).cell? ⟨w.heap.size, 1, none⟩ = some (.string ⟨D.toArray⟩) := by
            rw [World.cell?, hF7.block w.heap.size (lt_cell hS.data) (by simpa using hnm)]; exact hS.data
           have HP5 := Lib.hid (show PRd w.heap.size B g m ws { s1 with seen := TMap.put s1.seen ⟨N.toArray⟩ ⟨D.toArray⟩ } ⟨N.toArray⟩ ⟨D.toArray⟩ (setObjAt w4 m (.map es cl)) from ⟨hobj0, hobj1, h7'⟩)
           clear hE hE4 hS h3 h5 h7 h7' hF7 hobj0 hobj1 hfine
           obtain ⟨s2, hs2⟩ : ∃ s2 : PSt, s2 = { s1 with seen := TMap.put s1.seen ⟨N.toArray⟩ ⟨D.toArray⟩ } := ⟨_, rfl⟩
           rw [← hs2] at HP5
           have HS2 := Lib.hid (show ({ s1 with seen := TMap.put s.seen ⟨N.toArray⟩ ⟨D.toArray⟩, writes := s.writes ++ [(⟨N.toArray⟩, ⟨D.toArray⟩, false)] } : PSt) = { s2 with writes := s2.writes ++ [((⟨N.toArray⟩ : ByteArray), (⟨D.toArray⟩ : ByteArray), false)] } ∧ s2.writes.length ≤ 1000000 from by
            rw [hs2, ← HRS.out.1, ← HRS.out.2]
            exact ⟨rfl, by show s1.writes.length ≤ _; rw [HRS.out.2]; exact HWL.out⟩)
           clear hs2
           go_wp2_with fail
           have hmo : Tryz.prog.follows .mixedOrders = true := by kernel_rfl
           clear hput
           generalize setObjAt w4 m (.map es cl) = w5 at *
           have s0 : w5.cell? ⟨w.heap.size, 0, none⟩ = some (.string ⟨N.toArray⟩) := HP5.out.name
           have s1' : w5.cell? ⟨w.heap.size, 1, none⟩ = some (.string ⟨D.toArray⟩) := HP5.out.data
           have c1 : w5.cell? ⟨B, 1, none⟩ = some ws := HP5.out.st.c1
           have hwl := HS2.out.2
           obtain ⟨g', cap', w7, hrun, hown, hb7, hgr, hwh⟩ := own_app_new (c := 1) (m := 1) (C := #[.string ⟨N.toArray⟩, .string ⟨D.toArray⟩, .bool false]) Tryz.underlying127 infoW rfl (by omega) (by omega) (show w5.drew.ownsRow 0 155 3 ws s2.writes.length (wcells s2.writes) from HP5.out.st.row) rfl (by simp [Value.oneCell']) (by omega) (by omega) (Nat.zero_le _)
           obtain ⟨hfin, c1', hz1⟩ := (HP5.out.st.keep (Fr.of_below (Stab.Ext.drew w5)) (O := []) (by simp)).appended (x := (⟨N.toArray⟩, ⟨D.toArray⟩, false)) hown hgr hwh rfl rfl
           have HFIN := Lib.hid hfin
           have HF6 := Lib.hid (HF5.out.next (Fr.of_below (Stab.Ext.drew w5)))
           have hnn : w.heap.size < w5.heap.size := lt_cell s0
           have hBn : B < w5.heap.size := lt_cell c1
           obtain ⟨A', cap0, hve⟩ : ∃ A' cap0, ws = .slice A' s2.writes.length cap0 := row_shape HP5.out.st.row
           clear hown hb7 hgr hwh hfin hwl
           subst hve
           replace hrun : (appSem #[127, 127] 127 #[.slice A' s2.writes.length cap0, .slice (some ⟨w5.heap.size, 0, none⟩) 1 1]).run Tryz.prog ((w5.alloc (.cells #[.string ⟨N.toArray⟩, .string ⟨D.toArray⟩, .bool false] 155)).drew) = .ok (.slice (some ⟨g', 0, none⟩) (s2.writes.length + 1) cap') w7 := hrun
           go_region
           go_wp2_with fail
           go_ret
           rw [HDF.out, HSF.out, HS2.out.1]
           obtain ⟨O', q1, q2, q3⟩ := HFIN.out
           exact ⟨rfl, O', q1, HF6.out.next q2, fun k hk => (q3 k hk).imp id fun h => Nat.le_trans HF6.out.size h⟩
   ·have HFB := Lib.hid (show fullB s ⟨N.toArray⟩ ⟨D.toArray⟩ = false from by rw [fullB, decide_eq_false hr]; rfl)
    have hrb : decide (0 ≤ s.room) = false := decide_eq_false hr
    go_enter Tryz.func80, Tryz.ntmps80
    go_wp2_with fail
    refine Stab.rg 34 [[], [0], [1], [2], [3], [4], [5], [6, 5], [7, 5], [8, 5], [5, 9], [10], [11], [12, 11], [11], [14, 11], [15, 11], [16, 11], [11], [18, 11], [17, 19, 11], [20, 11], [13, 21, 11], [11], [23, 11], [24, 11], [22, 25, 11], [11], [27, 11], [28, 11], [29, 11], [26, 30, 11], [11, 31], [32]] [33] (PRd w.heap.size B g m ws s ⟨N.toArray⟩ ⟨D.toArray⟩) [Stab.eqv ?_, Stab.eqv ?_, Stab.eqv ?_, Stab.eqv ?_, Stab.eqv ?_, Stab.eqv ?_, Stab.eqv ?_, Stab.eqv ?_, Stab.eqv ?_, Stab.eqv ?_, Stab.eqv ?_, Stab.eqv ?_, Stab.eqv ?_, Stab.eqv ?_, Stab.eqv ?_, Stab.eqv ?_, Stab.eqv ?_, Stab.eqv ?_, Stab.eqv ?_, Stab.eqv ?_, Stab.eqv ?_, Stab.eqv ?_, Stab.eqv ?_, Stab.eqv ?_, Stab.eqv ?_, Stab.eqv ?_, Stab.eqv ?_, Stab.eqv ?_, Stab.eqv ?_, Stab.eqv ?_, Stab.eqv ?_, Stab.eqv ?_, Stab.eqv ?_, Stab.eqv ?_] (HP.out.ext (Stab.Ext.drew _)) (fun _ _ h hE => h.ext hE) ?goals7a ?last7a
    case goals7a =>
     simp only [List.take_succ_cons, List.take_zero]
     iterate 6
      refine Stab.gp (fun us w _ hE hS hp hK => ?_) ?_
      ·((try have e0 : _ = _ := hp.1); (try have e1 : _ = _ := hp.2.1); (try have e2 : _ = _ := hp.2.2.1); have s5 := hS.st.c5; go_simp; exact hK _ _ (by show _ = _; with_reducible rfl) (Stab.Ext.refl _))
     iterate 4
      refine Stab.gs (fun us w _ hE hS hp hK => ?_) ?_
      ·((try have e0 : _ = _ := hp.1); (try have e1 : _ = _ := hp.2.1); (try have e2 : _ = _ := hp.2.2.1); exact ⟨(by first | exact e0 | exact e1 | exact e2), hK _ _ (by show _ = _; with_reducible rfl) (Stab.Ext.refl _)⟩)
     iterate 2
      refine Stab.gp (fun us w _ hE hS hp hK => ?_) ?_
      ·((try have e0 : _ = _ := hp.1); (try have e1 : _ = _ := hp.2.1); (try have e2 : _ = _ := hp.2.2.1); have s5 := hS.st.c5; go_simp; exact hK _ _ (by show _ = _; with_reducible rfl) (Stab.Ext.refl _))
     iterate 20
      refine Stab.gs (fun us w _ hE hS hp hK => ?_) ?_
      ·((try have e0 : _ = _ := hp.1); (try have e1 : _ = _ := hp.2.1); (try have e2 : _ = _ := hp.2.2.1); exact ⟨(by first | exact e0 | exact e1 | exact e2), hK _ _ (by show _ = _; with_reducible rfl) (Stab.Ext.refl _)⟩)
     iterate 2
      refine Stab.gp (fun us w _ hE hS hp hK => ?_) ?_
      ·((try have e0 : _ = _ := hp.1); (try have e1 : _ = _ := hp.2.1); (try have e2 : _ = _ := hp.2.2.1); have s5 := hS.st.c5; go_simp; exact hK _ _ (by show _ = _; with_reducible rfl) (Stab.Ext.refl _))
     exact Stab.Goals.nil
    case last7a =>
     intro us w2 hE hS hp
     obtain ⟨h33, -⟩ := hp
     replace h33 : us 33 = _ := h33
     simp only [List.drop_succ_cons, List.drop_zero, h33]
     have hE2 := (Stab.Ext.drew (w.alloc (.cells #[.string ⟨N.toArray⟩, .string ⟨D.toArray⟩] 45))).trans hE
     have HF2 := Lib.hid ((HF1.out.nil (O := sOwn B g m ws)).next (Fr.of_below hE2))
     have HP2 := Lib.hid hS
     rw [HFB.out] at HDF HSF
     simp only [Bool.false_eq_true, if_false] at HDF HSF
     clear hE hE2 hS h33
     refine wpList_nil ?_
     go_wp2_with (go_at_call 110; refine (refused_any HP2.out.st).mono ?_)
     rintro e w3 ⟨rfl, h3, hF3⟩
     have HF3 := Lib.hid (HF2.out.next (hF3.sub fun k hk => by simp only [List.mem_singleton] at hk; rw [hk]; exact h3.mem))
     have hnB : w.heap.size ≠ B := by omega
     have hobj0 : w3.cell? ⟨w.heap.size, 0, none⟩ = some (.string ⟨N.toArray⟩) := by
      have := HP2.out.name
      rw [World.cell?, hF3.block w.heap.size (lt_cell this) (by simpa using hnB)]
      exact this
     have hobj1 : w3.cell? ⟨w.heap.size, 1, none⟩ = some (.string ⟨D.toArray⟩) := by
      have := HP2.out.data
      rw [World.cell?, hF3.block w.heap.size (lt_cell this) (by simpa using hnB)]
      exact this
     have HP3 := Lib.hid (show PRd w.heap.size B g m ws (refS s) ⟨N.toArray⟩ ⟨D.toArray⟩ w3 from ⟨hobj0, hobj1, h3⟩)
     have HRS := Lib.hid (show (refS s).seen = s.seen ∧ (refS s).writes = s.writes from ⟨refS_seen s, refS_writes s⟩)
     clear h3 hF3 hobj0 hobj1
     cases hrf : refB s with
     | true =>
       rw [hrf] at HDF HSF
       simp only [if_true] at HDF HSF
       clear hrf
       go_wp2_with fail
       go_ret
       rw [HDF.out, HSF.out]
       exact HP3.out.st.post' HF3.out
     | false =>
       rw [hrf] at HDF HSF
       simp only [Bool.false_eq_true, if_false] at HDF HSF
       clear hrf
       generalize refS s = s1 at *
       go_wp2_with fail
       refine Stab.rg 8 [[], [0], [1], [2], [], [4], [], [6]] [3, 5, 7] (PRd w.heap.size B g m ws s1 ⟨N.toArray⟩ ⟨D.toArray⟩) [Stab.eqv ?_, Stab.eqv ?_, Stab.eqv ?_, Stab.eqv ?_, Stab.eqv ?_, Stab.eqv ?_, Stab.eqv ?_, Stab.eqv ?_] (HP3.out.ext (Stab.Ext.drew _)) (fun _ _ h hE => h.ext hE) ?goals11a ?last11a
       case goals11a =>
        simp only [List.take_succ_cons, List.take_zero]
        iterate 8
         refine Stab.gp (fun us w _ hE hS hp hK => ?_) ?_
         ·((try have e0 : _ = _ := hp.1); (try have e1 : _ = _ := hp.2.1); (try have e2 : _ = _ := hp.2.2.1); obtain ⟨s0, s1', s2⟩ := hS; have c2 := s2.c2; go_simp; exact hK _ _ (by show _ = _; with_reducible rfl) (Stab.Ext.refl _))
        exact Stab.Goals.nil
       case last11a =>
        intro us w4 hE hS hp
        obtain ⟨h3, h5, h7, -⟩ := hp
        replace h3 : us 3 = _ := h3
        replace h5 : us 5 = _ := h5
        replace h7 : us 7 = _ := h7
        simp only [List.drop_succ_cons, List.drop_zero, h3, h5, h7]
        have hE4 := (Stab.Ext.drew w3).trans hE
        obtain ⟨es, cl, hput, hfine⟩ := run_put Tryz.underlying126 Tryz.underlying9 hS.st.seen ⟨N.toArray⟩ ⟨D.toArray⟩
        obtain ⟨h7', hF7⟩ := hS.st.reseen hfine
        have hnm : w.heap.size ≠ m := by have := HMLT.out; omega
        have HF5 := Lib.hid ((HF3.out.next (Fr.of_below hE4)).next (hF7.sub fun k hk => by simp only [List.mem_singleton] at hk; rw [hk]; exact hS.st.inO))
        have hobj0 : (setObjAt w4 m (.map es cl)).cell? ⟨w.heap.size, 0, none⟩ = some (.string ⟨N.toArray⟩) := by
         rw [World.cell?, hF7.block w.heap.size (lt_cell hS.name) (by simpa using hnm)]; exact hS.name
        have hobj1 : (setObjAt w4 m (.map es cl)).cell? ⟨w.heap.size, 1, none⟩ = some (.string ⟨D.toArray⟩) := by
         rw [World.cell?, hF7.block w.heap.size (lt_cell hS.data) (by simpa using hnm)]; exact hS.data
        have HP5 := Lib.hid (show PRd w.heap.size B g m ws { s1 with seen := TMap.put s1.seen ⟨N.toArray⟩ ⟨D.toArray⟩ } ⟨N.toArray⟩ ⟨D.toArray⟩ (setObjAt w4 m (.map es cl)) from ⟨hobj0, hobj1, h7'⟩)
        clear hE hE4 hS h3 h5 h7 h7' hF7 hobj0 hobj1 hfine
        obtain ⟨s2, hs2⟩ : ∃ s2 : PSt, s2 = { s1 with seen := TMap.put s1.seen ⟨N.toArray⟩ ⟨D.toArray⟩ } := ⟨_, rfl⟩
        rw [← hs2] at HP5
        have HS2 := Lib.hid (show ({ s1 with seen := TMap.put s.seen ⟨N.toArray⟩ ⟨D.toArray⟩, writes := s.writes ++ [(⟨N.toArray⟩, ⟨D.toArray⟩, false)] } : PSt) = { s2 with writes := s2.writes ++ [((⟨N.toArray⟩ : ByteArray), (⟨D.toArray⟩ : ByteArray), false)] } ∧ s2.writes.length ≤ 1000000 from by
         rw [hs2, ← HRS.out.1, ← HRS.out.2]
         exact ⟨rfl, by show s1.writes.length ≤ _; rw [HRS.out.2]; exact HWL.out⟩)
        clear hs2
        go_wp2_with fail
        have hmo : Tryz.prog.follows .mixedOrders = true := by kernel_rfl
        clear hput
        generalize setObjAt w4 m (.map es cl) = w5 at *
        have s0 : w5.cell? ⟨w.heap.size, 0, none⟩ = some (.string ⟨N.toArray⟩) := HP5.out.name
        have s1' : w5.cell? ⟨w.heap.size, 1, none⟩ = some (.string ⟨D.toArray⟩) := HP5.out.data
        have c1 : w5.cell? ⟨B, 1, none⟩ = some ws := HP5.out.st.c1
        have hwl := HS2.out.2
        obtain ⟨g', cap', w7, hrun, hown, hb7, hgr, hwh⟩ := own_app_new (c := 1) (m := 1) (C := #[.string ⟨N.toArray⟩, .string ⟨D.toArray⟩, .bool false]) Tryz.underlying127 infoW rfl (by omega) (by omega) (show w5.drew.ownsRow 0 155 3 ws s2.writes.length (wcells s2.writes) from HP5.out.st.row) rfl (by simp [Value.oneCell']) (by omega) (by omega) (Nat.zero_le _)
        obtain ⟨hfin, c1', hz1⟩ := (HP5.out.st.keep (Fr.of_below (Stab.Ext.drew w5)) (O := []) (by simp)).appended (x := (⟨N.toArray⟩, ⟨D.toArray⟩, false)) hown hgr hwh rfl rfl
        have HFIN := Lib.hid hfin
        have HF6 := Lib.hid (HF5.out.next (Fr.of_below (Stab.Ext.drew w5)))
        have hnn : w.heap.size < w5.heap.size := lt_cell s0
        have hBn : B < w5.heap.size := lt_cell c1
        obtain ⟨A', cap0, hve⟩ : ∃ A' cap0, ws = .slice A' s2.writes.length cap0 := row_shape HP5.out.st.row
        clear hown hb7 hgr hwh hfin hwl
        subst hve
        replace hrun : (appSem #[127, 127] 127 #[.slice A' s2.writes.length cap0, .slice (some ⟨w5.heap.size, 0, none⟩) 1 1]).run Tryz.prog ((w5.alloc (.cells #[.string ⟨N.toArray⟩, .string ⟨D.toArray⟩, .bool false] 155)).drew) = .ok (.slice (some ⟨g', 0, none⟩) (s2.writes.length + 1) cap') w7 := hrun
        go_region
        go_wp2_with fail
        go_ret
        rw [HDF.out, HSF.out, HS2.out.1]
        obtain ⟨O', q1, q2, q3⟩ := HFIN.out
        exact ⟨rfl, O', q1, HF6.out.next q2, fun k hk => (q3 k hk).imp id fun h => Nat.le_trans HF6.out.size h⟩
end Vm
end Go.Proofs.YtnbkhdbligjifaaGreatDoor
