/-
 The walk of package sha: Copy.
-/
import Derived.Test.YtfkchheildfkpaaGreatDoorShaRest
import Derived.Test.YtfkchheildfkpaaGreatDoorBuilder
import Derived.Laws.CopyOwn
namespace Go.Proofs.YtfkchheildfkpaaGreatDoor
open Go.RowKit
namespace Sha
def copSem (ts : Array TypeId) (ty : TypeId) (args : Array Value) : Sem Value := Builtin.copy_ ts ty args
theorem copSem_eq (ts : Array TypeId) (ty : TypeId) (args : Array Value) : Builtin.copy_ ts ty args = copSem ts ty args := rfl
theorem byteCells_nums (l : List UInt8) : (Lib.byteCells l).toArray = nums l := rfl
theorem run_cop {P : Program} {t e ty : TypeId} (ht : P.underlying t = some (.slice e)) (he : (P.info? e).map (fun i => (i.zero, i.size, i.bytes)) = some (some (.int .u8 0), 1, 1)) {W : World} {H g c : Nat} {t0 : TypeId} {A : Option Addr} {l : List UInt8}
   (hg : Blk W g t0 (nums (List.replicate l.length 0))) (hR : RestIs W H (.slice A l.length c) l) :
   ∃ W', (copSem #[t, t] ty #[.slice (some ⟨g, 0, none⟩) l.length l.length, .slice A l.length c]).run P W = .ok (goInt l.length) W' ∧ Blk W' g t0 (nums l) ∧ Keep g W W' ∧ Below g W W' := by
 obtain ⟨i, hi, hz0, hz1, hz2⟩ := info_parts he
 have hsz : (P.info? e).map (·.size) = some 1 := by rw [hi]; simp [hz1]
 unfold copSem
 by_cases h0 : l = []
 · subst h0
   exact ⟨W, run_copy_none W t t ty e _ _ _ _ _ _ ht hsz rfl, hg, Keep.refl _ _, Below.refl _ _⟩
 · obtain ⟨A', c', h1, h2, h3⟩ := hR
   injection h1 with h1 h1' h1''
   subst h1; subst h1''
   rcases h3 with ⟨rfl, h3⟩ | ⟨gs, o, rfl, hgH, hlt, hx⟩
   · have : l = [] := List.length_eq_zero_iff.1 (by omega)
     exact absurd this h0
   · have hrun := run_copy_row (P := P) W t t ty e g 0 l.length l.length ⟨gs, o, none⟩ l.length c (nums (List.replicate l.length 0)) t0 (Lib.byteCells l) ht hsz hg
       (by rw [Lib.byteCells_length]; exact (Nat.min_self _).symm)
       (fun j u hu => by
         obtain ⟨hj, rfl⟩ := cells_b8 l j u hu
         have hp : (⟨gs, o, none⟩ : Addr).add j = ⟨gs, o + j, none⟩ := by unfold Addr.add; split <;> simp_all
         rw [hp]; exact hx j hj)
       (by rw [Lib.byteCells_length, nums_size]; simp) (one_b8 l)
     rw [Lib.byteCells_length] at hrun
     refine ⟨_, hrun, ?_, fun k hk hne => setRow_other W g k _ hne, below_setRow (Below.refl _ _) (Nat.le_refl _) _⟩
     have hb := setRow_heap W g _ ((nums (List.replicate l.length 0)).toList.take 0 ++ Lib.byteCells l ++ (nums (List.replicate l.length 0)).toList.drop (0 + l.length)).toArray t0 _ hg
     unfold Blk
     rw [hb]
     congr 2
     have : (nums (List.replicate l.length 0)).toList.drop (0 + l.length) = [] := by
       apply List.drop_eq_nil_of_le
       rw [Array.length_toList, nums_size]; simp
     rw [this]
     simp [← byteCells_nums]
attribute [local go_sem ↓] copSem_eq
set_option maxRecDepth 100000 in
set_option maxHeartbeats 2000000 in
theorem copy_any (s : St) (l : List UInt8) (v : Value) (total : Int) (rb rcap : Nat) (H : Nat) (w : World)
   (hH : Blk w H 362 (hcells s v total (.slice (some ⟨rb, 0, none⟩) 64 rcap))) (hv : RestIs w H v l) (hlen : l.length < 64) :
   Calls Tryz.prog 258 #[.pointer (some ⟨H, 0, none⟩)] w fun e w' =>
     ∃ H' v', e = .returned (.pointer (some ⟨H', 0, none⟩)) ∧ w.heap.size ≤ H' ∧ Blk w' H' 362 (hcells s v' total (.slice (some ⟨rb, 0, none⟩) 64 rcap)) ∧ RestIs w' H' v' l ∧ Below w.heap.size w w' := by
 obtain ⟨A, c, rfl, hc, hA⟩ := id hv
 have k0 : w.cell? ⟨H, 0, none⟩ = some (.int .u32 s.a) := hH.cell 0
 have k1 : w.cell? ⟨H, 1, none⟩ = some (.int .u32 s.b) := hH.cell 1
 have k2 : w.cell? ⟨H, 2, none⟩ = some (.int .u32 s.c) := hH.cell 2
 have k3 : w.cell? ⟨H, 3, none⟩ = some (.int .u32 s.d) := hH.cell 3
 have k4 : w.cell? ⟨H, 4, none⟩ = some (.int .u32 s.e) := hH.cell 4
 have k5 : w.cell? ⟨H, 5, none⟩ = some (.int .u32 s.f) := hH.cell 5
 have k6 : w.cell? ⟨H, 6, none⟩ = some (.int .u32 s.g) := hH.cell 6
 have k7 : w.cell? ⟨H, 7, none⟩ = some (.int .u32 s.h) := hH.cell 7
 have k8 : w.cell? ⟨H, 8, none⟩ = some (.slice A l.length c) := hH.cell 8
 have k9 : w.cell? ⟨H, 9, none⟩ = some (.int .i64 total) := hH.cell 9
 have k10 : w.cell? ⟨H, 10, none⟩ = some (.slice (some ⟨rb, 0, none⟩) 64 rcap) := hH.cell 10
 have hHlt := hH.lt
 go_enter Tryz.func258, Tryz.ntmps258
 have hmk := run_mk (P := Tryz.prog) (t := 71) (e := 5) (z := .int .u8 0) (bytes := 1) Tryz.underlying71 info5 rfl l.length (by omega) (by omega) (w.alloc (.cells (hcells s (.slice A l.length c) total (.slice (some ⟨rb, 0, none⟩) 64 rcap)) 362))
 rw [nums_zero] at hmk
 have hmk' := hmk
 unfold hcells at hmk'
 go_wp2_with fail
 have hC2 : Blk ((w.alloc (.cells (hcells s (.slice (some ⟨w.heap.size + 1, 0, none⟩) l.length l.length) total (.slice (some ⟨rb, 0, none⟩) 64 rcap)) 362)).alloc (.cells (nums (List.replicate l.length 0)) 5)) w.heap.size 362 (hcells s (.slice (some ⟨w.heap.size + 1, 0, none⟩) l.length l.length) total (.slice (some ⟨rb, 0, none⟩) 64 rcap)) := (Blk.new _ _ _).alloc _
 have hR2 : Blk ((w.alloc (.cells (hcells s (.slice (some ⟨w.heap.size + 1, 0, none⟩) l.length l.length) total (.slice (some ⟨rb, 0, none⟩) 64 rcap)) 362)).alloc (.cells (nums (List.replicate l.length 0)) 5)) (w.heap.size + 1) 5 (nums (List.replicate l.length 0)) := by
   have h := Blk.new (w.alloc (.cells (hcells s (.slice (some ⟨w.heap.size + 1, 0, none⟩) l.length l.length) total (.slice (some ⟨rb, 0, none⟩) 64 rcap)) 362)) 5 (nums (List.replicate l.length 0))
   simpa using h
 have hb2 : Below w.heap.size w ((w.alloc (.cells (hcells s (.slice (some ⟨w.heap.size + 1, 0, none⟩) l.length l.length) total (.slice (some ⟨rb, 0, none⟩) 64 rcap)) 362)).alloc (.cells (nums (List.replicate l.length 0)) 5)) := ((Below.refl _ _).alloc (Nat.le_refl _) _).alloc (by simp) _
 unfold hcells at hC2 hR2 hb2
 clear hmk hmk' k0 k1 k2 k3 k4 k5 k6 k7 k9 k10
 generalize (w.alloc _).alloc _ = w2 at *
 have hC3 : Blk w2 w.heap.size 362 (hcells s (.slice (some ⟨w.heap.size + 1, 0, none⟩) l.length l.length) total (.slice (some ⟨rb, 0, none⟩) 64 rcap)) := hC2
 clear hC2
 have hv2 : RestIs w2 H (.slice A l.length c) l := hv.keep (fun k hk _ => hb2.block k hk) hb2.size
 obtain ⟨w3, hrun, hR3, hk3, hb3⟩ := run_cop (P := Tryz.prog) (t := 71) (e := 5) (ty := 3) Tryz.underlying71 info5 (W := w2.drew) hR2.drew (hv2.drewN 1)
 have c8 : w2.cell? ⟨w.heap.size, 8, none⟩ = some (.slice (some ⟨w.heap.size + 1, 0, none⟩) l.length l.length) := hC3.cell 8
 have h8 : w2.cell? ⟨H, 8, none⟩ = some (.slice A l.length c) := (World.cell?_of_block (a := ⟨H, 8, none⟩) (hb2.block H hHlt)).trans k8
 go_region
 go_wp2_with fail
 go_ret
 have hR4 : RestIs w3 w.heap.size (.slice (some ⟨w.heap.size + 1, 0, none⟩) l.length l.length) l := by
   refine ⟨_, _, rfl, Nat.le_refl _, .inr ⟨w.heap.size + 1, 0, rfl, by omega, hR3.lt, fun j hj => ?_⟩⟩
   rw [Nat.zero_add, hR3.cell j, nums_get l j hj, b8, at8, List.getD, List.getElem?_eq_getElem hj]; rfl
 exact ⟨_, _, rfl, Nat.le_refl _, (hk3 w.heap.size (by exact hC3.lt) (by omega)).trans hC3, hR4, hb2.trans ((Below.refl _ _).drew.trans (hb3.mono (by omega)))⟩
end Sha
end Go.Proofs.YtfkchheildfkpaaGreatDoor
