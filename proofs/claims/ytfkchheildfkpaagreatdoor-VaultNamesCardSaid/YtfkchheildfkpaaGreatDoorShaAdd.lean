/-
 The walks of package sha: Add, Copy.
-/
import Derived.Lib.AtoiErrMem
import Derived.Test.YtfkchheildfkpaaGreatDoorShaTake
namespace Go.Proofs.YtfkchheildfkpaaGreatDoor
open Go.RowKit
namespace Sha
theorem below_keep {H : Nat} {a b c : World} (h : Keep H a b) (hs : a.heap.size ≤ b.heap.size) (k : Below b.heap.size b c) : Keep H a c := fun i hi hne => (k.block i (by omega)).trans (h i hi hne)
theorem hcells_total (s : St) (v : Value) (t t' : Int) (r : Value) : (hcells s v t r).setIfInBounds 9 (.int .i64 t') = hcells s v t' r := by
 apply Array.toList_inj.1
 simp [hcells]
theorem rest_conv (w : World) (H : Nat) (e : TypeId) (b : ByteArray) (hH : H < w.heap.size) : RestIs (Lib.bytesWorld w e b) H (.slice (some ⟨w.heap.size, 0, none⟩) b.size (grownCap w b.size 0 e)) b.data.toList := by
 have hl : b.data.toList.length = b.size := by simp
 refine ⟨_, _, by rw [hl], by rw [hl]; exact grownCap_ge w _ _ _, .inr ⟨w.heap.size, 0, rfl, by omega, ?_, fun j hj => ?_⟩⟩
 · exact (Array.getElem?_eq_some_iff.1 (Lib.bytesWorld_at_new w e b)).1
 · rw [Nat.zero_add, cell_of_row _ _ j _ _ _ (Lib.bytesWorld_at_new w e b)]
   have hj' : j < b.size := by rw [← hl]; exact hj
   have hx : (Lib.bytesCells w e b)[j]? = some (.int .u8 (b.data.toList[j].toNat : Int)) := by
     unfold Lib.bytesCells
     rw [Array.getElem?_append_left (by simpa using hj')]
     simp [hj']
   rw [hx, b8, at8, List.getD, List.getElem?_eq_getElem hj]; rfl
set_option maxRecDepth 100000 in
set_option maxHeartbeats 2000000 in
theorem add_any (s : St) (hs : s.ok) (l : List UInt8) (b : ByteArray) (v : Value) (total : Int) (rb rcap : Nat) (roots : List Int) (hsm : Small roots) (H : Nat) (w : World)
   (hH : Blk w H 362 (hcells s v total (.slice (some ⟨rb, 0, none⟩) 64 rcap)))
   (hrb : rb < w.heap.size) (hrH : rb ≠ H) (hroots : ∀ j, j < 64 → w.cell? ⟨rb, j, none⟩ = some (.int .u32 (roots.getD j 0)))
   (hv : RestIs w H v l) (hlen : l.length + b.size ≤ 70368744177664) (ht0 : 0 ≤ total) (ht1 : total ≤ 70368744177664) :
   Calls Tryz.prog 183 #[.pointer (some ⟨H, 0, none⟩), .string b] w fun e w' =>
     e = .returned (.int .i64 0) ∧ (∃ v', Blk w' H 362 (hcells (eat roots (l ++ b.data.toList) s).1 v' (total + b.size) (.slice (some ⟨rb, 0, none⟩) 64 rcap)) ∧ RestIs w' H v' (eat roots (l ++ b.data.toList) s).2) ∧ Below H w w' ∧ Keep H w w' := by
 have hHlt := hH.lt
 have c9 : w.cell? ⟨H, 9, none⟩ = some (.int .i64 total) := hH.cell 9
 have f9 := hH.frozen 9
 have HR := Lib.hid hroots
 have HH := Lib.hid hH
 have HV := Lib.hid hv
 clear hroots hH hv
 go_enter Tryz.func183, Tryz.ntmps183
 go_wp2_with fail
 rw [Lib.run_convert_string_bytes _ 9 71 5 b Tryz.underlying9 Tryz.underlying71 Tryz.underlying5]
 simp only [Result.andThen]
 rw [Oper.upon_value]
 have hH1 := HH.out.set_ 9 (.int .i64 (total + b.size))
 rw [hcells_total] at hH1
 have hk1 : Keep H w (w.setCell ⟨H, 9, none⟩ (.int .i64 (total + b.size))) := (Keep.refl H w).set_ 9 _
 have hb1 : Below H w (w.setCell ⟨H, 9, none⟩ (.int .i64 (total + b.size))) := (Below.refl H w).setCell (p := ⟨H, 9, none⟩) (Nat.le_refl _) _
 have hs1 : (w.setCell ⟨H, 9, none⟩ (.int .i64 (total + b.size))).heap.size = w.heap.size := by simp
 generalize w.setCell ⟨H, 9, none⟩ (.int .i64 (total + b.size)) = w1 at *
 have hb2 := Lib.bytesWorld_below w1 5 b
 have hr2 := rest_conv w1 H 5 b (by omega)
 generalize Lib.bytesWorld w1 5 b = w2 at *
 generalize Value.slice (some ⟨w1.heap.size, 0, none⟩) b.size (grownCap w1 b.size 0 5) = vb at *
 have hk2 : Keep H w w2 := below_keep hk1 (by omega) hb2
 have hlb : b.data.toList.length = b.size := by simp
 have hT := take_any s hs l b.data.toList v _ (total + b.size) rb rcap roots hsm H w2 (hH1.below hb2 (by omega)) (by have := hb2.size; omega) hrH
   (fun j hj => (World.cell?_of_block (a := ⟨rb, j, none⟩) (hk2 rb hrb hrH)).trans (HR.out j hj)) (HV.out.keep hk2 (by have := hb2.size; omega)) hr2 (by rw [hlb]; exact hlen)
 have HT := Lib.hid hT
 clear hT hr2 hH1 c9 f9
 go_wp2_with (go_at_call 257; refine HT.out.mono ?_)
 rintro e w3 ⟨rfl, ⟨v', hH3, hR3⟩, hb3, hk3⟩
 have HH3 := Lib.hid hH3
 have HR3 := Lib.hid hR3
 clear hH3 hR3
 go_wp2_with fail
 go_ret
 exact ⟨rfl, ⟨v', HH3.out, HR3.out⟩, (hb1.trans (hb2.mono (by omega))).trans hb3, hk2.trans (by have := hb2.size; omega) hk3⟩
end Sha
end Go.Proofs.YtfkchheildfkpaaGreatDoor
