/-
 Plain words for SHA-256: the eight numbers and what a block makes of them. No program is named.
-/
import Derived.Test.YtnbkhdbligjifaaGreatDoorShaSched
set_option linter.unusedVariables false
set_option linter.unusedSimpArgs false
namespace Go.Proofs.YtnbkhdbligjifaaGreatDoor
open Go.RowKit
namespace Sha
structure St where
 (a b c d e f g h : Int)
def St.ok (s : St) : Prop := (0 ≤ s.a ∧ s.a < 4294967296) ∧ (0 ≤ s.b ∧ s.b < 4294967296) ∧ (0 ≤ s.c ∧ s.c < 4294967296) ∧ (0 ≤ s.d ∧ s.d < 4294967296) ∧ (0 ≤ s.e ∧ s.e < 4294967296) ∧ (0 ≤ s.f ∧ s.f < 4294967296) ∧ (0 ≤ s.g ∧ s.g < 4294967296) ∧ (0 ≤ s.h ∧ s.h < 4294967296)
def St.list (s : St) : List Int := [s.a, s.b, s.c, s.d, s.e, s.f, s.g, s.h]
def big1 (e : Int) : Int := bits .xor .u32 (bits .xor .u32 (rotr e 6) (rotr e 11)) (rotr e 25)
def big0 (a : Int) : Int := bits .xor .u32 (bits .xor .u32 (rotr a 2) (rotr a 13)) (rotr a 22)
def notw (e : Int) : Int := bits .xor .u32 (if IntKind.u32.signed = true then -1 else IntKind.u32.max) e
def chw (e f g : Int) : Int := bits .xor .u32 (bits .and .u32 e f) (bits .and .u32 (notw e) g)
def majw (a b c : Int) : Int := bits .xor .u32 (bits .xor .u32 (bits .and .u32 a b) (bits .and .u32 a c)) (bits .and .u32 b c)
def xw (r w : Int) (s : St) : Int := (s.h + big1 s.e + chw s.e s.f s.g + r + w) % 4294967296
def yw (s : St) : Int := (big0 s.a + majw s.a s.b s.c) % 4294967296
def rnd (r w : Int) (s : St) : St := ⟨(xw r w s + yw s) % 4294967296, s.a, s.b, s.c, (s.d + xw r w s) % 4294967296, s.e, s.f, s.g⟩
theorem rnd_ok (r w : Int) (s : St) (h : s.ok) : (rnd r w s).ok := by
 obtain ⟨h1, h2, h3, h4, h5, h6, h7, h8⟩ := h
 refine ⟨?_, h1, h2, h3, ?_, h5, h6, h7⟩
 ·show 0 ≤ _ % 4294967296 ∧ _ % 4294967296 < 4294967296; omega
 ·show 0 ≤ _ % 4294967296 ∧ _ % 4294967296 < 4294967296; omega
def rounds (r w : List Int) : Nat → St → St
 | 0, s => s
 | k + 1, s => rnd (r.getD k 0) (w.getD k 0) (rounds r w k s)
theorem rounds_ok (r w : List Int) (k : Nat) (s : St) (h : s.ok) : (rounds r w k s).ok := by
 induction k with
 | zero => exact h
 | succ k ih => exact rnd_ok _ _ _ ih
def addSt (s t : St) : St := ⟨(s.a + t.a) % 4294967296, (s.b + t.b) % 4294967296, (s.c + t.c) % 4294967296, (s.d + t.d) % 4294967296, (s.e + t.e) % 4294967296, (s.f + t.f) % 4294967296, (s.g + t.g) % 4294967296, (s.h + t.h) % 4294967296⟩
theorem addSt_ok (s t : St) : (addSt s t).ok := by
 refine ⟨?_, ?_, ?_, ?_, ?_, ?_, ?_, ?_⟩ <;> (show 0 ≤ _ % 4294967296 ∧ _ % 4294967296 < 4294967296; omega)
def comp (r : List Int) (b : List UInt8) (s : St) : St := addSt s (rounds r (sched b) 64 s)
def St.cells (s : St) : Array Value := #[.int .u32 s.a, .int .u32 s.b, .int .u32 s.c, .int .u32 s.d, .int .u32 s.e, .int .u32 s.f, .int .u32 s.g, .int .u32 s.h]
def hcells (s : St) (rest : Value) (total : Int) (roots : Value) : Array Value := #[.int .u32 s.a, .int .u32 s.b, .int .u32 s.c, .int .u32 s.d, .int .u32 s.e, .int .u32 s.f, .int .u32 s.g, .int .u32 s.h, rest, .int .i64 total, roots]
def part (s t : St) (k : Nat) : St := ⟨if 0 < k then (s.a + t.a) % 4294967296 else s.a, if 1 < k then (s.b + t.b) % 4294967296 else s.b, if 2 < k then (s.c + t.c) % 4294967296 else s.c, if 3 < k then (s.d + t.d) % 4294967296 else s.d,
 if 4 < k then (s.e + t.e) % 4294967296 else s.e, if 5 < k then (s.f + t.f) % 4294967296 else s.f, if 6 < k then (s.g + t.g) % 4294967296 else s.g, if 7 < k then (s.h + t.h) % 4294967296 else s.h⟩
theorem part_full (s t : St) : part s t 8 = addSt s t := rfl
theorem part_get (s t : St) (rest : Value) (total : Int) (roots : Value) (k : Nat) (h : k < 8) : (hcells (part s t k) rest total roots)[k]? = some (.int .u32 (s.list.getD k 0)) := by
 match k, h with
 | 0, _ => rfl
 | 1, _ => rfl
 | 2, _ => rfl
 | 3, _ => rfl
 | 4, _ => rfl
 | 5, _ => rfl
 | 6, _ => rfl
 | 7, _ => rfl
theorem cells_get (t : St) (k : Nat) (h : k < 8) : t.cells[k]? = some (.int .u32 (t.list.getD k 0)) := by
 match k, h with
 | 0, _ => rfl
 | 1, _ => rfl
 | 2, _ => rfl
 | 3, _ => rfl
 | 4, _ => rfl
 | 5, _ => rfl
 | 6, _ => rfl
 | 7, _ => rfl
theorem part_set (s t : St) (rest : Value) (total : Int) (roots : Value) (k : Nat) (h : k < 8) : (hcells (part s t k) rest total roots).setIfInBounds k (.int .u32 ((s.list.getD k 0 + t.list.getD k 0) % 4294967296)) = hcells (part s t (k + 1)) rest total roots := by
 match k, h with
 | 0, _ => rfl
 | 1, _ => rfl
 | 2, _ => rfl
 | 3, _ => rfl
 | 4, _ => rfl
 | 5, _ => rfl
 | 6, _ => rfl
 | 7, _ => rfl
theorem cells_set (t : St) (a b c d e f g h : Int) :
 ((((((((t.cells.setIfInBounds 0 (.int .u32 a)).setIfInBounds 1 (.int .u32 b)).setIfInBounds 2 (.int .u32 c)).setIfInBounds 3 (.int .u32 d)).setIfInBounds 4 (.int .u32 e)).setIfInBounds 5 (.int .u32 f)).setIfInBounds 6 (.int .u32 g)).setIfInBounds 7 (.int .u32 h)) = (St.mk a b c d e f g h).cells := by
 apply Array.toList_inj.1
 simp [St.cells]
def Keep (hb : Nat) (w w' : World) : Prop := ∀ k, k < w.heap.size → k ≠ hb → w'.heap[k]? = w.heap[k]?
theorem Keep.refl (hb : Nat) (w : World) : Keep hb w w := fun _ _ _ => rfl
theorem Keep.trans {hb : Nat} {a b c : World} (h : Keep hb a b) (hs : a.heap.size ≤ b.heap.size) (k : Keep hb b c) : Keep hb a c := fun i hi hne => (k i (by omega) hne).trans (h i hi hne)
theorem Keep.below {hb : Nat} {a b c : World} (h : Keep hb a b) (k : Below a.heap.size b c) : Keep hb a c := fun i hi hne => (k.block i hi).trans (h i hi hne)
theorem Keep.set_ {hb : Nat} {a b : World} (h : Keep hb a b) (i : Nat) (v : Value) : Keep hb a (b.setCell ⟨hb, i, none⟩ v) := fun k hk hne => (Below.heap_setCell b _ v k hne).trans (h k hk hne)
end Sha
end Go.Proofs.YtnbkhdbligjifaaGreatDoor
