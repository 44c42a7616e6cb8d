/-
  Cut; a number and a row of bools as arguments, opened.
-/
import Derived.Test.YtnbkhdbligjifaaGreatDoorStrQ
import Derived.Test.YtnbkhdbligjifaaGreatDoorStrA
set_option linter.unusedVariables false
set_option linter.unusedSimpArgs false
namespace Go.Proofs.YtnbkhdbligjifaaGreatDoor
open Go Go.RowKit
namespace Vm
def PW.cutE (after : Int) : Int := if after < 0 then 1 else 0
set_option maxHeartbeats 1000000 in
theorem cut_any {w : World} {b : Nat} {p : PW} {O : List Nat} (h : WAt w b p O) (a : Int) :
    Calls Tryz.prog 32 #[.pointer (some ⟨b, 0, none⟩), .int .i64 a] w (WPost w b O (.int .i64 (PW.cutE a)) (p.cut a)) := by
  obtain ⟨v, Bf, Of, h, rfl⟩ := h
  have c2 := h.c2
  have z2 := h.blk.frozen 2
  have HF := Lib.hid (Fr.cell w ⟨b, 2, none⟩ (.int .i64 a))
  have H2 := Lib.hid (h.head (p' := { p with left := a }) (h.blk.set_ 2 _) HF.out rfl rfl rfl)
  have H := Lib.hid h
  clear h
  by_cases ha : a < 0
  · have HE := Lib.hid (show PW.cutE a = 1 ∧ p.cut a = p from ⟨by rw [PW.cutE, if_pos ha], by rw [PW.cut, if_pos ha]⟩)
    go_enter Tryz.func32, Tryz.ntmps32
    go_wp2_with fail
    go_ret
    rw [HE.out.1, HE.out.2]
    exact ⟨rfl, _, ⟨v, Bf, Of, H.out, rfl⟩, Fr.refl _ _, fun k hk => .inl hk⟩
  · have HE := Lib.hid (show PW.cutE a = 0 ∧ p.cut a = { p with left := a } from ⟨by rw [PW.cutE, if_neg ha], by rw [PW.cut, if_neg ha]⟩)
    go_enter Tryz.func32, Tryz.ntmps32
    go_wp2_with fail
    go_ret
    rw [HE.out.1, HE.out.2]
    exact ⟨rfl, _, ⟨v, Bf, Of, H2.out, rfl⟩, HF.out.sub fun k hk => by simp only [List.mem_singleton] at hk; exact mem_wOwn.2 (.inl hk), fun k hk => .inl hk⟩
end Vm
end Go.Proofs.YtnbkhdbligjifaaGreatDoor
namespace Go.Proofs.YtnbkhdbligjifaaGreatDoor
open Go.ChangeShapes Go.WideShapes Go.ChangeAt Go.RowKit Go.Joins Go.Deep
namespace Shd
set_option maxRecDepth 100000 in
theorem open_i64 {H : Type} {enc : TypeId × Value → H} {w : World} {base : Nat} {spare : Nat → Bool} {held : Bool} {b0 : Nat} {r : Reach} {v : Value} {d : DataW H} {p : List MemPlace}
    (hv : Value.okWide Tryz.prog w r b0 3 v) (h : DataW.Trod enc Tryz.prog w base spare held 3 v d p) : ∃ a : Int, v = .int .i64 a ∧ I64 a := by
  obtain ⟨x, rfl, _, _, wx⟩ := open_int Tryz.underlying3 hv h
  have := bounds_i64 wx
  exact ⟨x, rfl, by omega, by omega⟩

end Shd
namespace Hlt
open Vm
section
variable {H : Type} {enc : TypeId × Value → H} {w : World} {base : Nat} {held : Bool} {b0 : Nat} {r : Reach}
/-- cells of a row that a caller gave -/
def CellsAt (w : World) (v : Value) (xs : List Value) : Prop :=
  ∃ (A : Option Addr) (cap : Nat), v = .slice A xs.length cap ∧ xs.length ≤ cap ∧ (0 < xs.length → ∃ g o, A = some ⟨g, o, none⟩ ∧ g < w.heap.size ∧ ∀ i x, xs[i]? = some x → w.cell? ⟨g, o + i, none⟩ = some x)
set_option maxRecDepth 100000 in
theorem open_cells {t e : TypeId} {α : Type} {mk : α → Value} {v : Value} {d : DataW H} {p : List MemPlace} (ht : Tryz.prog.underlying t = some (.slice e)) (h1 : Tryz.prog.cellsOf e = 1)
    (he : ∀ n c y, DataW.trod enc Tryz.prog w base (fun _ => true) held n e [c] = some y → ∃ a, c = mk a)
    (hv : Value.okWide Tryz.prog w r b0 t v) (h : DataW.Trod enc Tryz.prog w base (fun _ => true) held t v d p) : ∃ l : List α, CellsAt w v (l.map mk) := by
  obtain ⟨a0, len0, cap0, rfl⟩ := okWide_slice ht hv
  obtain ⟨fuel, hf⟩ := h
  rcases Go.Deep.open_slice ht hf with ⟨hc, _⟩ | ⟨a, len, cap, m, n, D, Pl, hc, hb, hlc, hcm, hm, _, hi⟩
  · simp [Value.cells] at hc
    obtain ⟨rfl, rfl, rfl⟩ := hc
    exact ⟨[], none, 0, rfl, Nat.le_refl _, fun h => absurd h (Nat.lt_irrefl _)⟩
  · simp [Value.cells] at hc
    obtain ⟨rfl, rfl, rfl⟩ := hc
    simp only [if_true] at hm
    subst hm
    have key : ∀ i, i < len0 → ∃ x : α, w.cell? (a.add i) = some (mk x) := by
      intro i hil
      obtain ⟨cs', hcs, ht⟩ := hi i (by omega)
      rw [h1, Nat.mul_one] at hcs
      obtain ⟨_, hl, hcell⟩ := World.cells?_some hcs
      obtain ⟨c, rfl⟩ : ∃ c, cs' = [c] := by
        match cs', hl with
        | [c], _ => exact ⟨c, rfl⟩
      obtain ⟨x0, rfl⟩ := he _ _ _ ht
      have h0 := hcell 0 (by simp)
      have ha : (a.add i).add 0 = a.add i := by simp [Addr.add]
      rw [ha] at h0
      exact ⟨x0, h0⟩
    obtain ⟨l, rfl, hp⟩ := list_of len0 key
    refine ⟨l, some a, _, by rw [List.length_map], by rw [List.length_map]; exact hlc, fun hl0 => ?_⟩
    rw [List.length_map] at hl0
    have h00 := hp 0 l[0] (List.getElem?_eq_getElem hl0)
    obtain ⟨g, o, sp⟩ := a
    obtain rfl : sp = none := add_none h00
    have hadd : ∀ j, (⟨g, o, none⟩ : Addr).add j = ⟨g, o + j, none⟩ := fun j => by unfold Addr.add; split <;> simp_all
    refine ⟨g, o, rfl, ?_, fun i x hx => ?_⟩
    · rw [hadd] at h00; exact lt_cell h00
    · rw [List.getElem?_map] at hx
      obtain ⟨y, hy, rfl⟩ := Option.map_eq_some_iff.1 hx
      have := hp i y hy
      rw [hadd] at this
      exact this
set_option maxRecDepth 100000 in
theorem open_bools {v : Value} {d : DataW H} {p : List MemPlace} (hv : Value.okWide Tryz.prog w r b0 36 v) (h : DataW.Trod enc Tryz.prog w base (fun _ => true) held 36 v d p) : ∃ l : List Bool, CellsAt w v (l.map .bool) :=
  open_cells Tryz.underlying36 (by kernel_rfl) (fun n c y ht => by
    obtain ⟨b, e, _⟩ := DataW.trod_bool Tryz.underlying4 ht
    simp at e
    exact ⟨b, e⟩) hv h
end
end Hlt
end Go.Proofs.YtnbkhdbligjifaaGreatDoor
