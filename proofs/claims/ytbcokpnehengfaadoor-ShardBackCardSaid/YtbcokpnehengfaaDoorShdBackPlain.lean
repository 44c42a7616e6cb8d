/-
  Plain laws of a shard's object that was turned: another byte, fewer bytes or more, another name. No program is named.
-/
import Derived.Test.YtbcokpnehengfaaDoorShdObj
namespace Go.Proofs.YtbcokpnehengfaaDoor
namespace Shd

section
variable {D : List UInt8 → List UInt8}

theorem Sound.take11 {n m l x : List UInt8} {s : Shard} (hD : ∀ l, (D l).length = 32) (h : Sound D n l s) (hx : Looks D m x) (h11 : x.take 11 = l.take 11) : x.length = l.length :=
  Sound.len hD (looks_sound hx) h h11

/-- fewer bytes -/
theorem less_not (hD : ∀ l, (D l).length = 32) {n m l : List UInt8} {s : Shard} (h : Sound D n l s) (k : Nat) (hk : k < l.length) : ¬ Looks D m (l.take k) := fun hx => by
  have h75 := hx.1
  rw [List.length_take] at h75
  have h11 : (l.take k).take 11 = l.take 11 := by rw [List.take_take, Nat.min_eq_left (by omega)]
  have := h.take11 hD hx h11
  rw [List.length_take] at this
  omega

/-- a byte more -/
theorem more_not (hD : ∀ l, (D l).length = 32) {n m l : List UInt8} {s : Shard} (h : Sound D n l s) (b : UInt8) : ¬ Looks D m (l ++ [b]) := fun hx => by
  have hl := (sound_looks hD h).1
  have h11 : (l ++ [b]).take 11 = l.take 11 := List.take_append_of_le_length (by omega)
  have := h.take11 hD hx h11
  simp at this

/-- another name -/
theorem name_not (hD : ∀ l, (D l).length = 32) {n l : List UInt8} {s : Shard} (h : Sound D n l s) (b : UInt8) : ¬ Looks D (n ++ [b]) l := fun hx => by
  have h1 := looks_sound hx
  rw [← h.eq hD] at h1
  have h2 := h1.2.2.2
  rw [← h.2.2.2] at h2
  have h3 := congrArg List.length h2
  simp at h3

theorem set_same (l : List UInt8) (k : Nat) (hk : k < l.length) : l.set k l[k] = l := List.set_getElem_self hk

/-- another byte: if it is sound, its place is none of the first 4, none of the last 32, and both texts have one digest -/
theorem byte_sound (hD : ∀ l, (D l).length = 32) {n m l : List UInt8} {s : Shard} (h : Sound D n l s) (k : Nat) (hk : k < l.length) (b : UInt8) (hb : l[k] ≠ b) (hx : Looks D m (l.set k b)) :
    4 ≤ k ∧ k < l.length - 32 ∧ D (l.take (l.length - 32)) = D ((l.set k b).take (l.length - 32)) := by
  obtain ⟨a1, a2, a3, a4, a5, a6, a7, a8⟩ := sound_looks hD h
  obtain ⟨b1, b2, b3, b4, b5, b6, b7, b8⟩ := hx
  rw [List.length_set] at b7
  have hget : (l.set k b)[k]? = some b := by rw [List.getElem?_set_self hk]
  have hget0 : l[k]? = some l[k] := List.getElem?_eq_getElem hk
  have h4 : 4 ≤ k := by
    rcases Nat.lt_or_ge k 4 with hlt | hge
    · exfalso
      have e1 : ((l.set k b).take 4)[k]? = (l.take 4)[k]? := by rw [b3, a3]
      rw [List.getElem?_take_of_lt hlt, List.getElem?_take_of_lt hlt, hget, hget0, Option.some.injEq] at e1
      exact hb e1.symm
    · exact hge
  have hend : k < l.length - 32 := by
    rcases Nat.lt_or_ge k (l.length - 32) with hlt | hge
    · exact hlt
    · exfalso
      have e1 : (l.set k b).take (l.length - 32) = l.take (l.length - 32) := by
        rw [List.take_set, List.set_eq_of_length_le (by rw [List.length_take]; omega)]
      rw [e1, ← a7] at b7
      have e2 : l.set k b = l := by
        rw [← List.take_append_drop (l.length - 32) (l.set k b), e1, b7, List.take_append_drop]
      rw [e2, hget0, Option.some.injEq] at hget
      exact hb hget
  refine ⟨h4, hend, ?_⟩
  rw [← a7, ← b7, List.drop_set, if_pos hend]
end

end Shd
end Go.Proofs.YtbcokpnehengfaaDoor
