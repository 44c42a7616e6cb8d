/-
  Plain facts on chunks: how many there are, how great each is, that they are the data; what is cut by itself; where two data go alike.
-/
import Derived.Test.YtiblljellcgjbaaCutPlain
namespace Go.Proofs.Ytiblljellcgjbaa
namespace Cut
open Gear (roll roll_lt M)

theorem last_ends (l : List UInt8) (i f h : Nat) (hf : f ≤ i) : last f (ends i f h l) = i + l.length := by
  induction l generalizing i f h with
  | nil =>
    by_cases hi : f < i
    · rw [ends_nil_lt hi]; rfl
    · rw [ends_nil_ge hi]; simp [last]; omega
  | cons b l ih =>
    by_cases hm : more (i + 1 - f) (roll h b.toNat) = true
    · rw [ends_more hm, ih (i + 1) f _ (by omega)]; simp; omega
    · rw [ends_stop (by simpa using hm), last, ih (i + 1) (i + 1) _ (Nat.le_refl _)]; simp; omega
theorem last_E (d : List UInt8) : last 0 (E d) = d.length := by
  have := last_ends d 0 0 0 (Nat.le_refl _)
  simpa [E] using this

/-- all but the last chunk have 64 bytes at least -/
theorem ends_min (l : List UInt8) (i f h : Nat) : ∀ pre e e2 suf, ends i f h l = pre ++ e :: e2 :: suf → last f pre + 64 ≤ e := by
  induction l generalizing i f h with
  | nil =>
    intro pre e e2 suf hq
    by_cases hi : f < i
    · rw [ends_nil_lt hi] at hq
      have := congrArg List.length hq
      simp at this
      omega
    · rw [ends_nil_ge hi] at hq; simp at hq
  | cons b l ih =>
    intro pre e e2 suf hq
    by_cases hm : more (i + 1 - f) (roll h b.toNat) = true
    · rw [ends_more hm] at hq; exact ih _ _ _ pre e e2 suf hq
    · rw [ends_stop (by simpa using hm)] at hq
      cases pre with
      | nil =>
        simp at hq
        obtain ⟨rfl, _⟩ := hq
        simp [more] at hm
        simp [last]; omega
      | cons a pre =>
        simp at hq
        obtain ⟨rfl, hq⟩ := hq
        exact ih _ _ _ pre e e2 suf hq

/-- so far apart: from f on -/
def Steps (hi lo : Nat) : Nat → List Nat → Prop
  | _, [] => True
  | f, e :: l => f < e ∧ e ≤ f + hi ∧ (l ≠ [] → f + lo ≤ e) ∧ Steps hi lo e l
theorem steps_of (hi lo : Nat) : ∀ (L : List Nat) (f : Nat), (∀ pre e suf, L = pre ++ e :: suf → last f pre < e ∧ e ≤ last f pre + hi ∧ (suf ≠ [] → last f pre + lo ≤ e)) → Steps hi lo f L := by
  intro L
  induction L with
  | nil => intro f _; trivial
  | cons e l ih =>
    intro f h
    obtain ⟨h1, h2, h3⟩ := h [] e l rfl
    exact ⟨h1, h2, h3, ih e (fun pre e' suf hq => h (e :: pre) e' suf (by rw [hq]; rfl))⟩
theorem steps_E (d : List UInt8) : Steps 1024 64 0 (E d) := by
  refine steps_of _ _ _ _ (fun pre e suf hq => ?_)
  obtain ⟨h1, h2, h3⟩ := ends_bounds d 0 0 0 (Nat.le_refl _) (by omega) pre e suf hq
  refine ⟨h1, by omega, fun hs => ?_⟩
  cases suf with
  | nil => exact absurd rfl hs
  | cons e2 suf => exact ends_min d 0 0 0 pre e e2 suf hq
theorem steps_many (hi lo : Nat) (_hlo : 0 < lo) : ∀ (L : List Nat) (f : Nat), Steps hi lo f L → last f L ≤ f + hi * L.length ∧ f + lo * (L.length - 1) ≤ last f L := by
  intro L
  induction L with
  | nil => intro f _; simp [last]
  | cons e l ih =>
    intro f ⟨h1, h2, h3, h4⟩
    obtain ⟨a, b⟩ := ih e h4
    simp only [last, List.length_cons]
    constructor
    · rw [Nat.mul_add]; omega
    · cases l with
      | nil => simp [last]; omega
      | cons e2 l =>
        have := h3 (by simp)
        simp only [List.length_cons, Nat.add_sub_cancel] at b ⊢
        rw [Nat.mul_add]; omega
theorem E_many (d : List UInt8) : d.length ≤ (E d).length * 1024 ∧ (E d).length ≤ d.length / 64 + 1 := by
  obtain ⟨a, b⟩ := steps_many 1024 64 (by omega) _ _ (steps_E d)
  rw [last_E] at a b
  omega

theorem split_k (L : List Nat) (k : Nat) (h : k < L.length) : L = L.take k ++ L.getD k 0 :: L.drop (k + 1) := by
  rw [List.getD_eq_getElem?_getD, List.getElem?_eq_getElem h, Option.getD_some, ← List.drop_eq_getElem_cons h, List.take_append_drop]
theorem take_k (L : List Nat) (k : Nat) (h : k < L.length) : L.take (k + 1) = L.take k ++ [L.getD k 0] := by
  rw [List.take_succ_eq_append_getElem h, List.getD_eq_getElem?_getD, List.getElem?_eq_getElem h, Option.getD_some]
/-- the k-th chunk -/
theorem at_k (d : List UInt8) (k : Nat) (hk : k < (E d).length) :
    last 0 ((E d).take k) < (E d).getD k 0 ∧ (E d).getD k 0 ≤ last 0 ((E d).take k) + 1024 ∧ (k + 1 < (E d).length → last 0 ((E d).take k) + 64 ≤ (E d).getD k 0) ∧ (E d).getD k 0 ≤ d.length ∧ last 0 ((E d).take (k + 1)) = (E d).getD k 0 := by
  have hs := split_k (E d) k hk
  obtain ⟨h1, h2, h3⟩ := ends_bounds d 0 0 0 (Nat.le_refl _) (by omega) _ _ _ hs
  refine ⟨h1, by omega, fun h => ?_, by omega, by rw [take_k _ _ hk, last_snoc]⟩
  have h4 : (E d).drop (k + 1) ≠ [] := by
    intro e
    have := congrArg List.length e
    simp at this
    omega
  obtain ⟨e2, suf, h5⟩ := List.exists_cons_of_ne_nil h4
  rw [h5] at hs
  exact ends_min d 0 0 0 _ _ e2 suf hs
theorem pieces_k (d : List UInt8) : ∀ (L : List Nat) (f k : Nat), k < L.length → (pieces d f L)[k]? = some ((d.drop (last f (L.take k))).take (L.getD k 0 - last f (L.take k))) := by
  intro L
  induction L with
  | nil => intro f k h; simp at h
  | cons e l ih =>
    intro f k h
    cases k with
    | zero => simp [pieces, last]
    | succ k =>
      simp at h
      simp only [pieces, List.getElem?_cons_succ, List.take_succ_cons, last, List.getD_cons_succ]
      exact ih e k h

theorem piece_len (d : List UInt8) (f e : Nat) (he : e ≤ d.length) (hf : f ≤ e) : ((d.drop f).take (e - f)).length = e - f := by simp; omega

end Cut
end Go.Proofs.Ytiblljellcgjbaa
