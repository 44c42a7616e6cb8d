/-
  Plain facts on chunks cut by themselves, and on two data that go alike.
-/
import Derived.Test.YtiblljellcgjbaaCutMore
namespace Go.Proofs.Ytiblljellcgjbaa
namespace Cut
open Gear (roll roll_lt M)

theorem ends_ge (l : List UInt8) (i f h : Nat) : ∀ x ∈ ends i f h l, i ≤ x := by
  induction l generalizing i f h with
  | nil =>
    intro x hx
    by_cases hi : f < i
    · rw [ends_nil_lt hi] at hx; simp at hx; omega
    · rw [ends_nil_ge hi] at hx; simp at hx
  | cons b l ih =>
    intro x hx
    by_cases hm : more (i + 1 - f) (roll h b.toNat) = true
    · rw [ends_more hm] at hx; have := ih _ _ _ x hx; omega
    · rw [ends_stop (by simpa using hm)] at hx
      rcases List.mem_cons.1 hx with rfl | hx
      · omega
      · have := ih _ _ _ x hx; omega

theorem ends_shift (c : Nat) (l : List UInt8) (i f h : Nat) : ends (i + c) (f + c) h l = (ends i f h l).map (· + c) := by
  induction l generalizing i f h with
  | nil =>
    by_cases hi : f < i
    · rw [ends_nil_lt hi, ends_nil_lt (by omega)]; rfl
    · rw [ends_nil_ge hi, ends_nil_ge (by omega)]; rfl
  | cons b l ih =>
    have e1 : i + c + 1 - (f + c) = i + 1 - f := by omega
    have e2 : i + c + 1 = (i + 1) + c := by omega
    by_cases hm : more (i + 1 - f) (roll h b.toNat) = true
    · rw [ends_more hm, ends_more (by rw [e1]; exact hm), e2, ih]
    · have hm' : more (i + 1 - f) (roll h b.toNat) = false := by simpa using hm
      rw [ends_stop hm', ends_stop (by rw [e1]; exact hm'), e2, ih]; rfl

theorem ends_prefix (l : List UInt8) (i f h : Nat) : ∀ pre e suf, ends i f h l = pre ++ e :: suf → ends i f h (l.take (e - i)) = pre ++ [e] := by
  induction l generalizing i f h with
  | nil =>
    intro pre e suf hq
    by_cases hi : f < i
    · rw [ends_nil_lt hi] at hq
      cases pre with
      | nil => simp at hq; obtain ⟨rfl, _⟩ := hq; simp [ends_nil_lt hi]
      | cons a pre => simp at hq
    · rw [ends_nil_ge hi] at hq; simp at hq
  | cons b l ih =>
    intro pre e suf hq
    have hmem : e ∈ ends i f h (b :: l) := by rw [hq]; simp
    by_cases hm : more (i + 1 - f) (roll h b.toNat) = true
    · rw [ends_more hm] at hq hmem
      have hge := ends_ge _ _ _ _ e hmem
      rw [show e - i = (e - (i + 1)) + 1 by omega, List.take_succ_cons, ends_more hm]
      exact ih _ _ _ pre e suf hq
    · rw [ends_stop (by simpa using hm)] at hq
      cases pre with
      | nil =>
        simp at hq
        obtain ⟨rfl, _⟩ := hq
        rw [show i + 1 - i = 0 + 1 by omega, List.take_succ_cons, ends_stop (by simpa using hm), List.take_zero, ends_nil_ge (by omega)]
        rfl
      | cons a pre =>
        simp at hq
        obtain ⟨rfl, hq⟩ := hq
        have hge := ends_ge _ _ _ _ e (by rw [hq]; simp : e ∈ ends (i + 1) (i + 1) 0 l)
        rw [show e - i = (e - (i + 1)) + 1 by omega, List.take_succ_cons, ends_stop (by simpa using hm), ih _ _ _ pre e suf hq]
        rfl

theorem ends_suffix (l : List UInt8) (i f h : Nat) (hf : f ≤ i) : ∀ pre e suf, ends i f h l = pre ++ e :: suf → suf = ends e e 0 (l.drop (e - i)) := by
  induction l generalizing i f h with
  | nil =>
    intro pre e suf hq
    by_cases hi : f < i
    · rw [ends_nil_lt hi] at hq
      cases pre with
      | nil => simp at hq; obtain ⟨rfl, rfl⟩ := hq; simp [ends_nil_ge]
      | cons a pre => simp at hq
    · rw [ends_nil_ge hi] at hq; simp at hq
  | cons b l ih =>
    intro pre e suf hq
    have hmem : e ∈ ends i f h (b :: l) := by rw [hq]; simp
    by_cases hm : more (i + 1 - f) (roll h b.toNat) = true
    · rw [ends_more hm] at hq hmem
      have hge := ends_ge _ _ _ _ e hmem
      rw [show e - i = (e - (i + 1)) + 1 by omega, List.drop_succ_cons]
      exact ih _ _ _ (by omega) pre e suf hq
    · rw [ends_stop (by simpa using hm)] at hq
      cases pre with
      | nil =>
        simp at hq
        obtain ⟨rfl, rfl⟩ := hq
        rw [show i + 1 - i = 0 + 1 by omega, List.drop_succ_cons, List.drop_zero]
      | cons a pre =>
        simp at hq
        obtain ⟨rfl, hq⟩ := hq
        have hge := ends_ge _ _ _ _ e (by rw [hq]; simp : e ∈ ends (i + 1) (i + 1) 0 l)
        rw [show e - i = (e - (i + 1)) + 1 by omega, List.drop_succ_cons]
        exact ih _ _ _ (Nat.le_refl _) pre e suf hq

/-- behind an end all goes as if it began there -/
theorem E_suffix (d : List UInt8) (pre : List Nat) (e : Nat) (suf : List Nat) (h : E d = pre ++ e :: suf) : suf = (E (d.drop e)).map (· + e) := by
  have h1 := ends_suffix d 0 0 0 (Nat.le_refl _) pre e suf h
  have h2 := ends_shift e (d.drop e) 0 0 0
  rw [Nat.zero_add] at h2
  rw [h1, Nat.sub_zero, h2]; rfl
/-- the data up to an end -/
theorem E_prefix (d : List UInt8) (pre : List Nat) (e : Nat) (suf : List Nat) (h : E d = pre ++ e :: suf) : E (d.take e) = pre ++ [e] := by
  have h1 := ends_prefix d 0 0 0 pre e suf h
  rwa [Nat.sub_zero] at h1
/-- a chunk -/
theorem E_chunk (d : List UInt8) (pre : List Nat) (e : Nat) (suf : List Nat) (h : E d = pre ++ e :: suf) : E ((d.drop (last 0 pre)).take (e - last 0 pre)) = [e - last 0 pre] := by
  rcases List.eq_nil_or_concat pre with rfl | ⟨pre', f, rfl⟩
  · have := E_prefix d [] e suf h
    simpa [last] using this
  · rw [List.concat_eq_append] at h ⊢
    rw [last_snoc]
    have h0 : E d = pre' ++ f :: (e :: suf) := by rw [h]; simp
    have h1 := ends_suffix d 0 0 0 (Nat.le_refl _) pre' f (e :: suf) h0
    rw [Nat.sub_zero] at h1
    have h2 := ends_prefix (d.drop f) f f 0 [] e suf h1.symm
    have h3 := ends_shift f ((d.drop f).take (e - f)) 0 0 0
    rw [Nat.zero_add, h2] at h3
    have h4 : (ends 0 0 0 ((d.drop f).take (e - f))).map (· + f) = [e] := h3.symm
    show ends 0 0 0 ((d.drop f).take (e - f)) = [e - f]
    generalize ends 0 0 0 ((d.drop f).take (e - f)) = q at h4
    match q, h4 with
    | [x], h4 => simp at h4; simp; omega

theorem E_nil {d : List UInt8} (h : E d = []) : d = [] := by
  have := last_E d
  rw [h] at this
  exact List.eq_nil_of_length_eq_zero (by simpa [last] using this.symm)

/-- two data that begin alike -/
theorem ends_common (p A B : List UInt8) (i f h : Nat) : ∃ c ra rb, ends i f h (p ++ A) = c ++ ra ∧ ends i f h (p ++ B) = c ++ rb ∧ (∀ x ∈ ra, i + p.length ≤ x) ∧ (∀ x ∈ rb, i + p.length ≤ x) := by
  induction p generalizing i f h with
  | nil => exact ⟨[], ends i f h A, ends i f h B, rfl, rfl, fun x hx => by simpa using ends_ge _ _ _ _ x hx, fun x hx => by simpa using ends_ge _ _ _ _ x hx⟩
  | cons b p ih =>
    by_cases hm : more (i + 1 - f) (roll h b.toNat) = true
    · obtain ⟨c, ra, rb, h1, h2, h3, h4⟩ := ih (i + 1) f (roll h b.toNat)
      refine ⟨c, ra, rb, ?_, ?_, fun x hx => ?_, fun x hx => ?_⟩
      · rw [List.cons_append, ends_more hm, h1]
      · rw [List.cons_append, ends_more hm, h2]
      · have := h3 x hx; simp; omega
      · have := h4 x hx; simp; omega
    · obtain ⟨c, ra, rb, h1, h2, h3, h4⟩ := ih (i + 1) (i + 1) 0
      refine ⟨(i + 1) :: c, ra, rb, ?_, ?_, fun x hx => ?_, fun x hx => ?_⟩
      · rw [List.cons_append, ends_stop (by simpa using hm), h1]; rfl
      · rw [List.cons_append, ends_stop (by simpa using hm), h2]; rfl
      · have := h3 x hx; simp; omega
      · have := h4 x hx; simp; omega
theorem E_common (p A B : List UInt8) (k : Nat) (hk : k < (E (p ++ A)).length) (hl : (E (p ++ A)).getD k 0 < p.length) : k < (E (p ++ B)).length ∧ (E (p ++ B)).getD k 0 = (E (p ++ A)).getD k 0 := by
  obtain ⟨c, ra, rb, h1, h2, h3, h4⟩ := ends_common p A B 0 0 0
  have h1' : E (p ++ A) = c ++ ra := h1
  have h2' : E (p ++ B) = c ++ rb := h2
  rw [h1'] at hk hl ⊢
  rw [h2']
  have hc : k < c.length := by
    rcases Nat.lt_or_ge k c.length with h | h
    · exact h
    · exfalso
      have hm : (c ++ ra).getD k 0 ∈ ra := by
        rw [List.getD_eq_getElem?_getD, List.getElem?_append_right h]
        simp at hk
        rw [List.getElem?_eq_getElem (by omega), Option.getD_some]
        exact List.getElem_mem _
      have := h3 _ hm
      omega
  refine ⟨by simp; omega, ?_⟩
  rw [List.getD_eq_getElem?_getD, List.getD_eq_getElem?_getD, List.getElem?_append_left hc, List.getElem?_append_left hc]

/-- from an end that both have, and behind which both go on alike -/
theorem E_tail (p q t : List UInt8) (i k x : Nat) (hi : i < (E (p ++ t)).length) (hk : k < (E (q ++ t)).length) (h1 : (E (p ++ t)).getD i 0 = p.length + x) (h2 : (E (q ++ t)).getD k 0 = q.length + x) :
    (E (p ++ t)).length - i = (E (q ++ t)).length - k ∧ ∀ j, i + j < (E (p ++ t)).length → (E (p ++ t)).getD (i + j) 0 + q.length = (E (q ++ t)).getD (k + j) 0 + p.length := by
  have s1 := split_k (E (p ++ t)) i hi
  have s2 := split_k (E (q ++ t)) k hk
  rw [h1] at s1
  rw [h2] at s2
  have t1 := E_suffix _ _ _ _ s1
  have t2 := E_suffix _ _ _ _ s2
  have d1 : (p ++ t).drop (p.length + x) = t.drop x := by rw [List.drop_append, List.drop_of_length_le (by omega), List.nil_append]; congr 1; omega
  have d2 : (q ++ t).drop (q.length + x) = t.drop x := by rw [List.drop_append, List.drop_of_length_le (by omega), List.nil_append]; congr 1; omega
  rw [d1] at t1
  rw [d2] at t2
  have l1 := congrArg List.length t1
  have l2 := congrArg List.length t2
  simp only [List.length_drop, List.length_map] at l1 l2
  refine ⟨by omega, fun j hj => ?_⟩
  cases j with
  | zero => rw [Nat.add_zero, Nat.add_zero, h1, h2]; omega
  | succ j =>
    have g1 := congrArg (fun l : List Nat => l[j]?) t1
    have g2 := congrArg (fun l : List Nat => l[j]?) t2
    have hj' : j < (E (t.drop x)).length := by omega
    simp only [List.getElem?_drop, List.getElem?_map, List.getElem?_eq_getElem hj', Option.map_some] at g1 g2
    rw [List.getD_eq_getElem?_getD, List.getD_eq_getElem?_getD, show i + (j + 1) = i + 1 + j by omega, show k + (j + 1) = k + 1 + j by omega, g1, g2]
    simp only [Option.getD_some]
    omega

end Cut
end Go.Proofs.Ytiblljellcgjbaa
