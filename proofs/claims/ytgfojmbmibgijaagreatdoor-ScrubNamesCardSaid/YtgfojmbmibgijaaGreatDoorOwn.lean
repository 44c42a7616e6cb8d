/-
  Rows of the call's own: an append onto one, text out of one. No program is named.
-/
import Derived.Test.YtgfojmbmibgijaaGreatDoorStabV
import Derived.Deep.AppendLies
namespace Go.Proofs.YtgfojmbmibgijaaGreatDoor
open Go.RowKit

theorem own_ext {w w' : World} {base : Nat} {e : TypeId} {size : Nat} {v : Value} {n : Nat} {xs : List Value} (h : w.ownsRow base e size v n xs) (hb : Stab.Ext w w') : w'.ownsRow base e size v n xs := by
  refine ⟨h.1, ?_⟩
  rcases h.2 with hn | ⟨g, cap, cur, rfl, hb0, hgg, rest⟩
  · exact .inl hn
  · exact .inr ⟨g, cap, cur, rfl, hb0, (Below.block hb g (Array.getElem?_eq_some_iff.1 hgg).1).trans hgg, rest⟩

section
variable {P : Program} {t e : TypeId} {z : Value} {size bytes : Nat}

/-- 'append(v, ..)' of a block that is known whole -/
theorem own_app (ht : P.underlying t = some (.slice e)) (he : (P.info? e).map (fun i => (i.zero, i.size, i.bytes)) = some (some z, size, bytes)) (hzs : z.cells.size = size) (hsz : 0 < size) (hb0 : 0 < bytes)
    {w : World} {base n m gb c : Nat} {v : Value} {xs : List Value} {C : Array Value} (hv : w.ownsRow base e size v n xs) (hb : Blk w gb e C) (hl : C.size = m * size) (h1 : C.all (·.oneCell') = true) (hm : 0 < m)
    (hby : (n + m) * bytes ≤ 140737488355328) (hbase : base ≤ w.heap.size) :
    ∃ g cap w', (appSem #[t, t] t #[v, .slice (some ⟨gb, 0, none⟩) m c]).run P w = .ok (.slice (some ⟨g, 0, none⟩) (n + m) cap) w' ∧ w'.ownsRow base e size (.slice (some ⟨g, 0, none⟩) (n + m) cap) (n + m) (xs ++ C.toList) ∧
      Below base w w' ∧ w.grownBy w' v.ownBlock ∧ (v.ownBlock = some g ∨ g = w.heap.size) := by
  obtain ⟨i, hi, hz0, hz1, hz2⟩ := info_parts he
  have hle : n + m ≤ (n + m) * bytes := Nat.le_mul_of_pos_right _ hb0
  obtain ⟨g, cap, w', hr, h2, h3, h4, _⟩ := run_append_lies (P := P) w t t base e i z size bytes ht hi hz0 hz1 hz2 hzs hsz v n xs hv ⟨gb, 0, none⟩ m c C.toList (by simpa using hl)
    (Stab.cells_blk (by simpa using hb)) (fun u hu => by
      have := Array.all_eq_true_iff_forall_mem.1 h1 u (by simpa using hu)
      exact this) hm (by unfold maxLen; omega) hby hbase _ rfl
  exact ⟨g, cap, w', hr, h2, (Below.refl _ _).grown h3 hbase (fun k hk => (hv.lt k hk).1), h3, h4⟩

/-- the same of a block that was made just now -/
theorem own_app_new (ht : P.underlying t = some (.slice e)) (he : (P.info? e).map (fun i => (i.zero, i.size, i.bytes)) = some (some z, size, bytes)) (hzs : z.cells.size = size) (hsz : 0 < size) (hb0 : 0 < bytes)
    {w : World} {base n m c : Nat} {v : Value} {xs : List Value} {C : Array Value} (hv : w.ownsRow base e size v n xs) (hl : C.size = m * size) (h1 : C.all (·.oneCell') = true) (hm : 0 < m)
    (hby : (n + m) * bytes ≤ 140737488355328) (hbase : base ≤ w.heap.size) :
    ∃ g cap w', (appSem #[t, t] t #[v, .slice (some ⟨w.heap.size, 0, none⟩) m c]).run P (w.alloc (.cells C e)) = .ok (.slice (some ⟨g, 0, none⟩) (n + m) cap) w' ∧ w'.ownsRow base e size (.slice (some ⟨g, 0, none⟩) (n + m) cap) (n + m) (xs ++ C.toList) ∧
      Below base w w' ∧ (w.alloc (.cells C e)).grownBy w' v.ownBlock ∧ (v.ownBlock = some g ∨ g = w.heap.size + 1) := by
  obtain ⟨g, cap, w', h1, h2, h3, h4, h5⟩ := own_app (t := t) (c := c) ht he hzs hsz hb0 (hv.alloc (.cells C e)) (Blk.new w e C) hl h1 hm hby (by simp; omega)
  exact ⟨g, cap, w', h1, h2, ((Below.refl _ _).alloc hbase _).trans h3, h4, by simpa using h5⟩

/-- 'string(v)' -/
theorem own_text {src dst : TypeId} (hs : P.underlying src = some (.slice e)) (he : P.underlying e = some (.int .u8)) (hd : P.underlying dst = some .string) {w : World} {base : Nat} {et : TypeId} {v : Value} {l : List UInt8} {n : Nat}
    (hv : w.ownsRow base et 1 v n (Lib.byteCells l)) : (convert src dst v).run P w = .ok (.string ⟨l.toArray⟩) w := by
  have hn : l.length = n := by have := hv.1; rw [Lib.byteCells_length, Nat.mul_one] at this; exact this
  subst hn
  obtain ⟨A, cap, rfl, h⟩ := row_form hv
  rcases Nat.eq_zero_or_pos l.length with h0 | h0
  · have hl : l = [] := List.eq_nil_of_length_eq_zero h0
    subst hl
    rcases hv.2 with ⟨he', _⟩ | ⟨g, cap', cur, he', _⟩
    · cases he'
      exact run_convert_bytes_nil w src e hs he _ 0 dst hd
    · cases he'
      exact run_convert_bytes_back w src dst e ⟨g, 0, none⟩ _ [] hs he hd (fun j hj => absurd hj (by simp))
  · obtain ⟨g, cur, rfl, _, hb, hc⟩ := h h0
    refine run_convert_bytes_back w src dst e ⟨g, 0, none⟩ cap l hs he hd (fun j hj => ?_)
    have hp : (⟨g, 0, none⟩ : Addr).add j = ⟨g, j, none⟩ := by unfold Addr.add; split <;> simp_all
    rw [hp, hb.cell j]
    exact hc j _ (by simp [Lib.byteCells, hj])
end

theorem byteCells_snoc (l : List UInt8) (b : UInt8) : Lib.byteCells (l ++ [b]) = Lib.byteCells l ++ [Value.int .u8 (b.toNat : Int)] := by simp [Lib.byteCells]

end Go.Proofs.YtgfojmbmibgijaaGreatDoor
