/-
 A store in memory: its objects. The health laws: objects that are new; are two rows of objects the same? Rows cloned. A world in memory: its predicate; the plain answers. A world in memory: a call of a store.
-/
import Derived.Test.YtnbkhdbligjifaaGreatDoorStoE
import Derived.Test.YtnbkhdbligjifaaGreatDoorVMaps
import Derived.Deep.Upon
set_option linter.unusedVariables false
set_option linter.unusedSimpArgs false
set_option maxRecDepth 100000
set_option maxHeartbeats 40000000
namespace Go.Proofs.YtnbkhdbligjifaaGreatDoor
open Go Go.RowKit
namespace Vm
attribute [local go_sem ↓] appSem_eq
theorem info_obj : (Tryz.prog.info? 45).map (fun i => (i.zero, i.size, i.bytes)) = some (some (.agg #[.string ⟨#[]⟩, .string ⟨#[]⟩]), 2, 32) := by kernel_rfl
def gotB (m : TMap) (k : List UInt8) : ByteArray := (TMap.look m ⟨k.toArray⟩).getD ⟨#[]⟩
def objsV (m : TMap) (ks : List (List UInt8)) : List Value := ks.flatMap fun k => [encB k, .string (gotB m k)]
theorem objsV_snoc (m : TMap) (ks : List (List UInt8)) (k : List UInt8) : objsV m (ks ++ [k]) = objsV m ks ++ [encB k, .string (gotB m k)] := by simp [objsV]
theorem OwnG.base {w : World} {base base' : Nat} {e : TypeId} {size n : Nat} {v : Value} {xs : List Value} (h : OwnG w base e size v n xs) (hb : base' ≤ base) : OwnG w base' e size v n xs := by
 refine ⟨h.1, ?_⟩
 rcases h.2 with h | ⟨g, cap, cur, fz, h1, h2, h3⟩
 ·exact .inl h
 ·exact .inr ⟨g, cap, cur, fz, h1, by omega, h3⟩
def ObjsPost (w : World) (m : TMap) (e : Ending) (w' : World) : Prop := ∃ v, e = .returned v ∧ OwnG w' w.heap.size 45 2 v (keysOf m).length (objsV m (keysOf m)) ∧ Below w.heap.size w w'
theorem objects_any {w : World} {B : Nat} {s : PSt} {O : List Nat} (h : SAt w B s O) (hs : Small s.seen) :
 Calls Tryz.prog 50 #[.pointer (some ⟨B, 0, none⟩)] w (ObjsPost w s.seen) := by
 have HN := Lib.hid (names_any h hs)
 have hkl : (keysOf s.seen).length ≤ 1000000 := by rw [keysOf_len]; exact Nat.le_trans hs.len (by decide)
 have H := Lib.hid h
 clear h hs
 go_enter Tryz.func50, Tryz.ntmps50
 go_wp2_with (go_at_call 89; refine HN.out.mono ?_)
 rintro e w1 ⟨v, rfl, hrow, hv, hbl⟩
 obtain ⟨A, cap, rfl, hA⟩ := row_form hrow
 have h1 := H.out.keep (Fr.of_below (O := []) hbl) (by simp)
 have HB := Lib.hid hbl
 have H1 := Lib.hid h1
 generalize hks : keysOf s.seen = ks at *
 have HKS := Lib.hid hks
 have HA := Lib.hid hA
 clear hrow hv hA h1 hbl hks H HN
 go_wp2_with fail
 go_loopw [3, 11] (fun out i wr => ∃ k : Nat, k ≤ ks.length ∧ i = .int .i64 (k : Int) ∧ OwnG wr w1.heap.size 45 2 out k (objsV s.seen (ks.take k)) ∧ Below w1.heap.size w1 wr) (fun _ i _ => ks.length - (intOf i).toNat)
 case atStart => exact ⟨0, by omega, rfl, OwnG.nil _ _ _ _, Below.refl _ _⟩
 case round =>
  obtain ⟨k, hk, rfl, ho, hb⟩ := hrel
  by_cases hlt : k < ks.length
  ·obtain ⟨g, cur, rfl, hg, hcur, hcs⟩ := HA.out (by omega)
   obtain ⟨key, hkey⟩ : ∃ key, key = ks[k] := ⟨_, rfl⟩
   have hT : ks.take (k + 1) = ks.take k ++ [key] := by rw [List.take_succ_eq_append_getElem hlt, hkey]
   have hcell : wr.cell? ⟨g, k, none⟩ = some (encB key) := by
    have h1 : w1.cell? ⟨g, k, none⟩ = some (encB key) := by
     rw [hcur.cell]
     exact hcs _ _ (by rw [List.getElem?_map, List.getElem?_eq_getElem hlt, hkey]; rfl)
    exact (hb.cell (p := ⟨g, k, none⟩) hcur.lt).trans h1
   obtain ⟨gg, m, ws, hS, -⟩ := H1.out.keep (Fr.of_below (O := []) hb) (by simp)
   have c2 := hS.c2
   have he : encB key = .string ⟨key.toArray⟩ := rfl
   rw [he] at hcell
   have hl := run_look Tryz.underlying126 Tryz.underlying9 hS.seen (zeroS wr) ⟨key.toArray⟩ false
   have hz : ((TMap.look s.seen ⟨key.toArray⟩).map Value.string).getD (.string ⟨#[]⟩) = .string (gotB s.seen key) := by
    unfold gotB
    cases TMap.look s.seen ⟨key.toArray⟩ <;> rfl
   have hlt2 : (k : Int) < (ks.length : Int) := by omega
   obtain ⟨g6, c6, w6, hrun, hown, hb6, _⟩ := ownG_new (c := 1) (m := 1) (C := #[.string ⟨key.toArray⟩, .string (gotB s.seen key)]) Tryz.underlying41 info_obj rfl (by omega) (by omega) ho rfl (by simp [Value.oneCell']) (by omega) (by omega) hb.size
   have HO := Lib.hid hown
   have HB6 := Lib.hid (hb.trans hb6)
   have HT := Lib.hid hT
   simp only [Bool.false_eq_true, if_false, hz] at hl
   clear hcur hcs hkey hT hS hz ho hown hb6
   go_wp2_with fail
   refine ⟨⟨k + 1, by omega, rfl, by rw [HT.out, objsV_snoc]; exact HO.out, HB6.out⟩, by simp [intOf]; omega⟩
  ·have hke : k = ks.length := by omega
   subst hke
   have HO := Lib.hid ho
   have HBL := Lib.hid hb
   have d1 : ¬ ((ks.length : Int) < (ks.length : Int)) := by omega
   clear ho hb
   go_wp2_with fail
   go_ret
   have h := HO.out
   rw [List.take_length] at h
   have hb2 : Below w.heap.size w wr := HB.out.trans (Below.mono HBL.out HB.out.size)
   unfold ObjsPost
   rw [HKS.out]
   exact ⟨_, rfl, OwnG.base h HB.out.size, hb2⟩
end Vm
end Go.Proofs.YtnbkhdbligjifaaGreatDoor
namespace Go.Proofs.YtnbkhdbligjifaaGreatDoor
open Go Go.RowKit Vm
open scoped Classical
namespace Hlt
attribute [local go_sem ↓] appSem_eq
theorem info_obj : (Tryz.prog.info? 45).map (fun i => (i.zero, i.size, i.bytes)) = some (some (.agg #[.string ⟨#[]⟩, .string ⟨#[]⟩]), 2, 32) := by kernel_rfl
abbrev POb := ByteArray × ByteArray
def objC (l : List POb) : List Value := l.flatMap fun o => [.string o.1, .string o.2]
theorem objC_app (l m : List POb) : objC (l ++ m) = objC l ++ objC m := by simp [objC]
theorem objC_get (l : List POb) (i : Nat) (o : POb) (h : l[i]? = some o) : (objC l)[i * 2]? = some (.string o.1) ∧ (objC l)[i * 2 + 1]? = some (.string o.2) := by
 induction l generalizing i with
 | nil => simp at h
 | cons a l ih =>
   cases i with
   | zero => simp only [List.getElem?_cons_zero, Option.some.injEq] at h; subst h; exact ⟨rfl, rfl⟩
   | succ i =>
     rw [List.getElem?_cons_succ] at h
     have := ih i h
     rw [Nat.succ_mul]
     exact this
theorem bytes_inj {a b : ByteArray} : a.toList = b.toList ↔ a = b := by
 rw [ByteArray.toList_eq, ByteArray.toList_eq]
 constructor
 ·intro h; exact ByteArray.ext (Array.toList_inj.1 h)
 ·rintro rfl; rfl
theorem objsV_eq (m : TMap) (ks : List (List UInt8)) : objsV m ks = objC (ks.map fun k => ((⟨k.toArray⟩ : ByteArray), gotB m k)) := by
 unfold objsV objC
 rw [List.flatMap_map]
 rfl
def ObjsAt (w : World) (base : Nat) (v : Value) (l : List POb) : Prop := OwnG w base 45 2 v l.length (objC l)
theorem ObjsAt.ext {w w' : World} {base : Nat} {v : Value} {l : List POb} (h : ObjsAt w base v l) (hE : Stab.Ext w w') : ObjsAt w' base v l := OwnG.ext h hE
theorem ObjsAt.cells {w : World} {base : Nat} {v : Value} {l : List POb} (h : ObjsAt w base v l) {i : Nat} (hi : i < l.length) : ∃ g cap, v = .slice (some ⟨g, 0, none⟩) l.length cap ∧ w.cell? ⟨g, i * 2, none⟩ = some (.string l[i].1) ∧ w.cell? ⟨g, i * 2 + 1, none⟩ = some (.string l[i].2) := by
 obtain ⟨g, cap, hv, -, -, -⟩ := OwnG.addr h (by omega)
 obtain ⟨o1, o2⟩ := objC_get l i l[i] (List.getElem?_eq_getElem hi)
 subst hv
 exact ⟨g, cap, rfl, OwnG.cells h rfl _ _ o1, OwnG.cells h rfl _ _ o2⟩
theorem memq {l : List POb} {q : Nat} (h : q < l.length) (o : POb) : decide (o ∈ l.take (q + 1)) = (decide (o ∈ l.take q) || decide (l[q] = o)) := by
 rw [List.take_succ_eq_append_getElem h]
 simp only [List.mem_append, List.mem_singleton, Bool.decide_or]
 congr 1
 exact decide_eq_decide.2 eq_comm
end Hlt
end Go.Proofs.YtnbkhdbligjifaaGreatDoor
namespace Go.Proofs.YtnbkhdbligjifaaGreatDoor
open Go Go.RowKit
namespace Vm
attribute [local go_sem ↓] appSem_eq
theorem app_row {P : Program} {t e : TypeId} {z : Value} {size bytes : Nat} (ht : P.underlying t = some (.slice e)) (he : (P.info? e).map (fun i => (i.zero, i.size, i.bytes)) = some (some z, size, bytes)) (hzs : z.cells.size = size) (hsz : 0 < size) (hb0 : 0 < bytes)
 {w : World} {base base2 n m : Nat} {v v2 : Value} {xs ys : List Value} (hv : w.ownsRow base e size v n xs) (h2 : w.ownsRow base2 e size v2 m ys) (h1 : ∀ u ∈ ys, u.oneCell' = true)
 (hby : (n + m) * bytes ≤ 140737488355328) (hbase : base ≤ w.heap.size) :
 ∃ v' w', (appSem #[t, t] t #[v, v2]).run P w = .ok v' w' ∧ w'.ownsRow base e size v' (n + m) (xs ++ ys) ∧ Below base w w' := by
 obtain ⟨i, hi, hz0, hz1, hz2⟩ := info_parts he
 rcases Nat.eq_zero_or_pos m with hm | hm
 ·subst hm
  have hys : ys = [] := List.eq_nil_of_length_eq_zero (by have := h2.1; simpa using this)
  subst hys
  refine ⟨v, w, ?_, by simpa using hv, Below.refl _ _⟩
  have hx : ∃ b c, v2 = .slice b 0 c := by
   rcases h2.2 with ⟨rfl, _⟩ | ⟨g, cap, cur, rfl, _⟩
   ·exact ⟨_, _, rfl⟩
   ·exact ⟨_, _, rfl⟩
  obtain ⟨b, c, rfl⟩ := hx
  have hs : Src P i.size t (.slice b 0 c) 0 [] w := by
   cases b with
   | none => exact Src.ofNil w ht c
   | some a => exact Src.ofSlice w ht a 0 c [] (by simp) (by simp) (by simp)
  have hvf : ∃ a c, v = .slice a n c ∧ n ≤ c := by
   rcases hv.2 with ⟨rfl, rfl⟩ | ⟨g, cap, cur, rfl, _, _, hc, _⟩
   ·exact ⟨_, _, rfl, Nat.le_refl _⟩
   ·exact ⟨_, _, rfl, hc⟩
  obtain ⟨a, c', rfl, hc⟩ := hvf
  exact run_append_nothing w t t t e i ht hi a n c' hc _ hs
 ·rcases h2.2 with ⟨rfl, h0⟩ | ⟨g, cap, cur, rfl, hb, hg, hn, hc, hs, hk⟩
  ·omega
  ·have hle : n + m ≤ (n + m) * bytes := Nat.le_mul_of_pos_right _ hb0
   obtain ⟨g', cap', w', hr, h3, h4, h5, _⟩ := run_append_lies (P := P) w t t base e i z size bytes ht hi hz0 hz1 hz2 hzs hsz v n xs hv ⟨g, 0, none⟩ m cap ys h2.1 (fun j u hu => by
    have hp : (⟨g, 0, none⟩ : Addr).add j = ⟨g, j, none⟩ := by unfold Addr.add; split <;> simp_all
    rw [hp, Blk.cell (show Blk w g e cur from hg) j, ← Array.getElem?_toList]
    have hl : j < ys.length := (List.getElem?_eq_some_iff.1 hu).1
    rw [← hk, List.getElem?_take_of_lt (by have := h2.1; omega)] at hu
    exact hu) h1 hm (by unfold maxLen; omega) hby hbase _ rfl
   exact ⟨_, w', hr, h3, (Below.refl _ _).grown h4 hbase (fun k hk => (hv.lt k hk).1)⟩
theorem info_write : (Tryz.prog.info? 155).map (fun i => (i.zero, i.size, i.bytes)) = some (some (.agg #[.string ⟨#[]⟩, .string ⟨#[]⟩, .bool false]), 3, 40) := by kernel_rfl
theorem eq_nil {P : Program} {t e : TypeId} (ht : P.underlying t = some (.slice e)) (w : World) : (binOp .eql t (.slice none 0 0) (.slice none 0 0)).run P w = .ok (.bool true) w := by
 have hd : ∀ d : Nat, (Op.equalIn (d + 1) t (.slice none 0 0) (.slice none 0 0)).run P w = .ok true w := fun d => by
  simp [Op.equalIn, run_underlying ht]
 simp only [binOp]
 simp [Op.equal, Op.maxDepth, hd 9999]
theorem ne_nil {P : Program} {t e : TypeId} (ht : P.underlying t = some (.slice e)) (a : Addr) (n c : Nat) (w : World) : (binOp .eql t (.slice (some a) n c) (.slice none 0 0)).run P w = .ok (.bool false) w := by
 have hd : ∀ d : Nat, (Op.equalIn (d + 1) t (.slice (some a) n c) (.slice none 0 0)).run P w = .ok false w := fun d => by
  simp [Op.equalIn, run_underlying ht]
 simp only [binOp]
 simp [Op.equal, Op.maxDepth, hd 9999]
def ClonePost (w : World) (e : TypeId) (size : Nat) (n : Nat) (xs : List Value) (en : Ending) (w' : World) : Prop := ∃ v, en = .returned v ∧ w'.ownsRow w.heap.size e size v n xs ∧ Below w.heap.size w w'
theorem cloneW_any {w : World} {base n : Nat} {v : Value} {xs : List Value} (h : w.ownsRow base 155 3 v n xs) (h1 : ∀ u ∈ xs, u.oneCell' = true) (hn : n ≤ 1000000) :
 Calls Tryz.prog 84 #[v] w (ClonePost w 155 3 n xs) := by
 rcases h.2 with ⟨rfl, rfl⟩ | ⟨g, cap, cur, rfl, hb, hg, hnc, hc, hs, hk⟩
 ·have hx : xs = [] := List.eq_nil_of_length_eq_zero (by have := h.1; simpa using this)
  subst hx
  have hq := fun w => eq_nil Tryz.underlying127 w
  clear h h1
  go_enter Tryz.func84, Tryz.ntmps84
  go_wp2_with fail
  go_ret
  exact ⟨_, rfl, row_nil _ _ _ _, Below.refl _ _⟩
 ·have hE : (w.alloc (.cells #[] 155)).ownsRow w.heap.size 155 3 (.slice (some ⟨w.heap.size, 0, none⟩) 0 0) 0 [] :=
   ⟨rfl, .inr ⟨w.heap.size, 0, #[], rfl, Nat.le_refl _, heap_alloc_new w _, Nat.le_refl _, by unfold maxLen; omega, rfl, rfl⟩⟩
  obtain ⟨v', w', hrun, hown, hb'⟩ := app_row Tryz.underlying127 info_write rfl (by omega) (by omega) hE (own_ext h (Stab.Ext.alloc w (.cells #[] 155))) h1 (by omega) (by simp)
  have HO := Lib.hid hown
  have HB := Lib.hid (((Below.refl w.heap.size w).alloc (Nat.le_refl _) (.cells #[] 155)).trans hb')
  have hq := fun w => ne_nil Tryz.underlying127 ⟨g, 0, none⟩ n cap w
  clear h h1 hg hk hown hb' hE
  go_enter Tryz.func84, Tryz.ntmps84
  go_wp2_with fail
  go_ret
  exact ⟨_, rfl, by simpa using HO.out, HB.out⟩
end Vm
end Go.Proofs.YtnbkhdbligjifaaGreatDoor
namespace Go.Proofs.YtnbkhdbligjifaaGreatDoor
open Go Go.RowKit
namespace Vm
structure PW where
 n : Nat
 st : Nat → PSt
 sus : Nat → Bool
 calls : Int
 left : Int
 dark : Bool
def upd {α : Type} (f : Nat → α) (i : Nat) (x : α) : Nat → α := fun j => if j = i then x else f j
theorem upd_same {α : Type} (f : Nat → α) (i : Nat) (x : α) : upd f i x i = x := by simp [upd]
theorem upd_ne {α : Type} (f : Nat → α) {i j : Nat} (x : α) (h : j ≠ i) : upd f i x j = f j := by simp [upd, h]
def ones (n : Nat) (Bf : Nat → Nat) (sus : Nat → Bool) : List Value := (List.range n).flatMap fun i => [.pointer (some ⟨Bf i, 0, none⟩), .bool (sus i)]
theorem ones_succ (n : Nat) (Bf : Nat → Nat) (sus : Nat → Bool) : ones (n + 1) Bf sus = ones n Bf sus ++ [.pointer (some ⟨Bf n, 0, none⟩), .bool (sus n)] := by simp [ones, List.range_succ]
theorem ones_len (n : Nat) (Bf : Nat → Nat) (sus : Nat → Bool) : (ones n Bf sus).length = n * 2 := by
 induction n with
 | zero => rfl
 | succ n ih => rw [ones_succ, List.length_append, ih]; simp; omega
theorem ones_get (n : Nat) (Bf : Nat → Nat) (sus : Nat → Bool) (i : Nat) (hi : i < n) : (ones n Bf sus)[2 * i]? = some (.pointer (some ⟨Bf i, 0, none⟩)) ∧ (ones n Bf sus)[2 * i + 1]? = some (.bool (sus i)) := by
 induction n with
 | zero => omega
 | succ n ih =>
   rw [ones_succ]
   have hl := ones_len n Bf sus
   by_cases h : i < n
   ·have h2 := ih h
    rw [List.getElem?_append_left (by omega), List.getElem?_append_left (by omega)]
    exact h2
   ·have he : i = n := by omega
    subst he
    rw [List.getElem?_append_right (by omega), List.getElem?_append_right (by omega), hl]
    simp [show 2 * i - i * 2 = 0 by omega, show 2 * i + 1 - i * 2 = 1 by omega]
def wCells (p : PW) (v : Value) : Array Value := #[v, .int .i64 p.calls, .int .i64 p.left, .bool p.dark]
def wOwn (b : Nat) (v : Value) (n : Nat) (Of : Nat → List Nat) : List Nat := b :: (v.ownBlock.toList ++ (List.range n).flatMap Of)
structure WIs (w : World) (b : Nat) (p : PW) (v : Value) (Bf : Nat → Nat) (Of : Nat → List Nat) : Prop where
 blk : Blk w b 74 (wCells p v)
 row : w.ownsRow 0 78 2 v p.n (ones p.n Bf p.sus)
 st : ∀ i, i < p.n → SAt w (Bf i) (p.st i) (Of i)
 apart : ∀ i j, i < p.n → j < p.n → i ≠ j → ∀ k, k ∈ Of i → k ∉ Of j
 off : ∀ i, i < p.n → b ∉ Of i ∧ ∀ g, v.ownBlock = some g → g ∉ Of i
 ne : v.ownBlock ≠ some b
section
variable {w w' : World} {b : Nat} {p : PW} {v : Value} {Bf : Nat → Nat} {Of : Nat → List Nat}
theorem mem_wOwn {n k : Nat} : k ∈ wOwn b v n Of ↔ k = b ∨ v.ownBlock = some k ∨ ∃ i, i < n ∧ k ∈ Of i := by
 simp [wOwn, List.mem_flatMap, Option.mem_toList]
theorem WIs.keep (h : WIs w b p v Bf Of) {O : List Nat} (hf : Fr O w w') (hd : ∀ k, k ∈ wOwn b v p.n Of → k ∉ O) : WIs w' b p v Bf Of where
 blk := hf.blk h.blk (hd _ (mem_wOwn.2 (.inl rfl)))
 row := row_heap h.row fun g hg => hf.block g (row_lt h.row hg) (hd _ (mem_wOwn.2 (.inr (.inl hg))))
 st := fun i hi => (h.st i hi).keep hf fun k hk => hd _ (mem_wOwn.2 (.inr (.inr ⟨i, hi, hk⟩)))
 apart := h.apart
 off := h.off
 ne := h.ne
theorem WIs.lt (h : WIs w b p v Bf Of) : ∀ k, k ∈ wOwn b v p.n Of → k < w.heap.size := by
 intro k hk
 rcases mem_wOwn.1 hk with rfl | hg | ⟨i, hi, hk⟩
 ·exact h.blk.lt
 ·exact row_lt h.row hg
 ·exact (h.st i hi).lt k hk
theorem WIs.head (h : WIs w b p v Bf Of) {p' : PW} (hb : Blk w' b 74 (wCells p' v)) (hf : Fr [b] w w') (hn : p'.n = p.n) (hs : p'.st = p.st) (hu : p'.sus = p.sus) : WIs w' b p' v Bf Of where
 blk := hb
 row := by
  rw [hn, hu]
  exact row_heap h.row fun g hg => hf.block g (row_lt h.row hg) (by simp only [List.mem_singleton]; rintro rfl; exact h.ne hg)
 st := fun i hi => by
  rw [hn] at hi
  rw [hs]
  exact (h.st i hi).keep hf fun k hk => by simp only [List.mem_singleton]; rintro rfl; exact (h.off i hi).1 hk
 apart := by rw [hn]; exact h.apart
 off := by rw [hn]; exact h.off
 ne := h.ne
theorem WIs.store (h : WIs w b p v Bf Of) {i : Nat} (hi : i < p.n) {s' : PSt} {O' : List Nat} (hs : SAt w' (Bf i) s' O') (hf : Fr (Of i) w w') (hk : ∀ k, k ∈ O' → k ∈ Of i ∨ w.heap.size ≤ k) :
 WIs w' b { p with st := upd p.st i s' } v Bf (upd Of i O') where
 blk := hf.blk h.blk (h.off i hi).1
 row := row_heap h.row fun g hg => hf.block g (row_lt h.row hg) ((h.off i hi).2 g hg)
 st := fun j hj => by
  by_cases he : j = i
  ·subst he; simpa [upd] using hs
  ·simp only [upd, if_neg he]
   exact (h.st j hj).keep hf fun k hk' => h.apart j i hj hi he k hk'
 apart := by
  intro j l hj hl hne k hk1 hk2
  by_cases he : j = i
  ·subst he
   rw [upd_same] at hk1
   rw [upd_ne _ _ (Ne.symm hne)] at hk2
   rcases hk k hk1 with h1 | h1
   ·exact h.apart j l hj hl hne k h1 hk2
   ·exact absurd ((h.st l hl).lt k hk2) (by omega)
  ·rw [upd_ne _ _ he] at hk1
   by_cases hl2 : l = i
   ·subst hl2
    rw [upd_same] at hk2
    rcases hk k hk2 with h1 | h1
    ·exact h.apart j l hj hl hne k hk1 h1
    ·exact absurd ((h.st j hj).lt k hk1) (by omega)
   ·rw [upd_ne _ _ hl2] at hk2
    exact h.apart j l hj hl hne k hk1 hk2
 off := by
  intro j hj
  by_cases he : j = i
  ·subst he
   rw [upd_same]
   refine ⟨fun hm => ?_, fun g hg hm => ?_⟩
   ·rcases hk _ hm with h1 | h1
    ·exact (h.off j hj).1 h1
    ·exact absurd h.blk.lt (by omega)
   ·rcases hk _ hm with h1 | h1
    ·exact (h.off j hj).2 g hg h1
    ·exact absurd (row_lt h.row hg) (by omega)
  ·rw [upd_ne _ _ he]; exact h.off j hj
 ne := h.ne
theorem WIs.c0 (h : WIs w b p v Bf Of) : w.cell? ⟨b, 0, none⟩ = some v := h.blk.cell 0
theorem WIs.c1 (h : WIs w b p v Bf Of) : w.cell? ⟨b, 1, none⟩ = some (.int .i64 p.calls) := h.blk.cell 1
theorem WIs.c2 (h : WIs w b p v Bf Of) : w.cell? ⟨b, 2, none⟩ = some (.int .i64 p.left) := h.blk.cell 2
theorem WIs.c3 (h : WIs w b p v Bf Of) : w.cell? ⟨b, 3, none⟩ = some (.bool p.dark) := h.blk.cell 3
theorem WIs.form (h : WIs w b p v Bf Of) : ∃ A cap, v = .slice A p.n cap := row_shape h.row
theorem WIs.rowc (h : WIs w b p v Bf Of) {i : Nat} (hi : i < p.n) : ∃ g cap, v = .slice (some ⟨g, 0, none⟩) p.n cap ∧ w.cell? ⟨g, i * 2, none⟩ = some (.pointer (some ⟨Bf i, 0, none⟩)) ∧ w.cell? ⟨g, i * 2 + 1, none⟩ = some (.bool (p.sus i)) := by
 rcases h.row.2 with ⟨_, h0⟩ | ⟨g, cap, cur, rfl, _, hg, hn, _, hs, ht⟩
 ·omega
 ·have hb : Blk w g 78 cur := hg
  have ho := ones_get p.n Bf p.sus i hi
  rw [Nat.mul_comm 2 i] at ho
  refine ⟨g, cap, rfl, ?_, ?_⟩
  ·rw [hb.cell, ← Array.getElem?_toList, ← ho.1, ← ht, List.getElem?_take_of_lt (by omega)]
  ·rw [hb.cell, ← Array.getElem?_toList, ← ho.2, ← ht, List.getElem?_take_of_lt (by omega)]
end
def WAt (w : World) (b : Nat) (p : PW) (O : List Nat) : Prop := ∃ v Bf Of, WIs w b p v Bf Of ∧ O = wOwn b v p.n Of
theorem WAt.keep {w w' : World} {b : Nat} {p : PW} {O O' : List Nat} (h : WAt w b p O) (hf : Fr O' w w') (hd : ∀ k, k ∈ O → k ∉ O') : WAt w' b p O := by
 obtain ⟨v, Bf, Of, h, rfl⟩ := h
 exact ⟨v, Bf, Of, h.keep hf hd, rfl⟩
theorem WAt.lt {w : World} {b : Nat} {p : PW} {O : List Nat} (h : WAt w b p O) : ∀ k, k ∈ O → k < w.heap.size := by
 obtain ⟨v, Bf, Of, h, rfl⟩ := h
 exact h.lt
def WPost (w : World) (b : Nat) (O : List Nat) (v : Value) (p' : PW) (e : Ending) (w' : World) : Prop := e = .returned v ∧ ∃ O', WAt w' b p' O' ∧ Fr O w w' ∧ ∀ k, k ∈ O' → k ∈ O ∨ w.heap.size ≤ k
def PW.has (p : PW) (i : Int) : Bool := decide (0 ≤ i ∧ i < (p.n : Int))
theorem has_any {w : World} {b : Nat} {p : PW} {O : List Nat} (h : WAt w b p O) (i : Int) :
 Calls Tryz.prog 41 #[.pointer (some ⟨b, 0, none⟩), .int .i64 i] w fun e w' => e = .returned (.bool (p.has i)) ∧ w = w' := by
 obtain ⟨v, Bf, Of, h, rfl⟩ := h
 obtain ⟨A, cap, rfl⟩ := h.form
 have c0 := h.c0
 obtain ⟨n, st, sus, calls, left, dark⟩ := p
 simp only [PW.has] at *
 clear h
 go_enter Tryz.func41, Tryz.ntmps41
 go_wp2_with fail
 all_goals
  go_ret
  refine ⟨?_, rfl⟩
  congr 2
  simp
  try omega
theorem n_any {w : World} {b : Nat} {p : PW} {O : List Nat} (h : WAt w b p O) :
 Calls Tryz.prog 37 #[.pointer (some ⟨b, 0, none⟩)] w fun e w' => e = .returned (.int .i64 p.n) ∧ w = w' := by
 obtain ⟨v, Bf, Of, h, rfl⟩ := h
 obtain ⟨A, cap, rfl⟩ := h.form
 have c0 := h.c0
 clear h
 go_enter Tryz.func37, Tryz.ntmps37
 go_wp2_with fail
 go_ret
 exact ⟨rfl, rfl⟩
theorem calls_any {w : World} {b : Nat} {p : PW} {O : List Nat} (h : WAt w b p O) :
 Calls Tryz.prog 20 #[.pointer (some ⟨b, 0, none⟩)] w fun e w' => e = .returned (.int .i64 p.calls) ∧ w = w' := by
 obtain ⟨v, Bf, Of, h, rfl⟩ := h
 have c1 := h.c1
 clear h
 go_enter Tryz.func20, Tryz.ntmps20
 go_wp2_with fail
 go_ret
 exact ⟨rfl, rfl⟩
def PW.cut (p : PW) (after : Int) : PW := if after < 0 then p else { p with left := after }
end Vm
end Go.Proofs.YtnbkhdbligjifaaGreatDoor
namespace Go.Proofs.YtnbkhdbligjifaaGreatDoor
open Go Go.RowKit
namespace Vm
def PW.stepd (p : PW) : Bool := p.dark || decide (p.left = 0)
def PW.step (p : PW) : PW := { p with calls := wrap64 (p.calls + 1), dark := p.stepd, left := if p.stepd then p.left else if 0 < p.left then wrap64 (p.left - 1) else p.left }
def callV (p : PW) (i : Int) (z v : Value) : Value := if p.has i then if p.stepd then .tuple #[z, .int .i64 56] else v else .tuple #[z, .int .i64 1]
def callP (p : PW) (i : Int) (s' : PSt) : PW := if p.has i then if p.stepd then p.step else { p.step with st := upd p.st i.toNat s' } else p
theorem WIs.dark2 {w : World} {b : Nat} {p : PW} {v : Value} {Bf : Nat → Nat} {Of : Nat → List Nat} (h : WIs w b p v Bf Of) {D : Bool} (hd : p.stepd = D) (hn : D = true ∨ ¬ 0 < p.left) :
 WIs ((w.setCell ⟨b, 1, none⟩ (.int .i64 (wrap64 (p.calls + 1)))).setCell ⟨b, 3, none⟩ (.bool D)) b p.step v Bf Of ∧ Fr [b] w ((w.setCell ⟨b, 1, none⟩ (.int .i64 (wrap64 (p.calls + 1)))).setCell ⟨b, 3, none⟩ (.bool D)) := by
 have f1 := Fr.cell w ⟨b, 1, none⟩ (.int .i64 (wrap64 (p.calls + 1)))
 have f2 := f1.trans (Fr.cell (w.setCell ⟨b, 1, none⟩ (.int .i64 (wrap64 (p.calls + 1)))) ⟨b, 3, none⟩ (.bool D)) (fun k hk _ => hk)
 have he : p.step = { p with calls := wrap64 (p.calls + 1), dark := D } := by
  unfold PW.step
  rw [hd]
  rcases hn with rfl | hn
  ·rfl
  ·cases D
   ·simp [hn]
   ·rfl
 rw [he]
 exact ⟨h.head ((h.blk.set_ 1 _).set_ 3 _) f2 rfl rfl rfl, f2⟩
theorem WIs.dark3 {w : World} {b : Nat} {p : PW} {v : Value} {Bf : Nat → Nat} {Of : Nat → List Nat} (h : WIs w b p v Bf Of) (hd : p.stepd = false) (hn : 0 < p.left) :
 WIs (((w.setCell ⟨b, 1, none⟩ (.int .i64 (wrap64 (p.calls + 1)))).setCell ⟨b, 3, none⟩ (.bool false)).setCell ⟨b, 2, none⟩ (.int .i64 (wrap64 (p.left - 1)))) b p.step v Bf Of ∧ Fr [b] w (((w.setCell ⟨b, 1, none⟩ (.int .i64 (wrap64 (p.calls + 1)))).setCell ⟨b, 3, none⟩ (.bool false)).setCell ⟨b, 2, none⟩ (.int .i64 (wrap64 (p.left - 1)))) := by
 have f1 := Fr.cell w ⟨b, 1, none⟩ (.int .i64 (wrap64 (p.calls + 1)))
 have f2 := f1.trans (Fr.cell (w.setCell ⟨b, 1, none⟩ (.int .i64 (wrap64 (p.calls + 1)))) ⟨b, 3, none⟩ (.bool false)) (fun k hk _ => hk)
 have f3 := f2.trans (Fr.cell ((w.setCell ⟨b, 1, none⟩ (.int .i64 (wrap64 (p.calls + 1)))).setCell ⟨b, 3, none⟩ (.bool false)) ⟨b, 2, none⟩ (.int .i64 (wrap64 (p.left - 1)))) (fun k hk _ => hk)
 have he : p.step = { p with calls := wrap64 (p.calls + 1), dark := false, left := wrap64 (p.left - 1) } := by
  unfold PW.step
  rw [hd]
  simp [hn]
 rw [he]
 exact ⟨h.head (((h.blk.set_ 1 _).set_ 3 _).set_ 2 _) f3 rfl rfl rfl, f3⟩
theorem WIs.done {w w1 w2 : World} {b : Nat} {p : PW} {v : Value} {Bf : Nat → Nat} {Of : Nat → List Nat} {i : Int} {x z : Value} {s' : PSt} {e : Ending} (h1 : WIs w1 b p.step v Bf Of) (hf : Fr [b] w w1) (hi0 : 0 ≤ i) (hi1 : i < (p.n : Int)) (hh : p.has i = true) (hd : p.stepd = false)
 (hp : StPost w1 (Bf i.toNat) (Of i.toNat) x s' e w2) : WPost w b (wOwn b v p.n Of) (callV p i z x) (callP p i s') (.returned x) w2 := by
 obtain ⟨_, O', q1, q2, q3⟩ := hp
 have hn : p.step.n = p.n := rfl
 have hs : p.step.st = p.st := rfl
 have h2 := h1.store (i := i.toNat) (by rw [hn]; omega) q1 q2 q3
 have he : callP p i s' = { p.step with st := upd p.step.st i.toNat s' } := by simp [callP, hh, hd, hs]
 have hv : callV p i z x = x := by simp [callV, hh, hd]
 rw [he, hv]
 refine ⟨rfl, _, ⟨v, Bf, _, h2, rfl⟩, ?_, ?_⟩
 ·refine (hf.sub (O' := wOwn b v p.n Of) fun k hk => ?_).trans q2 fun k hk _ => ?_
  ·simp only [List.mem_singleton] at hk; exact mem_wOwn.2 (.inl hk)
  ·exact mem_wOwn.2 (.inr (.inr ⟨i.toNat, by omega, hk⟩))
 ·intro k hk
  rcases mem_wOwn.1 hk with rfl | hg | ⟨j, hj, hk⟩
  ·exact .inl (mem_wOwn.2 (.inl rfl))
  ·exact .inl (mem_wOwn.2 (.inr (.inl hg)))
  ·by_cases hji : j = i.toNat
   ·subst hji
    rw [upd_same] at hk
    rcases q3 k hk with h | h
    ·exact .inl (mem_wOwn.2 (.inr (.inr ⟨i.toNat, by omega, h⟩)))
    ·exact .inr (Nat.le_trans hf.size h)
   ·rw [upd_ne _ _ hji] at hk
    exact .inl (mem_wOwn.2 (.inr (.inr ⟨j, hj, hk⟩)))
theorem WIs.told {w w1 : World} {b : Nat} {p : PW} {v : Value} {Bf : Nat → Nat} {Of : Nat → List Nat} {i : Int} {x z : Value} {s' : PSt} (h1 : WIs w1 b p.step v Bf Of) (hf : Fr [b] w w1) (hh : p.has i = true) (hd : p.stepd = true) :
 WPost w b (wOwn b v p.n Of) (callV p i z x) (callP p i s') (.returned (.tuple #[z, .int .i64 56])) w1 := by
 have he : callP p i s' = p.step := by simp [callP, hh, hd]
 have hv : callV p i z x = .tuple #[z, .int .i64 56] := by simp [callV, hh, hd]
 rw [he, hv]
 exact ⟨rfl, _, ⟨v, Bf, Of, h1, rfl⟩, hf.sub fun k hk => by simp only [List.mem_singleton] at hk; exact mem_wOwn.2 (.inl hk), fun k hk => .inl hk⟩
theorem callB_any {w : World} {b : Nat} {p : PW} {v : Value} {Bf : Nat → Nat} {Of : Nat → List Nat} (h : WIs w b p v Bf Of) (i : Int) (c1 : Nat) (x1 x2 : Value) (s' : PSt)
 (hdo : ∀ w1, Fr [b] w w1 → SAt w1 (Bf i.toNat) (p.st i.toNat) (Of i.toNat) → Calls Tryz.prog 107 #[.pointer (some ⟨Bf i.toNat, 0, none⟩), .pointer (some ⟨c1, 0, none⟩)] w1 (StPost w1 (Bf i.toNat) (Of i.toNat) (.tuple #[x1, x2]) s')) :
 Calls Tryz.prog 106 #[.pointer (some ⟨b, 0, none⟩), .int .i64 i, .func (.func 107) #[] #[.pointer (some ⟨c1, 0, none⟩)]] w (WPost w b (wOwn b v p.n Of) (callV p i (.bool false) (.tuple #[x1, x2])) (callP p i s')) := by
 have HHAS := Lib.hid (has_any ⟨v, Bf, Of, h, rfl⟩ i)
 cases hh : p.has i with
 | false =>
   have HE := Lib.hid (show callV p i (.bool false) (.tuple #[x1, x2]) = .tuple #[.bool false, .int .i64 1] ∧ callP p i s' = p from ⟨by simp [callV, hh], by simp [callP, hh]⟩)
   have H := Lib.hid h
   rw [hh] at HHAS
   clear h hdo
   go_enter Tryz.func106, Tryz.ntmps106
   go_wp2_with (go_at_call 41; with_reducible refine HHAS.out.mono ?_)
   rintro e w1 ⟨rfl, rfl⟩
   go_wp2_with fail
   go_ret2
   rw [HE.out.1, HE.out.2]
   exact ⟨rfl, _, ⟨v, Bf, Of, H.out, rfl⟩, Fr.refl _ _, fun k hk => .inl hk⟩
 | true =>
   have hi : 0 ≤ i ∧ i < (p.n : Int) := of_decide_eq_true hh
   obtain ⟨hi0, hi1⟩ := hi
   obtain ⟨g, cap, rfl, hc1, -⟩ := h.rowc (i := i.toNat) (by omega)
   have c0 := h.c0
   have c1' := h.c1
   have c2 := h.c2
   have c3 := h.c3
   have z1 := h.blk.frozen 1
   have z2 := h.blk.frozen 2
   have z3 := h.blk.frozen 3
   have hgb : g ≠ b := fun he => h.ne (by rw [he]; rfl)
   have HH := Lib.hid hh
   have H := Lib.hid h
   have HDO := Lib.hid hdo
   rw [hh] at HHAS
   clear h hdo hh
   cases hd : p.dark with
   | true =>
     rw [hd] at c3
     obtain ⟨h1, hf1⟩ := H.out.dark2 (D := true) (by simp [PW.stepd, hd]) (.inl rfl)
     have HX := Lib.hid (h1.told (i := i) (z := .bool false) (x := .tuple #[x1, x2]) (s' := s') hf1 HH.out (by simp [PW.stepd, hd]))
     clear h1 hf1
     go_enter Tryz.func106, Tryz.ntmps106
     go_wp2_with (go_at_call 41; with_reducible refine HHAS.out.mono ?_)
     intro e w1 hq
     obtain ⟨rfl, rfl⟩ := hq
     go_wp2_with fail
     go_ret2
     exact HX.out
   | false =>
     rw [hd] at c3
     by_cases hl : p.left = 0
     ·have hle : (p.left == 0) = true := by simp [hl]
      obtain ⟨h1, hf1⟩ := H.out.dark2 (D := true) (by simp [PW.stepd, hl]) (.inl rfl)
      have HX := Lib.hid (h1.told (i := i) (z := .bool false) (x := .tuple #[x1, x2]) (s' := s') hf1 HH.out (by simp [PW.stepd, hl]))
      clear h1 hf1
      go_enter Tryz.func106, Tryz.ntmps106
      go_wp2_with (go_at_call 41; with_reducible refine HHAS.out.mono ?_)
      intro e w1 hq
      obtain ⟨rfl, rfl⟩ := hq
      go_wp2_with fail
      go_ret2
      exact HX.out
     ·have hle : (p.left == 0) = false := by simp [hl]
      by_cases hp : 0 < p.left
      ·obtain ⟨h1, hf1⟩ := H.out.dark3 (by simp [PW.stepd, hd, hl]) hp
       have HX := Lib.hid (fun x e w2 hq => h1.done (z := .bool false) (x := x) (s' := s') (w2 := w2) (e := e) hf1 hi0 hi1 HH.out (by simp [PW.stepd, hd, hl]) hq)
       have HQ := Lib.hid (HDO.out _ hf1 (h1.st i.toNat (by show i.toNat < p.n; omega)))
       clear h1 hf1
       go_enter Tryz.func106, Tryz.ntmps106
       go_wp2_with (go_at_call 41; with_reducible refine HHAS.out.mono ?_)
       intro e w1 hq
       obtain ⟨rfl, rfl⟩ := hq
       go_wp2_with (go_at_call 107; with_reducible refine HQ.out.mono ?_)
       intro e w9 hq
       have HY := Lib.hid (HX.out _ _ _ hq)
       obtain ⟨rfl, -⟩ := hq
       go_wp2_with fail
       go_ret2
       exact HY.out
      ·obtain ⟨h1, hf1⟩ := H.out.dark2 (D := false) (by simp [PW.stepd, hd, hl]) (.inr hp)
       have HX := Lib.hid (fun x e w2 hq => h1.done (z := .bool false) (x := x) (s' := s') (w2 := w2) (e := e) hf1 hi0 hi1 HH.out (by simp [PW.stepd, hd, hl]) hq)
       have HQ := Lib.hid (HDO.out _ hf1 (h1.st i.toNat (by show i.toNat < p.n; omega)))
       clear h1 hf1
       have hp2 : p.left < 0 := by omega
       clear hp
       go_enter Tryz.func106, Tryz.ntmps106
       go_wp2_with (go_at_call 41; with_reducible refine HHAS.out.mono ?_)
       intro e w1 hq
       obtain ⟨rfl, rfl⟩ := hq
       go_wp2_with (go_at_call 107; with_reducible refine HQ.out.mono ?_)
       intro e w9 hq
       have HY := Lib.hid (HX.out _ _ _ hq)
       obtain ⟨rfl, -⟩ := hq
       go_wp2_with fail
       go_ret2
       exact HY.out
theorem callS_any {w : World} {b : Nat} {p : PW} {v : Value} {Bf : Nat → Nat} {Of : Nat → List Nat} (h : WIs w b p v Bf Of) (i : Int) (c1 : Nat) (x1 x2 : Value) (s' : PSt)
 (hdo : ∀ w1, Fr [b] w w1 → SAt w1 (Bf i.toNat) (p.st i.toNat) (Of i.toNat) → Calls Tryz.prog 121 #[.pointer (some ⟨Bf i.toNat, 0, none⟩), .pointer (some ⟨c1, 0, none⟩)] w1 (StPost w1 (Bf i.toNat) (Of i.toNat) (.tuple #[x1, x2]) s')) :
 Calls Tryz.prog 120 #[.pointer (some ⟨b, 0, none⟩), .int .i64 i, .func (.func 121) #[] #[.pointer (some ⟨c1, 0, none⟩)]] w (WPost w b (wOwn b v p.n Of) (callV p i (.string ⟨#[]⟩) (.tuple #[x1, x2])) (callP p i s')) := by
 have HHAS := Lib.hid (has_any ⟨v, Bf, Of, h, rfl⟩ i)
 cases hh : p.has i with
 | false =>
   have HE := Lib.hid (show callV p i (.string ⟨#[]⟩) (.tuple #[x1, x2]) = .tuple #[.string ⟨#[]⟩, .int .i64 1] ∧ callP p i s' = p from ⟨by simp [callV, hh], by simp [callP, hh]⟩)
   have H := Lib.hid h
   rw [hh] at HHAS
   clear h hdo
   go_enter Tryz.func120, Tryz.ntmps120
   go_wp2_with (go_at_call 41; with_reducible refine HHAS.out.mono ?_)
   rintro e w1 ⟨rfl, rfl⟩
   go_wp2_with fail
   go_ret2
   rw [HE.out.1, HE.out.2]
   exact ⟨rfl, _, ⟨v, Bf, Of, H.out, rfl⟩, Fr.refl _ _, fun k hk => .inl hk⟩
 | true =>
   have hi : 0 ≤ i ∧ i < (p.n : Int) := of_decide_eq_true hh
   obtain ⟨hi0, hi1⟩ := hi
   obtain ⟨g, cap, rfl, hc1, -⟩ := h.rowc (i := i.toNat) (by omega)
   have c0 := h.c0
   have c1' := h.c1
   have c2 := h.c2
   have c3 := h.c3
   have z1 := h.blk.frozen 1
   have z2 := h.blk.frozen 2
   have z3 := h.blk.frozen 3
   have hgb : g ≠ b := fun he => h.ne (by rw [he]; rfl)
   have HH := Lib.hid hh
   have H := Lib.hid h
   have HDO := Lib.hid hdo
   rw [hh] at HHAS
   clear h hdo hh
   cases hd : p.dark with
   | true =>
     rw [hd] at c3
     obtain ⟨h1, hf1⟩ := H.out.dark2 (D := true) (by simp [PW.stepd, hd]) (.inl rfl)
     have HX := Lib.hid (h1.told (i := i) (z := .string ⟨#[]⟩) (x := .tuple #[x1, x2]) (s' := s') hf1 HH.out (by simp [PW.stepd, hd]))
     clear h1 hf1
     go_enter Tryz.func120, Tryz.ntmps120
     go_wp2_with (go_at_call 41; with_reducible refine HHAS.out.mono ?_)
     intro e w1 hq
     obtain ⟨rfl, rfl⟩ := hq
     go_wp2_with fail
     go_ret2
     exact HX.out
   | false =>
     rw [hd] at c3
     by_cases hl : p.left = 0
     ·have hle : (p.left == 0) = true := by simp [hl]
      obtain ⟨h1, hf1⟩ := H.out.dark2 (D := true) (by simp [PW.stepd, hl]) (.inl rfl)
      have HX := Lib.hid (h1.told (i := i) (z := .string ⟨#[]⟩) (x := .tuple #[x1, x2]) (s' := s') hf1 HH.out (by simp [PW.stepd, hl]))
      clear h1 hf1
      go_enter Tryz.func120, Tryz.ntmps120
      go_wp2_with (go_at_call 41; with_reducible refine HHAS.out.mono ?_)
      intro e w1 hq
      obtain ⟨rfl, rfl⟩ := hq
      go_wp2_with fail
      go_ret2
      exact HX.out
     ·have hle : (p.left == 0) = false := by simp [hl]
      by_cases hp : 0 < p.left
      ·obtain ⟨h1, hf1⟩ := H.out.dark3 (by simp [PW.stepd, hd, hl]) hp
       have HX := Lib.hid (fun x e w2 hq => h1.done (z := .string ⟨#[]⟩) (x := x) (s' := s') (w2 := w2) (e := e) hf1 hi0 hi1 HH.out (by simp [PW.stepd, hd, hl]) hq)
       have HQ := Lib.hid (HDO.out _ hf1 (h1.st i.toNat (by show i.toNat < p.n; omega)))
       clear h1 hf1
       go_enter Tryz.func120, Tryz.ntmps120
       go_wp2_with (go_at_call 41; with_reducible refine HHAS.out.mono ?_)
       intro e w1 hq
       obtain ⟨rfl, rfl⟩ := hq
       go_wp2_with (go_at_call 121; with_reducible refine HQ.out.mono ?_)
       intro e w9 hq
       have HY := Lib.hid (HX.out _ _ _ hq)
       obtain ⟨rfl, -⟩ := hq
       go_wp2_with fail
       go_ret2
       exact HY.out
      ·obtain ⟨h1, hf1⟩ := H.out.dark2 (D := false) (by simp [PW.stepd, hd, hl]) (.inr hp)
       have HX := Lib.hid (fun x e w2 hq => h1.done (z := .string ⟨#[]⟩) (x := x) (s' := s') (w2 := w2) (e := e) hf1 hi0 hi1 HH.out (by simp [PW.stepd, hd, hl]) hq)
       have HQ := Lib.hid (HDO.out _ hf1 (h1.st i.toNat (by show i.toNat < p.n; omega)))
       clear h1 hf1
       have hp2 : p.left < 0 := by omega
       clear hp
       go_enter Tryz.func120, Tryz.ntmps120
       go_wp2_with (go_at_call 41; with_reducible refine HHAS.out.mono ?_)
       intro e w1 hq
       obtain ⟨rfl, rfl⟩ := hq
       go_wp2_with (go_at_call 121; with_reducible refine HQ.out.mono ?_)
       intro e w9 hq
       have HY := Lib.hid (HX.out _ _ _ hq)
       obtain ⟨rfl, -⟩ := hq
       go_wp2_with fail
       go_ret2
       exact HY.out
end Vm
end Go.Proofs.YtnbkhdbligjifaaGreatDoor
