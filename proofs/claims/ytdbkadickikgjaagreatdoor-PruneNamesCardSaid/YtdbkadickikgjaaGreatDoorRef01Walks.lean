/-
 The walks of the document's package strongboxref01: digits, times, above.
-/
import Derived.Test.YtdbkadickikgjaaGreatDoorShaRoots
import Derived.Test.YtdbkadickikgjaaGreatDoorRef01Plain
namespace Go.Proofs.YtdbkadickikgjaaGreatDoor
open Go.RowKit
namespace R1
def u64s (l : List Nat) : Array Value := (l.map fun (n : Nat) => Value.int .u64 (n : Int)).toArray
theorem u64s_get (l : List Nat) (i : Nat) (h : i < l.length) : (u64s l)[i]? = some (.int .u64 ((l.getD i 0 : Nat) : Int)) := by
 simp [u64s, List.getD, h]
theorem u64s_set (l : List Nat) (i n : Nat) : (u64s l).setIfInBounds i (.int .u64 (n : Int)) = u64s (l.set i n) := by
 apply Array.toList_inj.1
 simp [u64s]
theorem u64s_zero (n : Nat) : Array.replicate n (Value.int .u64 0) = u64s (List.replicate n 0) := by
 apply Array.toList_inj.1
 simp [u64s]
def URow (B : Nat) (v : Value) (l : List Nat) (w : World) : Prop := ∃ g c, v = .slice (some ⟨g, 0, none⟩) l.length c ∧ B ≤ g ∧ Blk w g 301 (u64s l)
theorem URow.below {B B' : Nat} {v : Value} {l : List Nat} {w w' : World} (h : URow B v l w) (hb : Below B' w w') (hB : w.heap.size ≤ B') : URow B v l w' := by
 obtain ⟨g, c, h1, h2, h3⟩ := h
 exact ⟨g, c, h1, h2, h3.below hb (Nat.lt_of_lt_of_le h3.lt hB)⟩
theorem URow.mono {B B' : Nat} {v : Value} {l : List Nat} {w : World} (h : URow B v l w) (hB : B' ≤ B) : URow B' v l w := by
 obtain ⟨g, c, h1, h2, h3⟩ := h
 exact ⟨g, c, h1, Nat.le_trans hB h2, h3⟩
set_option maxRecDepth 100000 in
set_option maxHeartbeats 1000000 in
theorem digits_any (n : Nat) (_hn : n < 18446744073709551616) (w : World) :
   Calls Tryz.prog 372 #[.int .u64 (n : Int)] w fun e w' => ∃ v, e = .returned v ∧ URow w.heap.size v (digs n) w' ∧ Below w.heap.size w w' := by
 go_enter Tryz.func372, Tryz.ntmps372
 go_wp2_with fail
 go_ret
 refine ⟨_, rfl, ⟨_, 4, rfl, Nat.le_refl _, ?_⟩, (Below.refl _ _).alloc (Nat.le_refl _) _⟩
 have e : #[Value.int IntKind.u64 ((n : Int) % 65536), Value.int IntKind.u64 ((n : Int) / 65536 % 65536), Value.int IntKind.u64 ((n : Int) / 65536 / 65536 % 65536), Value.int IntKind.u64 ((n : Int) / 65536 / 65536 / 65536)] = u64s (digs n) := by
   apply Array.toList_inj.1
   simp [u64s, digs]
 rw [← e]
 exact Blk.new _ _ _
theorem tIn_len (ai : Nat) (b : List Nat) (i : Nat) (out : List Nat) (k : Nat) : (tIn ai b i out k).1.length = out.length := by
 induction k with
 | zero => rfl
 | succ k ih => rw [tIn]; simpa using ih
theorem tOut_len (a b : List Nat) (i : Nat) : (tOut a b i).length = a.length + b.length := by
 induction i with
 | zero => simp [tOut]
 | succ i ih => rw [tOut, List.length_set, tIn_len, ih]
theorem wrap64 (x : Nat) : IntKind.u64.wrap (x : Int) = ((x % 18446744073709551616 : Nat) : Int) := by rw [IntKind.wrap_u64]; omega
theorem wrapV (x y z c : Nat) : IntKind.u64.wrap (IntKind.u64.wrap ((z : Int) + IntKind.u64.wrap ((x : Int) * (y : Int))) + (c : Int)) = (((z + x * y + c) % 18446744073709551616 : Nat) : Int) := by
 simp only [IntKind.wrap_u64]
 rw [← Int.natCast_mul]
 generalize x * y = p
 omega
set_option maxRecDepth 100000 in
set_option maxHeartbeats 2000000 in
theorem times_any (a b : List Nat) (va vb : Value) (B : Nat) (w : World) (ha : URow B va a w) (hb : URow B vb b w) (hla : a.length ≤ 1000) (hlb : b.length ≤ 1000) :
   Calls Tryz.prog 373 #[va, vb] w fun e w' => ∃ v, e = .returned v ∧ URow w.heap.size v (timesL a b) w' ∧ Below w.heap.size w w' := by
 obtain ⟨ga, ca, rfl, _, hga⟩ := ha
 obtain ⟨gb, cb, rfl, _, hgb⟩ := hb
 have hgal := hga.lt
 have hgbl := hgb.lt
 have hmk := run_mk (P := Tryz.prog) (t := 299) (e := 301) (z := .int .u64 0) (bytes := 8) Tryz.underlying299 Sha.info_u64 rfl (a.length + b.length) (by omega) (by omega) w
 rw [u64s_zero] at hmk
 have hcast : ((a.length + b.length : Nat) : Int) = (a.length : Int) + (b.length : Int) := by omega
 rw [hcast] at hmk
 have t0 : ¬ ((a.length : Int) + (b.length : Int) < 0) := by omega
 go_enter Tryz.func373, Tryz.ntmps373
 go_wp2_with fail
 have hr0 : Blk (w.alloc (Obj.cells (u64s (List.replicate (a.length + b.length) 0)) 301)) w.heap.size 301 (u64s (tOut a b 0)) := Blk.new _ _ _
 have hb0 : Below w.heap.size w (w.alloc (Obj.cells (u64s (List.replicate (a.length + b.length) 0)) 301)) := (Below.refl _ _).alloc (Nat.le_refl _) _
 generalize w.alloc (Obj.cells (u64s (List.replicate (a.length + b.length) 0)) 301) = w1 at *
 clear hmk hcast
 go_loopw [6] (fun i wr => ∃ k : Nat, k ≤ a.length ∧ i = .int .i64 k ∧ Blk wr w.heap.size 301 (u64s (tOut a b k)) ∧ Below w.heap.size w wr) (fun i _ => a.length - (intOf i).toNat)
 case atStart => exact ⟨0, by omega, rfl, hr0, hb0⟩
 case round =>
   obtain ⟨i, hi, rfl, hrow, hbl⟩ := hrel
   clear hr0 hb0
   by_cases hia : i < a.length
   · have d1 : (i : Int) < (a.length : Int) := by omega
     go_wp2_with fail
     go_loopw [7, 8] (fun c k wr => ∃ m : Nat, m ≤ b.length ∧ k = .int .i64 m ∧ c = .int .u64 ((tIn (a.getD i 0) b i (tOut a b i) m).2 : Nat) ∧ Blk wr w.heap.size 301 (u64s (tIn (a.getD i 0) b i (tOut a b i) m).1) ∧ Below w.heap.size w wr) (fun _ k _ => b.length - (intOf k).toNat)
     case atStart => exact ⟨0, by omega, rfl, rfl, hrow, hbl⟩
     case round =>
       obtain ⟨m, hm, rfl, rfl, hrow1, hbl1⟩ := hrel
       have hlen := tIn_len (a.getD i 0) b i (tOut a b i) m
       rw [tOut_len] at hlen
       by_cases hmb : m < b.length
       · have d2 : (m : Int) < (b.length : Int) := by omega
         have c1 := hrow1.cell (i + m)
         rw [u64s_get _ (i + m) (by omega)] at c1
         have f1 := hrow1.frozen (i + m)
         have c2 : wr.cell? ⟨ga, i, none⟩ = some (.int .u64 ((a.getD i 0 : Nat) : Int)) := by
           rw [World.cell?_of_block (a := ⟨ga, i, none⟩) (hbl1.block ga hgal), hga.cell i, u64s_get a i hia]
         have c3 : wr.cell? ⟨gb, m, none⟩ = some (.int .u64 ((b.getD m 0 : Nat) : Int)) := by
           rw [World.cell?_of_block (a := ⟨gb, m, none⟩) (hbl1.block gb hgbl), hgb.cell m, u64s_get b m hmb]
         have hT : tIn (a.getD i 0) b i (tOut a b i) (m + 1) = (((tIn (a.getD i 0) b i (tOut a b i) m).1.set (i + m) (((tIn (a.getD i 0) b i (tOut a b i) m).1.getD (i + m) 0 + a.getD i 0 * b.getD m 0 + (tIn (a.getD i 0) b i (tOut a b i) m).2) % 18446744073709551616 % 65536)),
             ((tIn (a.getD i 0) b i (tOut a b i) m).1.getD (i + m) 0 + a.getD i 0 * b.getD m 0 + (tIn (a.getD i 0) b i (tOut a b i) m).2) % 18446744073709551616 / 65536) := rfl
         have HT := Lib.hid hT
         have HR := Lib.hid hrow1.drew
         have e1 : (i : Int) + (m : Int) < (a.length : Int) + (b.length : Int) := by omega
         have e2 : (0 : Int) ≤ (i : Int) + (m : Int) := by omega
         have e3 : (m : Int) < (b.length : Int) := by omega
         have hbd := hbl1.drew
         clear hT hrow1 hbl1
         generalize tIn (a.getD i 0) b i (tOut a b i) m = R at *
         obtain ⟨o, c⟩ := R
         generalize a.getD i 0 = x at *
         generalize b.getD m 0 = y at *
         generalize hz : o.getD (i + m) 0 = z at *
         simp only at *
         have hV := wrapV x y z c
         obtain ⟨V, hVd⟩ : ∃ V, V = (z + x * y + c) % 18446744073709551616 := ⟨_, rfl⟩
         rw [← hVd] at hV
         have HVd := Lib.hid hVd
         clear hVd
         go_wp2_with fail
         go_region
         go_wp2_with fail
         go_roundw
         case rel =>
           refine ⟨m + 1, by omega, by go_num, ?_, ?_, hbd.setCell (p := ⟨w.heap.size, i + m, none⟩) (Nat.le_refl _) _⟩
           · rw [HT.out, ← HVd.out]
             have hv1 := HVd.out
             rw [show (V : Int) / 65536 = ((V / 65536 : Nat) : Int) by omega, wrap64, Nat.mod_eq_of_lt (by omega)]
           · rw [HT.out, ← HVd.out, ← u64s_set]
             exact HR.out.set_ _ _
         case measure => simp [intOf]; omega
       · have hmE : m = b.length := by omega
         subst hmE
         have c1 := hrow1.cell (i + b.length)
         rw [u64s_get _ (i + b.length) (by omega)] at c1
         have f1 := hrow1.frozen (i + b.length)
         have hT : tOut a b (i + 1) = (tIn (a.getD i 0) b i (tOut a b i) b.length).1.set (i + b.length) (((tIn (a.getD i 0) b i (tOut a b i) b.length).1.getD (i + b.length) 0 + (tIn (a.getD i 0) b i (tOut a b i) b.length).2) % 18446744073709551616) := rfl
         have HT := Lib.hid hT
         have HR := Lib.hid hrow1
         have e1 : (i : Int) + (b.length : Int) < (a.length : Int) + (b.length : Int) := by omega
         have e2 : (0 : Int) ≤ (i : Int) + (b.length : Int) := by omega
         have hbd := hbl1
         clear hT hrow1 hbl1
         generalize tIn (a.getD i 0) b i (tOut a b i) b.length = R at *
         obtain ⟨o, c⟩ := R
         generalize a.getD i 0 = x at *
         generalize hz : o.getD (i + b.length) 0 = z at *
         simp only at *
         have hV : IntKind.u64.wrap ((z : Int) + (c : Int)) = (((z + c) % 18446744073709551616 : Nat) : Int) := by rw [IntKind.wrap_u64]; omega
         have HV := Lib.hid hV
         clear hV
         go_wp2_with fail
         go_roundw
         case rel =>
           refine ⟨i + 1, by omega, by go_num, ?_, hbd.setCell (p := ⟨w.heap.size, i + b.length, none⟩) (Nat.le_refl _) _⟩
           rw [HT.out, HV.out, ← u64s_set]
           exact HR.out.set_ _ _
         case measure => simp [intOf]; omega
   · have hiE : i = a.length := by omega
     subst hiE
     have hl : (timesL a b).length = a.length + b.length := tOut_len a b a.length
     have HR := Lib.hid (show Blk wr w.heap.size 301 (u64s (timesL a b)) from hrow)
     clear hrow
     go_wp2_with fail
     go_ret
     exact ⟨.slice (some ⟨w.heap.size, 0, none⟩) (a.length + b.length) (a.length + b.length), rfl, ⟨w.heap.size, a.length + b.length, by rw [hl], Nat.le_refl _, HR.out⟩, hbl⟩
end R1
end Go.Proofs.YtdbkadickikgjaaGreatDoor
