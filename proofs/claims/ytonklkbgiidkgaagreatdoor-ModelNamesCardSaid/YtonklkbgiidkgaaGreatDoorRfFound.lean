/-
 An oracle of the interpreter: code.found, whose last loop goes over a map in whatever order.
-/
import Derived.Test.YtonklkbgiidkgaaGreatDoorRfD
import Derived.Test.YtonklkbgiidkgaaGreatDoorProg
import Derived.WalkKit
import Derived.Laws.IdiomRangeMap
import Derived.Maps.RangeRun
import Derived.Lib.Hide
import Derived.Lib.FrozenHead2
import Derived.Lib.OthersKept
namespace Go.Proofs.YtonklkbgiidkgaaGreatDoor.Refl
open Go Go.RowKit Go.ChangeMaps
namespace Abs
set_option linter.unusedVariables false
set_option linter.unusedSimpArgs false
noncomputable def entryF (c : T AVal) (d : AVal) (o len cl : Nat) (e : AVal × AVal × Nat) : Bool := match e with
 | (.int .i64 (.ofNat i), .agg [.str n x], born) => match and (Nat.ble (Nat.succ i) len) (Nat.ble (Nat.succ born) cl) with
   | true => match getCell c d (Nat.add o i) with
     | .str m y => and (Nat.beq n m) (Nat.beq x y)
     | _ => false
   | false => false
 | _ => false
noncomputable def entriesF (c : T AVal) (d : AVal) (o len cl : Nat) : List Nat → List (AVal × AVal × Nat) → Bool
 | _, [] => true
 | seen, e :: es => and (entryF c d o len cl e) (and (!(memB e.2.2 seen)) (entriesF c d o len cl (e.2.2 :: seen) es))
noncomputable def foundO (call : Nat → List AVal → AState → KV Unit → Option Unit) (args : List AVal) (S : AState) (K : KV Unit) : Option Unit := match args with
 | [.agg [.int .i64 a1, .int .i64 a2], hv, ps] => call 359 [.agg [.int .i64 a1, .int .i64 a2], hv, ps] S fun v S => match v with
   | .tup [_, .int .i64 (.ofNat (x + 1))] => K (.tup [.str 0 0, .slc0, .int .i64 (.ofNat (x + 1))]) S
   | .tup [.map b, .int .i64 (.ofNat 0)] => call 360 [.agg [.int .i64 a1, .int .i64 a2], hv, ps] S fun v S => match v with
     | .tup [_, .bool false] => K (.tup [.str 0 0, .slc0, .int .i64 (.ofNat 4)]) S
     | .tup [l, .bool true] => call 361 [.agg [.int .i64 a1, .int .i64 a2], l] S fun v S => match v with
       | .tup [_, .bool false] => K (.tup [.str 0 0, .slc0, .int .i64 (.ofNat 4)]) S
       | .tup [.str sn sx, .bool true] => call 325 [.agg [.int .i64 a1, .int .i64 a2], l] S fun v S => match v with
         | .slc bw ow len 1 => match S.heap.get b with
           | some (.map es cl) => match S.heap.get bw with
             | some (.cells c d k _ _) => match and (Nat.ble (Nat.add ow len) k) (entriesF c d ow len cl [] es) with
               | true => K (.tup [.str sn sx, .slc bw ow len 1, .int .i64 (.ofNat 0)]) S
               | false => none
             | _ => none
           | _ => none
         | _ => none
       | _ => none
     | _ => none
   | _ => none
 | _ => none
structure Ready (w : World) (B : Nat) (es : Array MapEntry) (cl : Nat) (Bw p len : Nat) : Prop where
 map : w.heap[B]? = some (.map es cl)
 born : ∀ e ∈ es.toList, e.born < cl
 nodup : (es.toList.map (·.born)).Nodup
 entry : ∀ e ∈ es.toList, ∃ (i : Nat) (s : ByteArray), e.key = .int .i64 (i : Int) ∧ e.val = .agg #[.string s] ∧ i < len ∧ w.cell? ⟨Bw, p + i, none⟩ = some (.string s)
theorem lt_cell {w : World} {b o : Nat} {v : Value} (h : w.cell? ⟨b, o, none⟩ = some v) : b < w.heap.size := by
 rcases Nat.lt_or_ge b w.heap.size with h1 | h1
 · exact h1
 · have : w.heap[b]? = none := Array.getElem?_eq_none h1
   simp [World.cell?, this] at h
def Box (bx : Nat) (a1 a2 : Int) (w : World) : Prop := w.heap[bx]? = some (.cells #[.int .i64 a1, .int .i64 a2] 28 (0, 0))
theorem Box.cells {bx : Nat} {a1 a2 : Int} {w : World} (h : Box bx a1 a2 w) : w.cell? ⟨bx, 0, none⟩ = some (.int .i64 a1) ∧ w.cell? ⟨bx, 1, none⟩ = some (.int .i64 a2) := ⟨cell_at h rfl, cell_at h rfl⟩
set_option maxRecDepth 100000 in
set_option maxHeartbeats 4000000 in
theorem found_walk {a1 a2 : Int} {hv ps : Value} {w : World} {Q : Value → World → Prop}
   (h1 : Calls Tryz.prog 359 #[.agg #[.int .i64 a1, .int .i64 a2], hv, ps] (w.alloc (.cells #[.int .i64 a1, .int .i64 a2] 28)) fun e w1 => ∃ B, e = .returned (.tuple #[.map (some B), .int .i64 0]) ∧ Box w.heap.size a1 a2 w1 ∧
     Calls Tryz.prog 360 #[.agg #[.int .i64 a1, .int .i64 a2], hv, ps] w1 fun e w2 => ∃ lv, e = .returned (.tuple #[lv, .bool true]) ∧ Box w.heap.size a1 a2 w2 ∧
     Calls Tryz.prog 361 #[.agg #[.int .i64 a1, .int .i64 a2], lv] w2 fun e w3 => ∃ s, e = .returned (.tuple #[.string s, .bool true]) ∧ Box w.heap.size a1 a2 w3 ∧
     Calls Tryz.prog 325 #[.agg #[.int .i64 a1, .int .i64 a2], lv] w3 fun e w4 => ∃ Bw p len cap es cl, e = .returned (.slice (some ⟨Bw, p, none⟩) len cap) ∧ Ready w4 B es cl Bw p len ∧
       ∀ w', Below w4.heap.size w4 w' → Q (.tuple #[.string s, .slice (some ⟨Bw, p, none⟩) len cap, .int .i64 0]) w') :
   Calls Tryz.prog 285 #[.agg #[.int .i64 a1, .int .i64 a2], hv, ps] w fun e w' => ∃ v, e = .returned v ∧ Q v w' := by
 go_enter Tryz.func285, Tryz.ntmps285
 generalize hbx : w.heap.size = bx at h1
 go_wp2_with (go_at_call 359; refine h1.mono ?_)
 rintro e w1 ⟨B, rfl, hb1, h2⟩
 obtain ⟨c0, c1⟩ := hb1.cells
 go_wp2_with (go_at_call 360; refine h2.mono ?_)
 rintro e w2 ⟨lv, rfl, hb2, h3⟩
 obtain ⟨d0, d1⟩ := hb2.cells
 go_wp2_with (go_at_call 361; refine h3.mono ?_)
 rintro e w3 ⟨s, rfl, hb3, h4⟩
 obtain ⟨e0, e1⟩ := hb3.cells
 go_wp2_with (go_at_call 325; refine h4.mono ?_)
 rintro e w4 ⟨Bw, p, len, cap, es, cl, rfl, hR, hQ⟩
 have hrg := run_range_map (P := Tryz.prog) w4 458 3 465 B es cl Tryz.underlying458 hR.map
 obtain ⟨it, hit⟩ : ∃ it, w4.heap.size = it := ⟨_, rfl⟩
 rw [hit] at hrg
 clear h1 h2 h3 h4 hb1 hb2 hb3 c0 c1 d0 d1 e0 e1
 go_wp2
 go_loopw [] (fun wr => ∃ seen : Array Nat, wr.heap[it]? = some (.mapIter (some B) cl seen cl) ∧ Below w4.heap.size w4 wr) (fun wr => (leftOf es (wr.iterSeen it)).size)
 case atStart =>
   refine ⟨#[], ?_, (Below.refl _ _).alloc (Nat.le_refl _) _⟩
   rw [← hit]
   exact Go.heap_alloc_new ..
 case round =>
   obtain ⟨seen, hr, hbel⟩ := hrel
   have hBlt : B < w4.heap.size := (Array.getElem?_eq_some_iff.1 hR.map).1
   have hbr : ∀ k, k < w4.heap.size → wr.heap[k]? = w4.heap[k]? := by
     obtain ⟨_, _, _, _, h5⟩ := hbel
     exact h5
   have hbB := (hbr B hBlt).trans hR.map
   rcases run_next_at (P := Tryz.prog) wr 0 it B cl cl seen es cl hr hbB hR.born (Nat.le_refl _) with ⟨h0, hrun⟩ | ⟨e, he, wa, hal, hrun⟩
   · have hnx : ∀ ty, (Instr.next (.pointer (some ⟨it, 0, none⟩)) false ty).run Tryz.prog wr = _ := fun _ => hrun
     go_wp2
     go_ret3
     exact ⟨_, rfl, hQ _ hbel⟩
   · have hem := mem_left he
     obtain ⟨i, sv, hkey, hval, hil, hcell⟩ := hR.entry e hem.1
     rw [hkey, hval] at hrun
     have hnx : ∀ ty, (Instr.next (.pointer (some ⟨it, 0, none⟩)) false ty).run Tryz.prog wr = _ := fun _ => hrun
     have hah : wa.heap = wr.heap := by rcases hal with rfl | rfl <;> rfl
     have hitlt : it < wa.heap.size := by
       rw [hah]
       exact (Array.getElem?_eq_some_iff.1 hr).1
     have hra : wa.heap[it]? = some (.mapIter (some B) cl seen cl) := by rw [hah]; exact hr
     obtain ⟨wn, hwn⟩ : ∃ wn, setBlock wa it (.mapIter (some B) cl (seen.push e.born) cl) = wn := ⟨_, rfl⟩
     rw [hwn] at hrun
     have hnr : wn.heap[it]? = some (.mapIter (some B) cl (seen.push e.born) cl) := by
       rw [← hwn]
       show (wa.heap.setIfInBounds it _)[it]? = _
       rw [Array.getElem?_setIfInBounds_self, if_pos hitlt]
     have hnk : ∀ k, k < w4.heap.size → wn.heap[k]? = w4.heap[k]? := by
       intro k hk
       rw [← hwn]
       show (wa.heap.setIfInBounds it _)[k]? = _
       rw [Array.getElem?_setIfInBounds_ne (by omega), hah]
       exact hbr k hk
     have hsz : wn.heap.size = wr.heap.size := by
       rw [← hwn]
       show (wa.heap.setIfInBounds it _).size = _
       rw [Array.size_setIfInBounds, hah]
     have hbn : Below w4.heap.size w4 wn := by
       obtain ⟨b1, b2, b3, b4, b5⟩ := hbel
       have q : wa.os = wr.os ∧ wa.tape = wr.tape ∧ wa.output = wr.output := by rcases hal with rfl | rfl <;> exact ⟨rfl, rfl, rfl⟩
       refine ⟨?_, ?_, ?_, by omega, hnk⟩
       · rw [← hwn]; exact q.1.trans b1
       · rw [← hwn]; exact q.2.1.trans b2
       · rw [← hwn]; exact q.2.2.trans b3
     have hen := run_entry_at (P := Tryz.prog) wn it B cl seen es cl e hnr ((hnk B hBlt).trans hR.map) hem.1 hR.nodup
     rw [hkey, hval] at hen
     clear hrun
     have hcl : wn.cell? ⟨Bw, p + i, none⟩ = some (.string sv) := by
       have hx := hcell
       unfold World.cell? at hx ⊢
       rw [show wn.heap[(⟨Bw, p + i, none⟩ : Addr).block]? = w4.heap[Bw]? from hnk Bw (lt_cell hcell)]
       exact hx
     obtain ⟨bz, hbz⟩ : ∃ bz, wn.heap.size = bz := ⟨_, rfl⟩
     have Hz := Lib.hid (hbz.symm.trans hsz)
     have hbw : Bw < wn.heap.size := by
       rw [hsz]
       exact Nat.lt_of_lt_of_le (lt_cell hcell) hbel.size
     clear hsz
     go_wp2
     have hz1 : (wn.alloc (.cells #[.string sv] 465)).cell? ⟨Bw, p + i, none⟩ = some (.string sv) := (World.cell?_alloc_past _ _ _ hbw).trans hcl
     have hz2 : (wn.alloc (.cells #[.string sv] 465)).cell? ⟨bz, 0, none⟩ = some (.string sv) := by
       rw [← hbz]
       exact cell_at (Go.heap_alloc_new ..) rfl
     have hil' : (i : Int) < (len : Int) := by omega
     generalize hwz : wn.alloc (.cells #[.string sv] 465) = wz at hz1 hz2 ⊢
     go_region
     go_wp2_with fail
     go_roundw
     case rel =>
       refine ⟨seen.push e.born, ?_, ?_⟩
       · show wz.heap[it]? = _
         rw [← hwz]
         rw [Go.heap_alloc_old _ _ (by have := Hz.out; rw [hah] at hitlt; omega)]
         exact hnr
       · rw [← hwz]
         exact (hbn.alloc hbn.size _).drew
     case measure =>
       have e1 : wz.drew.iterSeen it = seen.push e.born := by
         unfold World.iterSeen
         rw [show wz.drew.heap[it]? = some (.mapIter (some B) cl (seen.push e.born) cl) by
           show wz.heap[it]? = _
           rw [← hwz, Go.heap_alloc_old _ _ (by have := Hz.out; rw [hah] at hitlt; omega)]
           exact hnr]
       have e2 : wr.iterSeen it = seen := by
         unfold World.iterSeen
         rw [hr]
       rw [e1, e2]
       exact left_shrinks es seen e he
set_option maxRecDepth 100000 in
set_option maxHeartbeats 4000000 in
theorem found_walk1 {a1 a2 : Int} {hv ps : Value} {w : World} {Q : Value → World → Prop} (x : Nat)
   (h1 : Calls Tryz.prog 359 #[.agg #[.int .i64 a1, .int .i64 a2], hv, ps] (w.alloc (.cells #[.int .i64 a1, .int .i64 a2] 28)) fun e w1 => ∃ mv, e = .returned (.tuple #[mv, .int .i64 ((x + 1 : Nat) : Int)]) ∧ Q (.tuple #[.string ⟨#[]⟩, .slice none 0 0, .int .i64 ((x + 1 : Nat) : Int)]) w1) :
   Calls Tryz.prog 285 #[.agg #[.int .i64 a1, .int .i64 a2], hv, ps] w fun e w' => ∃ v, e = .returned v ∧ Q v w' := by
 go_enter Tryz.func285, Tryz.ntmps285
 generalize hbx : w.heap.size = bx at h1
 go_wp2_with (go_at_call 359; refine h1.mono ?_)
 rintro e w1 ⟨mv, rfl, hQ⟩
 obtain ⟨y, hy⟩ : ∃ y : Int, y = ((x + 1 : Nat) : Int) := ⟨_, rfl⟩
 rw [← hy] at hQ ⊢
 have hne : (y == 0) = false := by rw [hy]; simp; omega
 have hne2 : ¬ (y = 0) := by omega
 clear hy
 go_wp2_with fail
 go_ret3
 exact ⟨_, rfl, hQ⟩
set_option maxRecDepth 100000 in
set_option maxHeartbeats 4000000 in
theorem found_walk2 {a1 a2 : Int} {hv ps : Value} {w : World} {Q : Value → World → Prop}
   (h1 : Calls Tryz.prog 359 #[.agg #[.int .i64 a1, .int .i64 a2], hv, ps] (w.alloc (.cells #[.int .i64 a1, .int .i64 a2] 28)) fun e w1 => ∃ mv, e = .returned (.tuple #[mv, .int .i64 0]) ∧ Box w.heap.size a1 a2 w1 ∧
     Calls Tryz.prog 360 #[.agg #[.int .i64 a1, .int .i64 a2], hv, ps] w1 fun e w2 => ∃ lv, e = .returned (.tuple #[lv, .bool false]) ∧ Q (.tuple #[.string ⟨#[]⟩, .slice none 0 0, .int .i64 4]) w2) :
   Calls Tryz.prog 285 #[.agg #[.int .i64 a1, .int .i64 a2], hv, ps] w fun e w' => ∃ v, e = .returned v ∧ Q v w' := by
 go_enter Tryz.func285, Tryz.ntmps285
 generalize hbx : w.heap.size = bx at h1
 go_wp2_with (go_at_call 359; refine h1.mono ?_)
 rintro e w1 ⟨mv, rfl, hb1, h2⟩
 obtain ⟨c0, c1⟩ := hb1.cells
 go_wp2_with (go_at_call 360; refine h2.mono ?_)
 rintro e w2 ⟨lv, rfl, hQ⟩
 go_wp2_with fail
 go_ret3
 exact ⟨_, rfl, hQ⟩
set_option maxRecDepth 100000 in
set_option maxHeartbeats 4000000 in
theorem found_walk3 {a1 a2 : Int} {hv ps : Value} {w : World} {Q : Value → World → Prop}
   (h1 : Calls Tryz.prog 359 #[.agg #[.int .i64 a1, .int .i64 a2], hv, ps] (w.alloc (.cells #[.int .i64 a1, .int .i64 a2] 28)) fun e w1 => ∃ mv, e = .returned (.tuple #[mv, .int .i64 0]) ∧ Box w.heap.size a1 a2 w1 ∧
     Calls Tryz.prog 360 #[.agg #[.int .i64 a1, .int .i64 a2], hv, ps] w1 fun e w2 => ∃ lv, e = .returned (.tuple #[lv, .bool true]) ∧ Box w.heap.size a1 a2 w2 ∧
     Calls Tryz.prog 361 #[.agg #[.int .i64 a1, .int .i64 a2], lv] w2 fun e w3 => ∃ s, e = .returned (.tuple #[s, .bool false]) ∧ Q (.tuple #[.string ⟨#[]⟩, .slice none 0 0, .int .i64 4]) w3) :
   Calls Tryz.prog 285 #[.agg #[.int .i64 a1, .int .i64 a2], hv, ps] w fun e w' => ∃ v, e = .returned v ∧ Q v w' := by
 go_enter Tryz.func285, Tryz.ntmps285
 generalize hbx : w.heap.size = bx at h1
 go_wp2_with (go_at_call 359; refine h1.mono ?_)
 rintro e w1 ⟨mv, rfl, hb1, h2⟩
 obtain ⟨c0, c1⟩ := hb1.cells
 go_wp2_with (go_at_call 360; refine h2.mono ?_)
 rintro e w2 ⟨lv, rfl, hb2, h3⟩
 obtain ⟨d0, d1⟩ := hb2.cells
 go_wp2_with (go_at_call 361; refine h3.mono ?_)
 rintro e w3 ⟨s, rfl, hQ⟩
 go_wp2_with fail
 go_ret3
 exact ⟨_, rfl, hQ⟩
theorem code_rel {a1 a2 : Int} (f : Inj) (u : Value) (h : VRel f (.agg [.int .i64 a1, .int .i64 a2]) u) : u = .agg #[.int .i64 a1, .int .i64 a2] := by
 obtain ⟨cs, rfl, x, xs, h1, hx, y, ys, rfl, hy, hn⟩ := h
 cases hn
 cases hx
 cases hy
 congr 1
 exact Array.toList_inj.1 h1
theorem code_back (a1 a2 : Int) (f : Inj) : VRel f (.agg [.int .i64 a1, .int .i64 a2]) (.agg #[.int .i64 a1, .int .i64 a2]) := ⟨_, rfl, _, _, rfl, rfl, _, _, rfl, rfl, rfl⟩
theorem three_args {a1 a2 : Int} {hv ps : AVal} {f : Inj} {us : Array Value} (hus : VRels f [.agg [.int .i64 a1, .int .i64 a2], hv, ps] us.toList) : ∃ u2 u3, us = #[.agg #[.int .i64 a1, .int .i64 a2], u2, u3] ∧ VRel f hv u2 ∧ VRel f ps u3 := by
 obtain ⟨u1, us1, hus1, hu1, hus2⟩ := hus
 obtain ⟨u2, us2, rfl, hu2, hus3⟩ := hus2
 obtain ⟨u3, us3, rfl, hu3, hnil⟩ := hus3
 cases hnil
 have e1 := code_rel f u1 hu1
 subst e1
 exact ⟨u2, u3, Array.toList_inj.1 hus1, hu2, hu3⟩
theorem two_tup {f : Inj} {a b : AVal} {v : Value} (h : VRel f (.tup [a, b]) v) : ∃ x y, v = .tuple #[x, y] ∧ VRel f a x ∧ VRel f b y := by
 obtain ⟨cs, rfl, x, xs, hx, ha, y, ys, rfl, hb, hn⟩ := h
 cases hn
 exact ⟨x, y, by congr 1; exact Array.toList_inj.1 hx, ha, hb⟩
theorem early_rel (f : Inj) (x : Int) : VRel f (.tup [.str 0 0, .slc0, .int .i64 x]) (.tuple #[.string ⟨#[]⟩, .slice none 0 0, .int .i64 x]) :=
 ⟨_, rfl, _, _, rfl, ⟨_, rfl, rfl, rfl⟩, _, _, rfl, rfl, _, _, rfl, rfl, rfl⟩
theorem entries_ready {f : Inj} {w : World} {c : T AVal} {d : AVal} {o len cl Bw p : Nat}
   (hcell : ∀ i, i < len → ∃ v, w.cell? ⟨Bw, p + i, none⟩ = some v ∧ VRel f (getCell c d (o + i)) v) : ∀ (es : List (AVal × AVal × Nat)) (es' : List MapEntry) (seen : List Nat), entriesF c d o len cl seen es = true → EntriesRel f es es' →
     (∀ e ∈ es', e.born < cl) ∧ (es'.map (·.born)).Nodup ∧ (∀ e ∈ es', ∃ (i : Nat) (s : ByteArray), e.key = .int .i64 (i : Int) ∧ e.val = .agg #[.string s] ∧ i < len ∧ w.cell? ⟨Bw, p + i, none⟩ = some (.string s)) ∧ ∀ e ∈ es', e.born ∉ seen
 | [], es', seen, h, hr => by cases hr; exact ⟨by simp, by simp, by simp, by simp⟩
 | e :: es, es', seen, h, hr => by
   obtain ⟨e', es'', rfl, ⟨hk, hv, hbn⟩, hr⟩ := hr
   rw [entriesF] at h
   simp only [Bool.and_eq_true, Bool.not_eq_true'] at h
   obtain ⟨h1, h2, h3⟩ := h
   obtain ⟨i1, i2, i3, i4⟩ := entries_ready hcell es es'' _ h3 hr
   have hns : e'.born ∉ seen := by
     intro hm
     rw [← hbn] at hm
     rw [(memB_iff _ _).2 hm] at h2
     cases h2
   unfold entryF at h1
   split at h1
   case h_2 => cases h1
   rename_i i n x born
   split at h1
   case h_2 => cases h1
   rename_i hc
   simp only [Bool.and_eq_true, Nat.ble_eq] at hc
   obtain ⟨hil, hbl⟩ := hc
   split at h1
   case h_2 => cases h1
   rename_i m y hg
   simp only [Bool.and_eq_true, Nat.beq_eq] at h1
   obtain ⟨rfl, rfl⟩ := h1
   have hbn : born = e'.born := hbn
   have hk : e'.key = .int .i64 (.ofNat i) := hk
   obtain ⟨cs, hcs, u, us, hul, ⟨s, rfl, hs⟩, hnil⟩ := hv
   cases hnil
   obtain ⟨v, hvc, hvr⟩ := hcell i hil
   rw [show getCell c d (o + i) = getCell c d (Nat.add o i) from rfl, hg] at hvr
   obtain ⟨s2, rfl, hs2⟩ := hvr
   have hss : s2 = s := by
     have h1 : s2.data.toList = s.data.toList := packL_inj (by rw [hs2.1, hs.1]) (by rw [hs2.2, hs.2])
     cases s2; cases s
     simp only [ByteArray.mk.injEq]
     exact Array.toList_inj.1 h1
   subst hss
   refine ⟨?_, ?_, ?_, ?_⟩
   · intro e he
     cases he with
     | head => omega
     | tail _ he => exact i1 e he
   · rw [List.map_cons, List.nodup_cons]
     refine ⟨fun hm => ?_, i2⟩
     obtain ⟨e2, he2, heq⟩ := List.mem_map.1 hm
     have := i4 e2 he2
     rw [heq] at this
     exact this (by show e'.born ∈ born :: seen; rw [hbn]; exact List.mem_cons_self ..)
   · intro e he
     cases he with
     | head => exact ⟨i, s2, hk, by rw [hcs]; congr 1; exact Array.toList_inj.1 hul, hil, hvc⟩
     | tail _ he => exact i3 e he
   · intro e he
     cases he with
     | head => exact hns
     | tail _ he => exact fun hm => i4 e he (List.mem_cons_of_mem _ hm)
theorem found_ok {W : World} {G : Nat} {C : Cfg Unit} {n : Nat} (hC : CfgOk ⟨Tryz.prog, compC Tryz.prog G, G, W⟩ Unit C) (g1 : C.orc.get 359 = none) (g2 : C.orc.get 360 = none) (g3 : C.orc.get 361 = none) (g4 : C.orc.get 325 = none) :
   FuncOk ⟨Tryz.prog, compC Tryz.prog G, G, W⟩ Unit 285 (foundO (fcallF C (fexec C n))) := by
 have hcall : fcallF C (fexec C n) = callF C (exec C n) := by
   funext g args S K
   rw [fexec_eq, fcallF_eq]
 rw [hcall]
 intro args S K r h hok
 unfold foundO at h
 split at h
 case h_2 => cases h
 rename_i a1 a2 hv ps
 obtain ⟨v1, S1, h, hst1, hgo1⟩ := callF_calls hC n g1 h hok
 -- the start, in the machine
 have start : ∀ {M : Nat} {f : Inj} {w : World} {us : Array Value}, Sim ⟨Tryz.prog, compC Tryz.prog G, G, W⟩ M f S.v w → S1.next ≤ M → VRels f [.agg [.int .i64 a1, .int .i64 a2], hv, ps] us.toList → ∃ u2 u3, us = #[.agg #[.int .i64 a1, .int .i64 a2], u2, u3] ∧ VRel f hv u2 ∧ VRel f ps u3 ∧
     Step ⟨Tryz.prog, compC Tryz.prog G, G, W⟩ M f S.v w f S.v (w.alloc (.cells #[.int .i64 a1, .int .i64 a2] 28)) ∧
     Calls Tryz.prog 359 #[.agg #[.int .i64 a1, .int .i64 a2], u2, u3] (w.alloc (.cells #[.int .i64 a1, .int .i64 a2] 28)) fun e w1 => ∃ v', e = .returned v' ∧ Box w.heap.size a1 a2 w1 ∧ w.heap.size < w1.heap.size ∧ ∃ f1, Step ⟨Tryz.prog, compC Tryz.prog G, G, W⟩ M f S.v (w.alloc (.cells #[.int .i64 a1, .int .i64 a2] 28)) f1 S1.v w1 ∧ (∀ b N, f1 b ≠ some (w.heap.size, N)) ∧ VRel f1 v1 v' := by
   intro M f w us hs hM1 hus
   obtain ⟨u2, u3, rfl, hu2, hu3⟩ := three_args hus
   have hb0 : Below w.heap.size w (w.alloc (.cells #[.int .i64 a1, .int .i64 a2] 28)) := (Below.refl _ _).alloc (Nat.le_refl _) _
   have hstep0 := Step.below hs hb0
   have hf0 : ∀ b N, f b ≠ some (w.heap.size, N) := fun b N hb => Nat.lt_irrefl _ (hs.lt b _ N hb)
   have hlt0 : w.heap.size < (w.alloc (.cells #[.int .i64 a1, .int .i64 a2] 28)).heap.size := by
     show w.heap.size < (w.heap.push _).size
     rw [Array.size_push]; omega
   have hbox0 : Box w.heap.size a1 a2 (w.alloc (.cells #[.int .i64 a1, .int .i64 a2] 28)) := Go.heap_alloc_new ..
   refine ⟨u2, u3, rfl, hu2, hu3, hstep0, (hgo1 M f _ #[.agg #[.int .i64 a1, .int .i64 a2], u2, u3] hstep0.sim hM1 ⟨_, _, rfl, code_back .., _, _, rfl, hu2, _, _, rfl, hu3, rfl⟩).mono ?_⟩
   rintro e w1 ⟨v1', rfl, f1, hstep1, hr1⟩
   exact ⟨v1', rfl, (hstep1.aside hlt0 hf0).trans hbox0, Nat.lt_of_lt_of_le hlt0 hstep1.size, f1, hstep1, hstep1.aside' hlt0 hf0, hr1⟩
 split at h
 case h_3 => cases h
 case h_1 =>
   rename_i x
   refine ⟨_, _, h, hst1, fun M f w us hs hM hus => ?_⟩
   obtain ⟨u2, u3, rfl, hu2, hu3, hstep0, hand⟩ := start hs hM hus
   refine goes_of_calls Tryz.func285 (by kernel_rfl) rfl ((found_walk1 (Q := OpPost _ M f S.v w (.tup [.str 0 0, .slc0, .int .i64 (.ofNat (x + 1))]) S1.v) x (hand.mono ?_)).mono fun e w' ⟨v, he, hq⟩ => ⟨v, he, hq⟩)
   rintro e w1 ⟨v', rfl, _, _, f1, hstep1, _, hr⟩
   obtain ⟨mv, y, rfl, hmv, hy⟩ := two_tup hr
   cases hy
   exact ⟨mv, rfl, f1, hstep0.trans hstep1, early_rel ..⟩
 rename_i b
 obtain ⟨v2, S2, h, hst2, hgo2⟩ := callF_calls hC n g2 h (hst1.ok hok)
 have second : ∀ {M : Nat} {f1 : Inj} {bx : Nat} {w1 : World} {u2 u3 : Value}, Step ⟨Tryz.prog, compC Tryz.prog G, G, W⟩ M f1 S1.v w1 f1 S1.v w1 → S2.next ≤ M → VRel f1 hv u2 → VRel f1 ps u3 → Box bx a1 a2 w1 → bx < w1.heap.size → (∀ b N, f1 b ≠ some (bx, N)) →
     Calls Tryz.prog 360 #[.agg #[.int .i64 a1, .int .i64 a2], u2, u3] w1 fun e w2 => ∃ v', e = .returned v' ∧ Box bx a1 a2 w2 ∧ bx < w2.heap.size ∧ ∃ f2, Step ⟨Tryz.prog, compC Tryz.prog G, G, W⟩ M f1 S1.v w1 f2 S2.v w2 ∧ (∀ b N, f2 b ≠ some (bx, N)) ∧ VRel f2 v2 v' := by
   intro M f1 bx w1 u2 u3 hstep hM2 hu2 hu3 hbox hlt hf
   refine (hgo2 M f1 w1 #[.agg #[.int .i64 a1, .int .i64 a2], u2, u3] hstep.sim hM2 ⟨_, _, rfl, code_back .., _, _, rfl, hu2, _, _, rfl, hu3, rfl⟩).mono ?_
   rintro e w2 ⟨v', rfl, f2, hstep2, hr⟩
   exact ⟨v', rfl, (hstep2.aside hlt hf).trans hbox, Nat.lt_of_lt_of_le hlt hstep2.size, f2, hstep2, hstep2.aside' hlt hf, hr⟩
 split at h
 case h_3 => cases h
 case h_1 =>
   refine ⟨_, _, h, hst1.trans hst2, fun M f w us hs hM hus => ?_⟩
   have hM2 : S2.next ≤ M := hM
   have hM1 : S1.next ≤ M := Nat.le_trans hst2.next hM2
   obtain ⟨u2, u3, rfl, hu2, hu3, hstep0, hand⟩ := start hs hM1 hus
   refine goes_of_calls Tryz.func285 (by kernel_rfl) rfl ((found_walk2 (Q := OpPost _ M f S.v w (.tup [.str 0 0, .slc0, .int .i64 (.ofNat 4)]) S2.v) (hand.mono ?_)).mono fun e w' ⟨v, he, hq⟩ => ⟨v, he, hq⟩)
   rintro e w1 ⟨v', rfl, hbox1, hlt1, f1, hstep1, hf1, hr⟩
   obtain ⟨mv, y, rfl, hmv, hy⟩ := two_tup hr
   cases hy
   refine ⟨mv, rfl, hbox1, (second (.refl hstep1.sim) hM2 (hu2.mono hstep1.le) (hu3.mono hstep1.le) hbox1 hlt1 hf1).mono ?_⟩
   rintro e w2 ⟨v', rfl, _, _, f2, hstep2, _, hr⟩
   obtain ⟨lv, y, rfl, hlv, hy⟩ := two_tup hr
   cases hy
   exact ⟨lv, rfl, f2, hstep0.trans (hstep1.trans hstep2), early_rel ..⟩
 rename_i l
 obtain ⟨v3, S3, h, hst3, hgo3⟩ := callF_calls hC n g3 h (hst2.ok (hst1.ok hok))
 split at h
 case h_3 => cases h
 case h_1 =>
   refine ⟨_, _, h, hst1.trans (hst2.trans hst3), fun M f w us hs hM hus => ?_⟩
   have hM3 : S3.next ≤ M := hM
   have hM2 : S2.next ≤ M := Nat.le_trans hst3.next hM3
   have hM1 : S1.next ≤ M := Nat.le_trans hst2.next hM2
   obtain ⟨u2, u3, rfl, hu2, hu3, hstep0, hand⟩ := start hs hM1 hus
   refine goes_of_calls Tryz.func285 (by kernel_rfl) rfl ((found_walk3 (Q := OpPost _ M f S.v w (.tup [.str 0 0, .slc0, .int .i64 (.ofNat 4)]) S3.v) (hand.mono ?_)).mono fun e w' ⟨v, he, hq⟩ => ⟨v, he, hq⟩)
   rintro e w1 ⟨v', rfl, hbox1, hlt1, f1, hstep1, hf1, hr⟩
   obtain ⟨mv, y, rfl, hmv, hy⟩ := two_tup hr
   cases hy
   refine ⟨mv, rfl, hbox1, (second (.refl hstep1.sim) hM2 (hu2.mono hstep1.le) (hu3.mono hstep1.le) hbox1 hlt1 hf1).mono ?_⟩
   rintro e w2 ⟨v', rfl, hbox2, hlt2, f2, hstep2, hf2, hr⟩
   obtain ⟨lv, y, rfl, hlv, hy⟩ := two_tup hr
   cases hy
   refine ⟨lv, rfl, hbox2, (hgo3 M f2 w2 #[.agg #[.int .i64 a1, .int .i64 a2], lv] hstep2.sim hM3 ⟨_, _, rfl, code_back .., _, _, rfl, hlv, rfl⟩).mono ?_⟩
   rintro e w3 ⟨v', rfl, f3, hstep3, hr⟩
   obtain ⟨sv, y, rfl, hsv, hy⟩ := two_tup hr
   cases hy
   exact ⟨sv, rfl, f3, hstep0.trans (hstep1.trans (hstep2.trans hstep3)), early_rel ..⟩
 rename_i sn sx
 obtain ⟨v4, S4, h, hst4, hgo4⟩ := callF_calls hC n g4 h (hst3.ok (hst2.ok (hst1.ok hok)))
 split at h
 case h_2 => cases h
 rename_i bw ow len
 split at h
 case h_2 => cases h
 rename_i es cl hgm
 split at h
 case h_2 => cases h
 rename_i c d k wr e hgw
 split at h
 case h_2 => cases h
 rename_i hc
 rw [Bool.and_eq_true, Nat.ble_eq] at hc
 obtain ⟨hk, hes⟩ := hc
 refine ⟨_, _, h, hst1.trans (hst2.trans (hst3.trans hst4)), fun M f w us hs hM hus => ?_⟩
 have hM3 : S3.next ≤ M := Nat.le_trans hst4.next hM
 have hM2 : S2.next ≤ M := Nat.le_trans hst3.next hM3
 have hM1 : S1.next ≤ M := Nat.le_trans hst2.next hM2
 obtain ⟨u2, u3, rfl, hu2, hu3, hstep0, hand⟩ := start hs hM1 hus
 refine goes_of_calls Tryz.func285 (by kernel_rfl) rfl ((found_walk (Q := OpPost _ M f S.v w (.tup [.str sn sx, .slc bw ow len 1, .int .i64 (.ofNat 0)]) S4.v) (hand.mono ?_)).mono fun e w' ⟨v, he, hq⟩ => ⟨v, he, hq⟩)
 rintro e w1 ⟨v', rfl, hbox1, hlt1, f1, hstep1, hf1, hr⟩
 obtain ⟨mv, y, rfl, ⟨B, N, hfb, rfl⟩, hy⟩ := two_tup hr
 cases hy
 refine ⟨B, rfl, hbox1, (second (.refl hstep1.sim) hM2 (hu2.mono hstep1.le) (hu3.mono hstep1.le) hbox1 hlt1 hf1).mono ?_⟩
 rintro e w2 ⟨v', rfl, hbox2, hlt2, f2, hstep2, hf2, hr⟩
 obtain ⟨lv, y, rfl, hlv, hy⟩ := two_tup hr
 cases hy
 refine ⟨lv, rfl, hbox2, (hgo3 M f2 w2 #[.agg #[.int .i64 a1, .int .i64 a2], lv] hstep2.sim hM3 ⟨_, _, rfl, code_back .., _, _, rfl, hlv, rfl⟩).mono ?_⟩
 rintro e w3 ⟨v', rfl, f3, hstep3, hr⟩
 obtain ⟨sv, y, rfl, ⟨s, rfl, hss⟩, hy⟩ := two_tup hr
 cases hy
 have hbox3 : Box w.heap.size a1 a2 w3 := (hstep3.aside hlt2 hf2).trans hbox2
 refine ⟨s, rfl, hbox3, (hgo4 M f3 w3 #[.agg #[.int .i64 a1, .int .i64 a2], lv] hstep3.sim hM ⟨_, _, rfl, code_back .., _, _, rfl, hlv.mono hstep3.le, rfl⟩).mono ?_⟩
 rintro e w4 ⟨v4', rfl, f4, hstep4, Bw, Nw, cap, p, hfw, hcap, hroom, hpo, rfl⟩
 have hfb4 := hstep4.le _ _ (hstep3.le _ _ (hstep2.le _ _ hfb))
 obtain ⟨om, hom, es', hes', hrel⟩ := hstep4.sim.blk b _ hgm B N hfb4
 subst hes'
 obtain ⟨ow', how, cs, lo, hi, how', hsz, hn, hfz, hcell⟩ := hstep4.sim.blk bw _ hgw Bw Nw hfw
 subst how'
 have hp : ∀ i, i < len → p = ow := fun i hi => by
   rcases hpo with h1 | h1
   · exact h1
   · omega
 obtain ⟨r1, r2, r3, _⟩ := entries_ready (f := f4) (w := w4) (c := c) (d := d) (o := ow) (len := len) (cl := cl) (Bw := Bw) (p := p) (fun i hi => by
   have := hp i hi
   subst this
   have hk : p + len ≤ k := hk
   obtain ⟨v, hv, hr⟩ := hcell (p + i) (by omega)
   exact ⟨v, cell_at how hv, hr⟩) es es'.toList [] hes hrel
 exact ⟨Bw, p, len, cap, es', cl, rfl, ⟨hom, r1, r2, r3⟩, fun w' hbw => ⟨f4, hstep0.trans (hstep1.trans (hstep2.trans (hstep3.trans (hstep4.trans (Step.below hstep4.sim hbw))))), _, rfl, _, _, rfl, ⟨s, rfl, hss.1, hss.2⟩, _, _, rfl, ⟨Bw, Nw, cap, p, hfw, hcap, hroom, hpo, rfl⟩, _, _, rfl, rfl, rfl⟩⟩
end Abs
end Go.Proofs.YtonklkbgiidkgaaGreatDoor.Refl
