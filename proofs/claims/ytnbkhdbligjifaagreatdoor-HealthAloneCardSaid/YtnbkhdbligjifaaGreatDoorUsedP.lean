/-
 A store's used room: a sum over a map in whatever order.
-/
import Derived.Test.YtnbkhdbligjifaaGreatDoorInfo
import Derived.Test.YtnbkhdbligjifaaGreatDoorProg
import Derived.Laws.IdiomRangeMap
import Derived.Maps.RangeRun
import Derived.Lib.Hide
import Derived.Lib.OthersKept
set_option linter.unusedVariables false
set_option linter.unusedSimpArgs false
namespace Go.Proofs.YtnbkhdbligjifaaGreatDoor
open Go Go.RowKit Go.ChangeMaps
namespace Vm
set_option linter.unusedVariables false
set_option linter.unusedSimpArgs false
/-! a sum over the entries that have come -/
def wsum (wt : MapEntry → Nat) (seen : Array Nat) : List MapEntry → Nat
 | [] => 0
 | e :: es => (if seen.contains e.born then wt e else 0) + wsum wt seen es
def wall (wt : MapEntry → Nat) : List MapEntry → Nat
 | [] => 0
 | e :: es => wt e + wall wt es
theorem wsum_none (wt : MapEntry → Nat) : ∀ es, wsum wt #[] es = 0
 | [] => rfl
 | e :: es => by simp [wsum, wsum_none wt es]
theorem wsum_le (wt : MapEntry → Nat) (seen : Array Nat) : ∀ es, wsum wt seen es ≤ wall wt es
 | [] => Nat.le_refl _
 | e :: es => by rw [wsum, wall]; have := wsum_le wt seen es; split <;> omega
theorem wsum_keep (wt : MapEntry → Nat) (seen : Array Nat) (b : Nat) : ∀ es : List MapEntry, b ∉ es.map (·.born) → wsum wt (seen.push b) es = wsum wt seen es
 | [], _ => rfl
 | e :: es, h => by
   rw [List.map_cons, List.mem_cons, not_or] at h
   rw [wsum, wsum, wsum_keep wt seen b es h.2]
   have : (seen.push b).contains e.born = seen.contains e.born := by
     rw [Array.contains_push]; simp [Ne.symm h.1]
   rw [this]
theorem wsum_push (wt : MapEntry → Nat) (seen : Array Nat) (e : MapEntry) (hs : seen.contains e.born = false) : ∀ es : List MapEntry, (es.map (·.born)).Nodup → e ∈ es → wsum wt (seen.push e.born) es = wsum wt seen es + wt e
 | [], _, h => by cases h
 | x :: es, hn, h => by
   rw [List.map_cons, List.nodup_cons] at hn
   rw [wsum, wsum]
   by_cases hx : x = e
   · subst hx
     rw [wsum_keep wt seen _ es hn.1, hs]
     have : (seen.push x.born).contains x.born = true := by rw [Array.contains_push]; simp
     rw [this]; simp; omega
   · have hm : e ∈ es := by
       rcases List.mem_cons.1 h with rfl | h
       · exact absurd rfl hx
       · exact h
     have hne : e.born ≠ x.born := fun he => hn.1 (he ▸ List.mem_map_of_mem (f := (·.born)) hm)
     have : (seen.push e.born).contains x.born = seen.contains x.born := by rw [Array.contains_push]; simp [hne, Ne.symm hne]
     rw [this, wsum_push wt seen e hs es hn.2 hm]; omega
theorem wsum_all (wt : MapEntry → Nat) (seen : Array Nat) : ∀ es : List MapEntry, (∀ x ∈ es, seen.contains x.born = true) → wsum wt seen es = wall wt es
 | [], _ => rfl
 | e :: es, h => by
   rw [wsum, wall, h e (List.mem_cons_self ..), wsum_all wt seen es fun x hx => h x (List.mem_cons_of_mem _ hx)]
   rfl
theorem wrapU {n : Int} (h0 : 0 ≤ n) (h1 : n < 9223372036854775808) : wrap64 n = n := by unfold wrap64; omega
set_option maxRecDepth 100000 in
set_option maxHeartbeats 1000000 in
theorem bare_walk (s : ByteArray) (w : World) : Calls Tryz.prog 108 #[.string s] w fun e w' => e = .returned (.bool (s.toList == [109, 48] || s.toList == [109, 49])) ∧ w' = w := by
 go_enter Tryz.func108, Tryz.ntmps108
 go_wp2
 all_goals
   go_ret
   refine ⟨?_, rfl⟩
   first | rfl | (rename_i h; show Ending.returned (.bool true) = _; rw [h]; rfl)
def wtU (e : MapEntry) : Nat := match e.key, e.val with
 | .string s, .string d => if s.toList == [109, 48] || s.toList == [109, 49] then 0 else d.size
 | _, _ => 0
structure ReadyU (w : World) (B : Nat) (es : Array MapEntry) (cl t : Nat) : Prop where
 map : w.heap[B]? = some (.map es cl)
 born : ∀ e ∈ es.toList, e.born < cl
 nodup : (es.toList.map (·.born)).Nodup
 entry : ∀ e ∈ es.toList, ∃ s d, e.key = .string s ∧ e.val = .string d
 sum : wall wtU es.toList = t
 small : t ≤ 1000000000
set_option maxRecDepth 100000 in
set_option maxHeartbeats 4000000 in
theorem used_walk {P o B : Nat} {es : Array MapEntry} {cl t : Nat} {w : World} (hc : w.cell? ⟨P, o + 2, none⟩ = some (.map (some B))) (hR : ReadyU w B es cl t) :
   Calls Tryz.prog 109 #[.pointer (some ⟨P, o, none⟩)] w fun e w' => e = .returned (.int .i64 (t : Int)) ∧ Below w.heap.size w w' := by
 have hrg := run_range_map (P := Tryz.prog) w 126 9 9 B es cl Tryz.underlying126 hR.map
 obtain ⟨it, hit⟩ : ∃ it, w.heap.size = it := ⟨_, rfl⟩
 rw [hit] at hrg
 go_enter Tryz.func109, Tryz.ntmps109
 go_wp2
 go_loopw [3] (fun v wr => ∃ seen : Array Nat, wr.heap[it]? = some (.mapIter (some B) cl seen cl) ∧ Below w.heap.size w wr ∧ v = .int .i64 ((wsum wtU seen es.toList : Nat) : Int)) (fun _ wr => (leftOf es (wr.iterSeen it)).size)
 case atStart =>
   refine ⟨#[], ?_, (Below.refl _ _).alloc (Nat.le_refl _) _, ?_⟩
   · rw [← hit]
     exact Go.heap_alloc_new ..
   · rw [wsum_none]; rfl
 case round =>
   obtain ⟨seen, hr, hbel, rfl⟩ := hrel
   have hBlt : B < w.heap.size := (Array.getElem?_eq_some_iff.1 hR.map).1
   have hbr : ∀ k, k < w.heap.size → wr.heap[k]? = w.heap[k]? := by
     obtain ⟨_, _, _, _, h5⟩ := hbel
     exact h5
   have hbB := (hbr B hBlt).trans hR.map
   rcases run_next_at (P := Tryz.prog) wr 0 it B cl cl seen es cl hr hbB hR.born (Nat.le_refl _) with ⟨h0, hrun⟩ | ⟨e, he, wa, hal, hrun⟩
   · have hnx : ∀ ty, (Instr.next (.pointer (some ⟨it, 0, none⟩)) false ty).run Tryz.prog wr = _ := fun _ => hrun
     have hall : wsum wtU seen es.toList = t := (wsum_all wtU seen es.toList (all_seen es seen h0)).trans hR.sum
     rw [hall]
     go_wp2
     go_ret
     exact ⟨rfl, hbel⟩
   · have hem := mem_left he
     obtain ⟨s, d, hkey, hval⟩ := hR.entry e hem.1
     have hsum := wsum_push wtU seen e hem.2 es.toList hR.nodup hem.1
     have hle := wsum_le wtU (seen.push e.born) es.toList
     rw [hR.sum] at hle
     have hwt : wtU e = if s.toList == [109, 48] || s.toList == [109, 49] then 0 else d.size := by unfold wtU; rw [hkey, hval]
     rw [hwt] at hsum
     have hsml := hR.small
     rw [hkey, hval] at hrun
     have hnx : ∀ ty, (Instr.next (.pointer (some ⟨it, 0, none⟩)) false ty).run Tryz.prog wr = _ := fun _ => hrun
     have hah : wa.heap = wr.heap := by rcases hal with rfl | rfl <;> rfl
     have hitlt : it < wa.heap.size := by
       rw [hah]
       exact (Array.getElem?_eq_some_iff.1 hr).1
     obtain ⟨wn, hwn⟩ : ∃ wn, setBlock wa it (.mapIter (some B) cl (seen.push e.born) cl) = wn := ⟨_, rfl⟩
     rw [hwn] at hrun
     have hnr : wn.heap[it]? = some (.mapIter (some B) cl (seen.push e.born) cl) := by
       rw [← hwn]
       show (wa.heap.setIfInBounds it _)[it]? = _
       rw [Array.getElem?_setIfInBounds_self, if_pos hitlt]
     have hnk : ∀ k, k < w.heap.size → wn.heap[k]? = w.heap[k]? := by
       intro k hk
       rw [← hwn]
       show (wa.heap.setIfInBounds it _)[k]? = _
       rw [Array.getElem?_setIfInBounds_ne (by omega), hah]
       exact hbr k hk
     have hsz : wn.heap.size = wr.heap.size := by
       rw [← hwn]
       show (wa.heap.setIfInBounds it _).size = _
       rw [Array.size_setIfInBounds, hah]
     have hbn : Below w.heap.size w wn := by
       obtain ⟨b1, b2, b3, b4, b5⟩ := hbel
       have q : wa.os = wr.os ∧ wa.tape = wr.tape ∧ wa.output = wr.output := by rcases hal with rfl | rfl <;> exact ⟨rfl, rfl, rfl⟩
       refine ⟨?_, ?_, ?_, by omega, hnk⟩
       · rw [← hwn]; exact q.1.trans b1
       · rw [← hwn]; exact q.2.1.trans b2
       · rw [← hwn]; exact q.2.2.trans b3
     have hen := run_entry_at (P := Tryz.prog) wn it B cl seen es cl e hnr ((hnk B hBlt).trans hR.map) hem.1 hR.nodup
     rw [hkey, hval] at hen
     have mes : (leftOf es (wn.iterSeen it)).size < (leftOf es (wr.iterSeen it)).size := by
       have e1 : wn.iterSeen it = seen.push e.born := by
         unfold World.iterSeen
         rw [hnr]
       have e2 : wr.iterSeen it = seen := by
         unfold World.iterSeen
         rw [hr]
       rw [e1, e2]
       exact left_shrinks es seen e he
     clear hrun
     go_wp2_with (go_at_call 108; refine (bare_walk s wn).mono ?_)
     rintro e2 w2 ⟨rfl, rfl⟩
     by_cases hbare : (s.toList == [109, 48] || s.toList == [109, 49]) = true
     · rw [hbare] at hsum ⊢
       go_wp2_with fail
       refine ⟨⟨_, hnr, hbn, ?_⟩, mes⟩
       rw [hsum]; rfl
     · rw [Bool.not_eq_true] at hbare
       rw [hbare] at hsum ⊢
       go_wp2_with fail
       refine ⟨⟨_, hnr, hbn, ?_⟩, mes⟩
       have hs2 : wsum wtU (seen.push e.born) es.toList = wsum wtU seen es.toList + d.size := hsum
       rw [wrapU (by omega) (by omega), hs2]
       rfl
end Vm
end Go.Proofs.YtnbkhdbligjifaaGreatDoor
