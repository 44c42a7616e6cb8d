/-
 A store in memory: the names of what is seen; the faults that strike an object. A store's used room: a sum over a map in whatever order.
-/
import Derived.Test.YtnbkhdbligjifaaGreatDoorInfo
import Derived.Test.YtnbkhdbligjifaaGreatDoorVMaps
import Derived.Test.YtnbkhdbligjifaaGreatDoorProg
import Derived.Laws.IdiomRangeMap
import Derived.Maps.RangeRun
import Derived.Lib.Hide
import Derived.Lib.OthersKept
set_option linter.unusedVariables false
set_option linter.unusedSimpArgs false
set_option maxRecDepth 100000
set_option maxHeartbeats 40000000
namespace Go.Proofs.YtnbkhdbligjifaaGreatDoor
open Go Go.RowKit Go.Maps Go.Sort
namespace Vm
theorem ownsRow_base {w : World} {b b' : Nat} {e : TypeId} {size : Nat} {v : Value} {n : Nat} {xs : List Value} (h : w.ownsRow b e size v n xs) (hb : b' ≤ b) : w.ownsRow b' e size v n xs := by
 refine ⟨h.1, ?_⟩
 rcases h.2 with h2 | ⟨g, cap, cur, h2, h3, h4⟩
 ·exact .inl h2
 ·exact .inr ⟨g, cap, cur, h2, by omega, h4⟩
def keysOf (m : TMap) : List (List UInt8) := (m.map fun p => p.1.data.toList).mergeSort (fun x y => decide (x ≤ y))
theorem keysOf_len (m : TMap) : (keysOf m).length = m.length := by simp [keysOf]
def encB (b : List UInt8) : Value := .string ⟨b.toArray⟩
structure Small (m : TMap) : Prop where
 len : m.length ≤ 10000
 key : ∀ p ∈ m, p.1.size ≤ 80 ∧ p.2.size ≤ 65536
theorem keys_nodup {m : TMap} (h : (m.map (·.1)).Nodup) : (m.map fun p => p.1.data.toList).Nodup := by
 have : m.map (fun p => p.1.data.toList) = (m.map (·.1)).map (fun b : ByteArray => b.data.toList) := by simp
 rw [this]
 refine List.Pairwise.map _ (fun a b hab e => hab ?_) h
 cases a; cases b
 simp only [ByteArray.mk.injEq]
 exact Array.toList_inj.1 e
theorem perm_sort {a b : List (List UInt8)} (h : a.Perm b) : a.mergeSort (fun x y => decide (x ≤ y)) = b.mergeSort (fun x y => decide (x ≤ y)) := mergeSort_of_perm h
theorem keys_any (m : Nat) (w : World) : Calls Tryz.prog 127 #[.map (some m)] w fun e w' => e = .returned (.func (.func 153) #[] #[.pointer (some ⟨w.heap.size, 0, none⟩)]) ∧ w.alloc (.cells #[.map (some m)] 126) = w' := by
 have hmf : ∀ (fn : Fn) (first cap : Array Value) (w : World), (Instr.makeFunc fn first cap).run Tryz.prog w = .ok (.func fn first cap) w := fun _ _ _ _ => rfl
 go_enter Tryz.func127, Tryz.ntmps127
 go_wp2
 go_ret
 exact ⟨rfl, rfl⟩
def NamesPost (w : World) (m : TMap) (e : Ending) (w' : World) : Prop := ∃ v, e = .returned v ∧ w'.ownsRow w.heap.size 9 1 v (keysOf m).length ((keysOf m).map encB) ∧ (v = .slice none 0 0 ↔ keysOf m = []) ∧ Below w.heap.size w w'
theorem names_any {w : World} {B : Nat} {s : PSt} {O : List Nat} (h : SAt w B s O) (hs : Small s.seen) :
 Calls Tryz.prog 89 #[.pointer (some ⟨B, 0, none⟩)] w (NamesPost w s.seen) := by
 obtain ⟨g, m, ws, h, rfl⟩ := h
 have c2 := h.c2
 have hm := h.seen
 obtain ⟨es, cl, hb, hf⟩ := hm
 have hk : es.toList.map (·.key) = (s.seen.map fun p => p.1.data.toList).map encStr := by
  have h1 := congrArg (List.map Prod.fst) hf.ents
  rw [List.map_map, List.map_map] at h1
  rw [List.map_map]
  exact h1
 have hle : es.size = s.seen.length := by
  have := congrArg List.length hf.ents
  simpa using this
 have hown : ∀ w' : World, Below w.heap.size w w' → ∃ D : DataW Unit, w'.ownsMap Tryz.prog 9 (fun _ => some (.nil, [])) m es.size D ∧ Maps.size D = es.size ∧ (strKeys D).Perm (s.seen.map fun p => p.1.data.toList) := fun w' hbl =>
  owns_keys Tryz.underlying9 ((hbl.block m h.seen.lt).trans hb) hk hf.born hf.once (keys_nodup hf.keys) (fun x hx => by
   obtain ⟨p, hp, rfl⟩ := List.mem_map.1 hx
   have := (hs.key p hp).1
   have h2 : p.1.data.toList.length = p.1.size := by simp
   omega) (by rw [hle]; exact Nat.le_trans hs.len (by decide))
 have HO := Lib.hid hown
 have HL := Lib.hid (show es.size ≤ 1000000 from by rw [hle]; exact Nat.le_trans hs.len (by decide))
 clear hb hf hk hle hown h hs
 go_enter Tryz.func89, Tryz.ntmps89
 go_wp2_with (go_at_call 127; ((with_reducible refine (keys_any m _).mono ?_); rintro e w1 ⟨rfl, rfl⟩))
 have hb1 : RowKit.Below w.heap.size w (w.alloc (.cells #[.map (some m)] 126)) := (Below.refl _ _).alloc (Nat.le_refl _) _
 obtain ⟨D, hD, hDs, hDk⟩ := HO.out _ hb1
 have hc := (Blk.new w 126 #[.map (some m)]).cell 0
 have HLAW := Lib.hid (keysLaw127 w.heap.size m es.size D _ (by simp) hc hD (by rw [hDs]; exact HL.out))
 have HK := Lib.hid hDk
 have HB1 := Lib.hid hb1
 clear hD hDs hDk hc hb1
 go_wp2_with (go_at_call 126; refine HLAW.out.mono ?_)
 rintro e w1 ⟨v, ss, rfl, hp, hrow, hv, hbl⟩
 have hq : ss.mergeSort (fun x y => decide (x ≤ y)) = keysOf s.seen := perm_sort (hp.trans HK.out)
 rw [hq] at hrow
 have hl : ss.length = (keysOf s.seen).length := by rw [← hq]; simp
 have HR := Lib.hid (hl ▸ hrow)
 have HV := Lib.hid (show v = .slice none 0 0 ↔ keysOf s.seen = [] from by
  rw [hv, ← List.length_eq_zero_iff, hl, List.length_eq_zero_iff])
 have HBL := Lib.hid (HB1.out.trans (hbl.mono (by simp)))
 clear hp hrow hv hbl hq hl
 go_wp2_with fail
 go_ret
 exact ⟨v, rfl, ownsRow_base HR.out (by simp), HV.out, HBL.out⟩
def struckO (m : TMap) (n : Int) : Option (List UInt8) := (keysOf m)[(n % ((keysOf m).length : Int)).toNat]?
def struckV (m : TMap) (n : Int) : Value := match struckO m n with
 | some k => .tuple #[encB k, .bool true]
 | none => .tuple #[.string ⟨#[]⟩, .bool false]
def StruckPost (w : World) (m : TMap) (n : Int) (e : Ending) (w' : World) : Prop := e = .returned (struckV m n) ∧ Below w.heap.size w w'
theorem struck_any {w : World} {B : Nat} {s : PSt} {O : List Nat} (h : SAt w B s O) (hs : Small s.seen) (f : Flt) (hn : 0 ≤ f.n) (hn2 : f.n ≤ 9223372036854775807) :
 Calls Tryz.prog 147 #[.pointer (some ⟨B, 0, none⟩), .agg #[.int .u8 f.kind, .int .i64 f.store, .int .i64 f.n, .int .i64 f.at_, .int .i64 f.c]] w (StruckPost w s.seen f.n) := by
 have h1 : SAt (w.alloc (.cells #[.int .u8 f.kind, .int .i64 f.store, .int .i64 f.n, .int .i64 f.at_, .int .i64 f.c] 34)) B s O := h.keep (Fr.alloc _ _) (by simp)
 have HN := Lib.hid (names_any h1 hs)
 have hb0 : Below w.heap.size w (w.alloc (.cells #[.int .u8 f.kind, .int .i64 f.store, .int .i64 f.n, .int .i64 f.at_, .int .i64 f.c] 34)) := (Below.refl _ _).alloc (Nat.le_refl _) _
 have hf2 := (Blk.new w 34 #[.int .u8 f.kind, .int .i64 f.store, .int .i64 f.n, .int .i64 f.at_, .int .i64 f.c]).cell 2
 simp only [List.getElem?_toArray, List.getElem?_cons_zero, List.getElem?_cons_succ] at hf2
 have hkl : (keysOf s.seen).length ≤ 1000000 := by rw [keysOf_len]; exact Nat.le_trans hs.len (by decide)
 have HSV := Lib.hid (show struckV s.seen f.n = match (keysOf s.seen)[(f.n % ((keysOf s.seen).length : Int)).toNat]? with | some k => .tuple #[encB k, .bool true] | none => .tuple #[.string ⟨#[]⟩, .bool false] from rfl)
 have HBX := Lib.hid (show ∀ w1, Below (w.alloc (.cells #[.int .u8 f.kind, .int .i64 f.store, .int .i64 f.n, .int .i64 f.at_, .int .i64 f.c] 34)).heap.size (w.alloc (.cells #[.int .u8 f.kind, .int .i64 f.store, .int .i64 f.n, .int .i64 f.at_, .int .i64 f.c] 34)) w1 → w1.cell? ⟨w.heap.size, 2, none⟩ = some (.int .i64 f.n) ∧ Below w.heap.size w w1 from fun w1 hb => ⟨(hb.cell (p := ⟨w.heap.size, 2, none⟩) (by simp)).trans hf2, hb0.trans (hb.mono (by simp))⟩)
 clear h h1 hs hf2 hb0
 go_enter Tryz.func147, Tryz.ntmps147
 go_wp2_with (go_at_call 89; refine HN.out.mono ?_)
 rintro e w1 ⟨v, rfl, hrow, hv, hbl⟩
 obtain ⟨hc2, hb1⟩ := HBX.out w1 hbl
 have HB1 := Lib.hid hb1
 clear hbl hb1
 by_cases hk : keysOf s.seen = []
 ·rw [hv.2 hk]
  have HSV2 := Lib.hid (show struckV s.seen f.n = .tuple #[.string ⟨#[]⟩, .bool false] from by rw [HSV.out, hk]; rfl)
  clear hrow hv hk
  go_wp2_with fail
  go_ret2
  exact ⟨HSV2.out.symm ▸ rfl, HB1.out⟩
 ·obtain ⟨A, cap, rfl, hA⟩ := row_form hrow
  have hpos : 0 < (keysOf s.seen).length := List.length_pos_iff.2 hk
  obtain ⟨g, cur, rfl, hg, hcur, hcs⟩ := hA hpos
  have HSV2 := Lib.hid HSV.out
  generalize hks : keysOf s.seen = ks at *
  obtain ⟨j, hj⟩ : ∃ j : Int, j = f.n % (ks.length : Int) := ⟨_, rfl⟩
  have hj0 : 0 ≤ j := by rw [hj]; exact Int.emod_nonneg _ (by omega)
  have hj1 : j < (ks.length : Int) := by rw [hj]; exact Int.emod_lt_of_pos _ (by omega)
  obtain ⟨k, hkk⟩ : ∃ k, ks[j.toNat]? = some k := ⟨_, List.getElem?_eq_getElem (by omega)⟩
  have hcell : w1.cell? ⟨g, j.toNat, none⟩ = some (encB k) := by
   rw [hcur.cell]
   exact hcs _ _ (by rw [List.getElem?_map, hkk]; rfl)
  rw [← hj, hkk] at HSV2
  have hne : ((ks.length : Int) == 0) = false := by simp; omega
  have hmod : Int.tmod f.n (ks.length : Int) = j := by rw [hj]; exact Int.tmod_eq_emod_of_nonneg hn
  have HJ := Lib.hid hj
  clear hrow hv hk hA hcur hcs hj hkk hks
  go_wp2_with fail
  go_ret2
  exact ⟨by rw [HSV2.out]; rfl, HB1.out⟩
/-! what a fault does -/
theorem Fr.sub {O O' : List Nat} {w w' : World} (h : Fr O w w') (hs : ∀ k, k ∈ O → k ∈ O') : Fr O' w w' := h.mono fun k hk _ => hs k hk
theorem Fr.next {O : List Nat} {a b c : World} (h : Fr O a b) (h' : Fr O b c) : Fr O a c := h.trans h' fun k hk _ => hk
theorem Fr.nil {O : List Nat} {w w' : World} (h : Fr [] w w') : Fr O w w' := h.sub (by simp)
theorem SIs.reseen {w : World} {B g m : Nat} {s : PSt} {ws : Value} (h : SIs w B s g m ws) {es : Array MapEntry} {cl : Nat} {m' : TMap} (hf : Fine es cl m') :
 SIs (setObjAt w m (.map es cl)) B { s with seen := m' } g m ws ∧ Fr [m] w (setObjAt w m (.map es cl)) := by
 have hn := h.apart
 simp only [sOwn, List.nodup_cons, List.mem_cons, not_or] at hn
 have hF := Fr.set_ w m (.map es cl)
 refine ⟨⟨hF.blk h.blk (by simp only [List.mem_singleton]; exact hn.1.2.1), hF.map h.good (by simp only [List.mem_singleton]; exact hn.2.1.1), ⟨es, cl, at_setObjAt _ _ _ h.seen.lt, hf⟩, row_heap h.row fun k hk => hF.block k (row_lt h.row hk) (by simp only [List.mem_singleton]; rintro rfl; exact hn.2.2.1 (by simp [hk])), h.apart⟩, hF⟩
theorem SIs.inO {w : World} {B g m : Nat} {s : PSt} {ws : Value} (_ : SIs w B s g m ws) : m ∈ sOwn B g m ws := by simp [sOwn]
theorem wipe_any {w : World} {B : Nat} {s : PSt} {O : List Nat} (h : SAt w B s O) (f : Flt) :
 Calls Tryz.prog 112 #[.pointer (some ⟨B, 0, none⟩), .agg #[.int .u8 f.kind, .int .i64 f.store, .int .i64 f.n, .int .i64 f.at_, .int .i64 f.c]] w (StPost w B O (.tuple #[]) ({ s with seen := [] } : PSt).settled) := by
 obtain ⟨g, m, ws, h, rfl⟩ := h
 have h1 := h.alloc (.cells #[.int .u8 f.kind, .int .i64 f.store, .int .i64 f.n, .int .i64 f.at_, .int .i64 f.c] 34)
 obtain ⟨cl, hcl⟩ := run_clear Tryz.underlying126 h1.seen 0
 obtain ⟨h2, hF2⟩ := h1.reseen (fine_none cl)
 have c2 := h.c2
 have HB := Lib.hid h.blk.lt
 have HF := Lib.hid (((Fr.alloc w (.cells #[.int .u8 f.kind, .int .i64 f.store, .int .i64 f.n, .int .i64 f.at_, .int .i64 f.c] 34)).nil (O := sOwn B g m ws)).next (hF2.sub fun k hk => by simp only [List.mem_singleton] at hk; rw [hk]; exact h.inO))
 have H2 := Lib.hid h2
 clear h h1 h2 hF2
 have hBlt := HB.out
 go_enter Tryz.func112, Tryz.ntmps112
 go_wp2_with (go_at_call 111; ((with_reducible refine (settle_any H2.out).mono ?_)))
 intro e w1 hp
 have HP := Lib.hid ((hp.post (g := g) (ws := ws)).front HF.out)
 obtain ⟨rfl, -, -⟩ := hp
 go_wp2_with fail
 go_end0
 exact HP.out
def lostM (m : TMap) (n : Int) : TMap := match struckO m n with
 | some k => TMap.del m ⟨k.toArray⟩
 | none => m
theorem lose_any {w : World} {B : Nat} {s : PSt} {O : List Nat} (h : SAt w B s O) (hs : Small s.seen) (f : Flt) (hn : 0 ≤ f.n) (hn2 : f.n ≤ 9223372036854775807) :
 Calls Tryz.prog 113 #[.pointer (some ⟨B, 0, none⟩), .agg #[.int .u8 f.kind, .int .i64 f.store, .int .i64 f.n, .int .i64 f.at_, .int .i64 f.c]] w (StPost w B O (.tuple #[]) ({ s with seen := lostM s.seen f.n } : PSt).settled) := by
 obtain ⟨g, m, ws, h, rfl⟩ := h
 have h1 := h.alloc (.cells #[.int .u8 f.kind, .int .i64 f.store, .int .i64 f.n, .int .i64 f.at_, .int .i64 f.c] 34)
 have HST := Lib.hid (struck_any ⟨g, m, ws, h1, rfl⟩ hs f hn hn2)
 have HF1 := Lib.hid (Fr.alloc w (.cells #[.int .u8 f.kind, .int .i64 f.store, .int .i64 f.n, .int .i64 f.at_, .int .i64 f.c] 34))
 have H1 := Lib.hid h1
 have hld := Stab.Ext.alloc w (.cells #[.int .u8 f.kind, .int .i64 f.store, .int .i64 f.n, .int .i64 f.at_, .int .i64 f.c] 34)
 have b2 := Blk.new w 34 #[.int .u8 f.kind, .int .i64 f.store, .int .i64 f.n, .int .i64 f.at_, .int .i64 f.c]
 have HM := Lib.hid (show sOwn B g m ws = sOwn B g m ws ∧ m ∈ sOwn B g m ws from ⟨rfl, h.inO⟩)
 clear h h1 hs hld
 go_enter Tryz.func113, Tryz.ntmps113
 go_wp2_with (go_at_call 147; ((with_reducible refine HST.out.mono ?_)))
 rintro e w2 ⟨rfl, hbl⟩
 have h2 := H1.out.keep (Fr.of_below (O := []) hbl) (by simp)
 have HF2 := Lib.hid ((HF1.out.nil (O := sOwn B g m ws)).next (Fr.of_below hbl))
 cases hk : struckO s.seen f.n with
 | none =>
   have HL := Lib.hid (show lostM s.seen f.n = s.seen from by rw [lostM, hk])
   have hV : struckV s.seen f.n = .tuple #[.string ⟨#[]⟩, .bool false] := by rw [struckV, hk]
   rw [hV]
   have H2 := Lib.hid h2
   clear hk hV h2 hbl b2
   go_wp2_with (go_at_call 111; ((with_reducible refine (settle_any H2.out).mono ?_)))
   intro e w1 hp
   have HP := Lib.hid ((hp.post (g := g) (ws := ws)).front HF2.out)
   obtain ⟨rfl, -, -⟩ := hp
   go_wp2_with fail
   go_end0
   rw [HL.out]
   exact HP.out
 | some k =>
   have HL := Lib.hid (show lostM s.seen f.n = TMap.del s.seen ⟨k.toArray⟩ from by rw [lostM, hk])
   have hV : struckV s.seen f.n = .tuple #[encB k, .bool true] := by rw [struckV, hk]
   rw [hV]
   have c2 := h2.c2
   obtain ⟨es, cl, hdel, hfine⟩ := run_del Tryz.underlying126 Tryz.underlying9 h2.seen ⟨k.toArray⟩ 0
   obtain ⟨h3, hF3⟩ := h2.reseen hfine
   have H3 := Lib.hid h3
   have HF3 := Lib.hid (HF2.out.next (hF3.sub fun k hk => by simp only [List.mem_singleton] at hk; rw [hk]; exact HM.out.2))
   have he : encB k = .string ⟨k.toArray⟩ := rfl
   clear hk hV h2 hbl b2 hfine h3 hF3
   go_wp2_with (go_at_call 111; ((with_reducible refine (settle_any H3.out).mono ?_)))
   intro e w1 hp
   have HP := Lib.hid ((hp.post (g := g) (ws := ws)).front HF3.out)
   obtain ⟨rfl, -, -⟩ := hp
   go_wp2_with fail
   go_end0
   rw [HL.out]
   exact HP.out
/-! one byte bent -/
def FBlk (w : World) (g : Nat) (t : TypeId) (cs : Array Value) (fz : Nat × Nat) : Prop := w.heap[g]? = some (.cells cs t fz)
section
variable {w w' : World} {g : Nat} {t : TypeId} {cs : Array Value} {fz : Nat × Nat}
theorem FBlk.lt (h : FBlk w g t cs fz) : g < w.heap.size := by
 rcases Nat.lt_or_ge g w.heap.size with hlt | hge
 ·exact hlt
 ·unfold FBlk at h; rw [Array.getElem?_eq_none hge] at h; cases h
theorem FBlk.cell (h : FBlk w g t cs fz) (i : Nat) : w.cell? ⟨g, i, none⟩ = cs[i]? := cell_of_row w g i cs t fz h
theorem FBlk.frozen (h : FBlk w g t cs fz) (i : Nat) (hi : i < fz.1) : w.frozen? ⟨g, i, none⟩ = false := by
 unfold FBlk at h
 simp [World.frozen?, h]
 intro h1; omega
theorem FBlk.alloc (h : FBlk w g t cs fz) (o : Obj) : FBlk (w.alloc o) g t cs fz := (Below.heap_alloc w o g h.lt).trans h
theorem FBlk.set_ (h : FBlk w g t cs fz) (i : Nat) (u : Value) : FBlk (w.setCell ⟨g, i, none⟩ u) g t (cs.setIfInBounds i u) fz := by
 unfold FBlk at h ⊢
 simp [World.setCell, Array.getElem?_modify, h]
theorem FBlk.below {B : Nat} (h : FBlk w g t cs fz) (hb : Below B w w') (hg : g < B) : FBlk w' g t cs fz := (hb.block g hg).trans h
end
theorem run_text' {P : Program} {w : World} {src e dst : TypeId} (hs : P.underlying src = some (.slice e)) (he : P.underlying e = some (.int .u8)) (hd : P.underlying dst = some .string) {g cap : Nat} {t : TypeId} {l : List UInt8} {r : Array Value} {fz : Nat × Nat} (h : FBlk w g t (nums l ++ r) fz) :
 (convert src dst (.slice (some ⟨g, 0, none⟩) l.length cap)).run P w = .ok (.string ⟨l.toArray⟩) w := by
 refine run_convert_bytes_back w src dst e ⟨g, 0, none⟩ cap l hs he hd (fun j hj => ?_)
 have hp : (⟨g, 0, none⟩ : Addr).add j = ⟨g, j, none⟩ := by unfold Addr.add; split <;> simp_all
 rw [hp, h.cell j, Array.getElem?_append_left (by rw [nums_size]; exact hj), nums_get l j hj]
theorem bytes_blk (w : World) (D : List UInt8) : ∃ r fz, FBlk (Lib.bytesWorld w 5 ⟨D.toArray⟩) w.heap.size 5 (nums D ++ r) fz ∧ D.length ≤ fz.1 := by
 have h := Lib.bytesWorld_at_new w 5 ⟨D.toArray⟩
 have e : Lib.bytesCells w 5 ⟨D.toArray⟩ = nums D ++ Array.replicate (grownCap w (⟨D.toArray⟩ : ByteArray).size 0 5 - (⟨D.toArray⟩ : ByteArray).size) (.int .u8 0) := by
  unfold Lib.bytesCells nums
  congr 1
  apply Array.toList_inj.1
  simp
 rw [e] at h
 exact ⟨_, _, h, by show D.length ≤ (nums D ++ Array.replicate _ _).size; rw [Array.size_append, nums_size]; omega⟩
def bentB (d : ByteArray) (at_ c : Int) : ByteArray := ⟨(d.data.toList.set (at_ % (d.size : Int)).toNat (UInt8.ofNat (c % 256).toNat)).toArray⟩
def bentM (m : TMap) (f : Flt) : TMap := match struckO m f.n with
 | some k => match TMap.look m ⟨k.toArray⟩ with
   | some d => if d.size = 0 then m else TMap.put m ⟨k.toArray⟩ (bentB d f.at_ f.c)
   | none => m
 | none => m
theorem bend_any {w : World} {B : Nat} {s : PSt} {O : List Nat} (h : SAt w B s O) (hs : Small s.seen) (f : Flt) (hn : 0 ≤ f.n) (hn2 : f.n ≤ 9223372036854775807) (ha : 0 ≤ f.at_) (ha2 : f.at_ ≤ 9223372036854775807) (hc : 0 ≤ f.c) (hc2 : f.c ≤ 255) :
 Calls Tryz.prog 114 #[.pointer (some ⟨B, 0, none⟩), .agg #[.int .u8 f.kind, .int .i64 f.store, .int .i64 f.n, .int .i64 f.at_, .int .i64 f.c]] w (StPost w B O (.tuple #[]) ({ s with seen := bentM s.seen f } : PSt).settled) := by
 obtain ⟨g, m, ws, h, rfl⟩ := h
 have h1 := h.alloc (.cells #[.int .u8 f.kind, .int .i64 f.store, .int .i64 f.n, .int .i64 f.at_, .int .i64 f.c] 34)
 have HST := Lib.hid (struck_any ⟨g, m, ws, h1, rfl⟩ hs f hn hn2)
 have HF1 := Lib.hid (Fr.alloc w (.cells #[.int .u8 f.kind, .int .i64 f.store, .int .i64 f.n, .int .i64 f.at_, .int .i64 f.c] 34))
 have H1 := Lib.hid h1
 have b2 := Blk.new w 34 #[.int .u8 f.kind, .int .i64 f.store, .int .i64 f.n, .int .i64 f.at_, .int .i64 f.c]
 have HM := Lib.hid h.inO
 have HS := Lib.hid hs
 clear h h1 hs
 go_enter Tryz.func114, Tryz.ntmps114
 go_wp2_with (go_at_call 147; ((with_reducible refine HST.out.mono ?_)))
 rintro e w2 ⟨rfl, hbl⟩
 have h2 := H1.out.keep (Fr.of_below (O := []) hbl) (by simp)
 have HF2 := Lib.hid ((HF1.out.nil (O := sOwn B g m ws)).next (Fr.of_below hbl))
 have c2 := h2.c2
 cases hk : struckO s.seen f.n with
 | none =>
   have HL := Lib.hid (show bentM s.seen f = s.seen from by rw [bentM, hk])
   have hV : struckV s.seen f.n = .tuple #[.string ⟨#[]⟩, .bool false] := by rw [struckV, hk]
   rw [hV]
   have H2 := Lib.hid h2
   clear hk hV h2 hbl b2
   go_wp2_with (go_at_call 111; ((with_reducible refine (settle_any H2.out).mono ?_)))
   intro e w1 hp
   have HP := Lib.hid ((hp.post (g := g) (ws := ws)).front HF2.out)
   obtain ⟨rfl, -, -⟩ := hp
   go_wp2_with fail
   go_end0
   rw [HL.out]
   exact HP.out
 | some k =>
   have hV : struckV s.seen f.n = .tuple #[encB k, .bool true] := by rw [struckV, hk]
   rw [hV]
   have hlk := run_look Tryz.underlying126 Tryz.underlying9 h2.seen (zeroS w2) ⟨k.toArray⟩ false
   have he : encB k = .string ⟨k.toArray⟩ := rfl
   cases hd : TMap.look s.seen ⟨k.toArray⟩ with
   | none =>
     have HL := Lib.hid (show bentM s.seen f = s.seen from by rw [bentM, hk]; simp only [hd])
     rw [hd] at hlk
     have H2 := Lib.hid h2
     simp only [Option.map_none, Option.getD_none, Bool.false_eq_true, if_false] at hlk
     clear hk hV h2 hbl b2 hd
     go_wp2_with (go_at_call 111; ((with_reducible refine (settle_any H2.out).mono ?_)))
     intro e w1 hp
     have HP := Lib.hid ((hp.post (g := g) (ws := ws)).front HF2.out)
     obtain ⟨rfl, -, -⟩ := hp
     go_wp2_with fail
     go_end0
     rw [HL.out]
     exact HP.out
   | some d =>
     rw [hd] at hlk
     simp only [Option.map_some, Option.getD_some, Bool.false_eq_true, if_false] at hlk
     by_cases h0 : d.size = 0
     ·have HL := Lib.hid (show bentM s.seen f = s.seen from by rw [bentM, hk]; simp only [hd, h0, if_true])
      have hd0 : d = ⟨#[]⟩ := by
       apply ByteArray.ext
       exact Array.eq_empty_of_size_eq_zero h0
      subst hd0
      have H2 := Lib.hid h2
      clear hk hV h2 hbl b2 hd h0
      go_wp2_with (go_at_call 111; ((with_reducible refine (settle_any H2.out).mono ?_)))
      intro e w1 hp
      have HP := Lib.hid ((hp.post (g := g) (ws := ws)).front HF2.out)
      obtain ⟨rfl, -, -⟩ := hp
      go_wp2_with fail
      go_end0
      rw [HL.out]
      exact HP.out
     ·have hsm : d.size ≤ 1000000 := Nat.le_trans (HS.out.key _ (TMap.look_mem hd)).2 (by decide)
      have HL := Lib.hid (show bentM s.seen f = TMap.put s.seen ⟨k.toArray⟩ (bentB d f.at_ f.c) from by rw [bentM, hk]; simp only [hd, if_neg h0])
      have hbx : ∀ i u, (#[.int .u8 f.kind, .int .i64 f.store, .int .i64 f.n, .int .i64 f.at_, .int .i64 f.c] : Array Value)[i]? = some u → w2.cell? ⟨w.heap.size, i, none⟩ = some u := fun i u hu => (hbl.cell (p := ⟨w.heap.size, i, none⟩) (by simp)).trans ((b2.cell i).trans hu)
      obtain ⟨D, rfl⟩ : ∃ D : List UInt8, d = ⟨D.toArray⟩ := ⟨d.data.toList, by simp⟩
      have hsz : (⟨D.toArray⟩ : ByteArray).size = D.length := by simp [ByteArray.size]
      rw [hsz] at h0 hsm
      have hemp : D.isEmpty = false := by
       cases D with
       | nil => exact absurd rfl h0
       | cons a l => rfl
      have H2 := Lib.hid h2
      have HBX := Lib.hid hbx
      have HBL := Lib.hid hbl
      clear hk hV h2 hbl b2 hd hbx
      go_wp2_with fail
      rw [Lib.run_convert_string_bytes _ 9 136 5 ⟨D.toArray⟩ Tryz.underlying9 Tryz.underlying136 Tryz.underlying5]
      simp only [Result.andThen]
      rw [Oper.upon_value]
      obtain ⟨r, fz, hfb, hfz⟩ := bytes_blk w2 D
      have hbb := Lib.bytesWorld_below w2 5 ⟨D.toArray⟩
      have hw2 : w2.heap.size < (Lib.bytesWorld w2 5 ⟨D.toArray⟩).heap.size := hfb.lt
      rw [hsz]
      have hcap : D.length ≤ grownCap w2 D.length 0 5 := grownCap_ge w2 D.length 0 5
      generalize grownCap w2 D.length 0 5 = cap at *
      have HBB := Lib.hid (show Fr [] w2 (Lib.bytesWorld w2 5 ⟨D.toArray⟩) from Fr.of_below hbb)
      have b3 : (Lib.bytesWorld w2 5 ⟨D.toArray⟩).cell? ⟨w.heap.size, 3, none⟩ = some (.int .i64 f.at_) := (hbb.cell (p := ⟨w.heap.size, 3, none⟩) (by have := HBL.out.size; simp at this; show w.heap.size < w2.heap.size; omega)).trans (HBX.out 3 _ rfl)
      have b4 : (Lib.bytesWorld w2 5 ⟨D.toArray⟩).cell? ⟨w.heap.size, 4, none⟩ = some (.int .i64 f.c) := (hbb.cell (p := ⟨w.heap.size, 4, none⟩) (by have := HBL.out.size; simp at this; show w.heap.size < w2.heap.size; omega)).trans (HBX.out 4 _ rfl)
      have HX := Lib.hid (show w.heap.size < w2.heap.size from by have := HBL.out.size; simp at this; omega)
      obtain ⟨bb, hbb0⟩ : ∃ bb, bb = w2.heap.size := ⟨_, rfl⟩
      rw [← hbb0] at hfb hw2 ⊢
      have HBB0 := Lib.hid hbb0
      clear hbb hbb0
      generalize Lib.bytesWorld w2 5 ⟨D.toArray⟩ = w3 at *
      -- where the byte stands
      have hDpos : 0 < D.length := Nat.pos_of_ne_zero h0
      obtain ⟨j, hj⟩ : ∃ j : Nat, f.at_ % (D.length : Int) = (j : Int) := ⟨(f.at_ % (D.length : Int)).toNat, by rw [Int.toNat_of_nonneg (Int.emod_nonneg _ (by omega))]⟩
      have hjl : j < D.length := by have := Int.emod_lt_of_pos f.at_ (show (0 : Int) < (D.length : Int) by omega); omega
      have hmod : Int.tmod f.at_ (D.length : Int) = (j : Int) := by rw [Int.tmod_eq_emod_of_nonneg ha, hj]
      have hji : (j : Int) < (D.length : Int) := by omega
      have hcw : IntKind.u8.wrap f.c = f.c := by rw [IntKind.wrap_u8]; omega
      obtain ⟨by_, hby⟩ : ∃ by_ : UInt8, (by_.toNat : Int) = f.c := ⟨UInt8.ofNat f.c.toNat, by simp; omega⟩
      obtain ⟨D1, hD1⟩ : ∃ D1, D1 = D.set j by_ := ⟨_, rfl⟩
      have hbent : bentB ⟨D.toArray⟩ f.at_ f.c = ⟨D1.toArray⟩ := by
       unfold bentB
       rw [hsz, hj, hD1]
       have e : UInt8.ofNat (f.c % 256).toNat = by_ := by
        apply UInt8.toNat_inj.1
        simp
        omega
       rw [e]
       simp
      rw [hbent] at HL
      have HJ := Lib.hid hj
      have HFB := Lib.hid hfb
      have HBY := Lib.hid hby
      have HD1 := Lib.hid hD1
      have HBX4 := Lib.hid (show w3.cell? ⟨w.heap.size, 3, none⟩ = some (.int .i64 f.at_) ∧ w3.cell? ⟨w.heap.size, 4, none⟩ = some (.int .i64 f.c) from ⟨b3, b4⟩)
      clear hj hby hD1 hbent b3 b4 hsz hfb hlk c2
      go_wp2_with fail
      refine Stab.rg 10 [[], [], [1], [], [3], [2, 4], [], [6], [7], [0, 5]] [9, 8] (fun W => W.cell? ⟨w.heap.size, 3, none⟩ = some (.int .i64 f.at_) ∧ W.cell? ⟨w.heap.size, 4, none⟩ = some (.int .i64 f.c)) [Stab.eqv ?_, Stab.eqv ?_, Stab.eqv ?_, Stab.eqv ?_, Stab.eqv ?_, Stab.eqv ?_, Stab.eqv ?_, Stab.eqv ?_, Stab.eqv ?_, Stab.eqv ?_] HBX4.out (fun _ _ h hE => ⟨hE.cell h.1, hE.cell h.2⟩) ?goals4 ?last4
      case goals4 =>
       simp only [List.take_succ_cons, List.take_zero]
       iterate 10
        refine Stab.gp (fun us w _ hE hS hp hK => ?_) ?_
        ·((try have e0 : _ = _ := hp.1); (try have e1 : _ = _ := hp.2.1); (try have e2 : _ = _ := hp.2.2.1); obtain ⟨s0, s1⟩ := hS; go_simp; exact hK _ _ (by show _ = _; with_reducible rfl) (Stab.Ext.refl _))
       exact Stab.Goals.nil
      case last4 =>
       intro us w' hE hS hp
       obtain ⟨h9, h8, -⟩ := hp
       replace h9 : us 9 = _ := h9
       replace h8 : us 8 = _ := h8
       simp only [List.drop_succ_cons, List.drop_zero, h9, h8]
       have hE3 : Stab.Ext w3 w' := (Stab.Ext.drew w3).trans hE
       have hfb' := HFB.out.below hE3 HFB.out.lt
       have hcj : w'.cell? ⟨bb, j, none⟩ = some (.int .u8 (D[j].toNat : Int)) := by
        rw [hfb'.cell j, Array.getElem?_append_left (by rw [nums_size]; exact hjl), nums_get D j hjl]
       have hfj := hfb'.frozen j (by omega)
       have hfb4 : FBlk (w'.setCell ⟨bb, j, none⟩ (.int .u8 f.c)) bb 5 (nums D1 ++ r) fz := by
        have h := hfb'.set_ j (.int .u8 f.c)
        rw [← HBY.out] at h ⊢
        rw [HD1.out, ← nums_set D j by_, ← Array.setIfInBounds_append_left (by rw [nums_size]; exact hjl)]
        exact h
       have hl1 : D1.length = D.length := by rw [HD1.out, List.length_set]
       have hF4 : Fr [bb] w2 (w'.setCell ⟨bb, j, none⟩ (.int .u8 f.c)) := ((HBB.out.nil (O := [bb])).next (Fr.of_below hE3)).next (Fr.cell w' ⟨bb, j, none⟩ _)
       have h4 : SIs (w'.setCell ⟨bb, j, none⟩ (.int .u8 f.c)) B s g m ws := H2.out.keep hF4 (fun k hk => by
        have := H2.out.lt k hk
        have := HBB0.out
        simp only [List.mem_singleton]
        omega)
       have HF4 := Lib.hid (HF2.out.trans hF4 (fun k hk hl => by
        simp only [List.mem_singleton] at hk
        have := HBB0.out
        have := HX.out
        omega))
       have H4 := Lib.hid h4
       have HFB4 := Lib.hid (show (w'.setCell ⟨bb, j, none⟩ (.int .u8 f.c)).cell? ⟨B, 2, none⟩ = some (.map (some m)) ∧ FBlk (w'.setCell ⟨bb, j, none⟩ (.int .u8 f.c)) bb 5 (nums D1 ++ r) fz from ⟨h4.c2, hfb4⟩)
       have HL1 := Lib.hid hl1
       clear hS h9 h8 hE hE3 hfb' hfb4 hF4 h4 hl1
       go_wp2_with fail
       have hcv := fun (W : World) (h : FBlk W bb 5 (nums D1 ++ r) fz) => run_text' (P := Tryz.prog) (src := 136) (e := 5) (dst := 9) (cap := cap) Tryz.underlying136 Tryz.underlying5 Tryz.underlying9 h
       rw [HL1.out] at hcv
       have HCV := Lib.hid hcv
       clear hcv
       refine Stab.rg 7 [[], [0], [1], [2], [], [], [5]] [3, 4, 6] (fun W => W.cell? ⟨B, 2, none⟩ = some (.map (some m)) ∧ FBlk W bb 5 (nums D1 ++ r) fz) [Stab.eqv ?_, Stab.eqv ?_, Stab.eqv ?_, Stab.eqv ?_, Stab.eqv ?_, Stab.eqv ?_, Stab.eqv ?_] HFB4.out (fun _ _ h hE => ⟨hE.cell h.1, h.2.below hE h.2.lt⟩) ?goals5 ?last5
       case goals5 =>
        simp only [List.take_succ_cons, List.take_zero]
        iterate 3
         refine Stab.gp (fun us w _ hE hS hp hK => ?_) ?_
         ·((try have e0 : _ = _ := hp.1); (try have e1 : _ = _ := hp.2.1); (try have e2 : _ = _ := hp.2.2.1); have hcv := HCV.out _ hS.2; go_simp; exact hK _ _ (by show _ = _; with_reducible rfl) (Stab.Ext.refl _))
        refine Stab.Goals.plain rfl rfl (fun us w cK hE hS hp hK => ?_) ?_
        ·obtain ⟨h2, -⟩ := hp
         replace h2 : us 2 = _ := h2
         obtain ⟨s0, -⟩ := hS
         go_simp
         refine hK _ _ ?_ (Stab.Ext.refl _)
         show _ = _
         with_reducible rfl
        iterate 3
         refine Stab.gp (fun us w _ hE hS hp hK => ?_) ?_
         ·((try have e0 : _ = _ := hp.1); (try have e1 : _ = _ := hp.2.1); (try have e2 : _ = _ := hp.2.2.1); have hcv := HCV.out _ hS.2; go_simp; exact hK _ _ (by show _ = _; with_reducible rfl) (Stab.Ext.refl _))
        exact Stab.Goals.nil
       case last5 =>
        intro us w5 hE hS hp
        obtain ⟨h3, h4, h6, -⟩ := hp
        replace h3 : us 3 = _ := h3
        replace h4 : us 4 = _ := h4
        replace h6 : us 6 = _ := h6
        simp only [List.drop_succ_cons, List.drop_zero, h3, h4, h6]
        have hE5 := (Stab.Ext.drew (w'.setCell ⟨bb, j, none⟩ (.int .u8 f.c))).trans hE
        have h5 := H4.out.keep (Fr.of_below (O := []) hE5) (by simp)
        obtain ⟨es, cl, hput, hfine⟩ := run_put Tryz.underlying126 Tryz.underlying9 h5.seen ⟨k.toArray⟩ ⟨D1.toArray⟩
        obtain ⟨h7, hF7⟩ := h5.reseen hfine
        have H7 := Lib.hid h7
        have HF7 := Lib.hid ((HF4.out.next (Fr.of_below hE5)).next (hF7.sub fun k hk => by simp only [List.mem_singleton] at hk; rw [hk]; exact HM.out))
        clear hS h3 h4 h6 hE hE5 h5 hfine h7 hF7
        go_wp2_with (go_at_call 111; ((with_reducible refine (settle_any H7.out).mono ?_)))
        intro e w1 hp
        have HP := Lib.hid ((hp.post (g := g) (ws := ws)).front HF7.out)
        obtain ⟨rfl, -, -⟩ := hp
        go_wp2_with fail
        go_end0
        rw [HL.out]
        exact HP.out
end Vm
end Go.Proofs.YtnbkhdbligjifaaGreatDoor
namespace Go.Proofs.YtnbkhdbligjifaaGreatDoor
open Go Go.RowKit Go.ChangeMaps
namespace Vm
/-! a sum over the entries that have come -/
def wsum (wt : MapEntry → Nat) (seen : Array Nat) : List MapEntry → Nat
 | [] => 0
 | e :: es => (if seen.contains e.born then wt e else 0) + wsum wt seen es
def wall (wt : MapEntry → Nat) : List MapEntry → Nat
 | [] => 0
 | e :: es => wt e + wall wt es
theorem wsum_none (wt : MapEntry → Nat) : ∀ es, wsum wt #[] es = 0
 | [] => rfl
 | e :: es => by simp [wsum, wsum_none wt es]
theorem wsum_le (wt : MapEntry → Nat) (seen : Array Nat) : ∀ es, wsum wt seen es ≤ wall wt es
 | [] => Nat.le_refl _
 | e :: es => by rw [wsum, wall]; have := wsum_le wt seen es; split <;> omega
theorem wsum_keep (wt : MapEntry → Nat) (seen : Array Nat) (b : Nat) : ∀ es : List MapEntry, b ∉ es.map (·.born) → wsum wt (seen.push b) es = wsum wt seen es
 | [], _ => rfl
 | e :: es, h => by
   rw [List.map_cons, List.mem_cons, not_or] at h
   rw [wsum, wsum, wsum_keep wt seen b es h.2]
   have : (seen.push b).contains e.born = seen.contains e.born := by
    rw [Array.contains_push]; simp [Ne.symm h.1]
   rw [this]
theorem wsum_push (wt : MapEntry → Nat) (seen : Array Nat) (e : MapEntry) (hs : seen.contains e.born = false) : ∀ es : List MapEntry, (es.map (·.born)).Nodup → e ∈ es → wsum wt (seen.push e.born) es = wsum wt seen es + wt e
 | [], _, h => by cases h
 | x :: es, hn, h => by
   rw [List.map_cons, List.nodup_cons] at hn
   rw [wsum, wsum]
   by_cases hx : x = e
   ·subst hx
    rw [wsum_keep wt seen _ es hn.1, hs]
    have : (seen.push x.born).contains x.born = true := by rw [Array.contains_push]; simp
    rw [this]; simp; omega
   ·have hm : e ∈ es := by
     rcases List.mem_cons.1 h with rfl | h
     ·exact absurd rfl hx
     ·exact h
    have hne : e.born ≠ x.born := fun he => hn.1 (he ▸ List.mem_map_of_mem (f := (·.born)) hm)
    have : (seen.push e.born).contains x.born = seen.contains x.born := by rw [Array.contains_push]; simp [hne, Ne.symm hne]
    rw [this, wsum_push wt seen e hs es hn.2 hm]; omega
theorem wsum_all (wt : MapEntry → Nat) (seen : Array Nat) : ∀ es : List MapEntry, (∀ x ∈ es, seen.contains x.born = true) → wsum wt seen es = wall wt es
 | [], _ => rfl
 | e :: es, h => by
   rw [wsum, wall, h e (List.mem_cons_self ..), wsum_all wt seen es fun x hx => h x (List.mem_cons_of_mem _ hx)]
   rfl
theorem wrapU {n : Int} (h0 : 0 ≤ n) (h1 : n < 9223372036854775808) : wrap64 n = n := by unfold wrap64; omega
theorem bare_walk (s : ByteArray) (w : World) : Calls Tryz.prog 108 #[.string s] w fun e w' => e = .returned (.bool (s.toList == [109, 48] || s.toList == [109, 49])) ∧ w' = w := by
 go_enter Tryz.func108, Tryz.ntmps108
 go_wp2
 all_goals
  go_ret
  refine ⟨?_, rfl⟩
  first | rfl | (rename_i h; show Ending.returned (.bool true) = _; rw [h]; rfl)
def wtU (e : MapEntry) : Nat := match e.key, e.val with
 | .string s, .string d => if s.toList == [109, 48] || s.toList == [109, 49] then 0 else d.size
 | _, _ => 0
structure ReadyU (w : World) (B : Nat) (es : Array MapEntry) (cl t : Nat) : Prop where
 map : w.heap[B]? = some (.map es cl)
 born : ∀ e ∈ es.toList, e.born < cl
 nodup : (es.toList.map (·.born)).Nodup
 entry : ∀ e ∈ es.toList, ∃ s d, e.key = .string s ∧ e.val = .string d
 sum : wall wtU es.toList = t
 small : t ≤ 1000000000
theorem used_walk {P o B : Nat} {es : Array MapEntry} {cl t : Nat} {w : World} (hc : w.cell? ⟨P, o + 2, none⟩ = some (.map (some B))) (hR : ReadyU w B es cl t) :
 Calls Tryz.prog 109 #[.pointer (some ⟨P, o, none⟩)] w fun e w' => e = .returned (.int .i64 (t : Int)) ∧ Below w.heap.size w w' := by
 have hrg := run_range_map (P := Tryz.prog) w 126 9 9 B es cl Tryz.underlying126 hR.map
 obtain ⟨it, hit⟩ : ∃ it, w.heap.size = it := ⟨_, rfl⟩
 rw [hit] at hrg
 go_enter Tryz.func109, Tryz.ntmps109
 go_wp2
 go_loopw [3] (fun v wr => ∃ seen : Array Nat, wr.heap[it]? = some (.mapIter (some B) cl seen cl) ∧ Below w.heap.size w wr ∧ v = .int .i64 ((wsum wtU seen es.toList : Nat) : Int)) (fun _ wr => (leftOf es (wr.iterSeen it)).size)
 case atStart =>
  refine ⟨#[], ?_, (Below.refl _ _).alloc (Nat.le_refl _) _, ?_⟩
  ·rw [← hit]
   exact Go.heap_alloc_new ..
  ·rw [wsum_none]; rfl
 case round =>
  obtain ⟨seen, hr, hbel, rfl⟩ := hrel
  have hBlt : B < w.heap.size := (Array.getElem?_eq_some_iff.1 hR.map).1
  have hbr : ∀ k, k < w.heap.size → wr.heap[k]? = w.heap[k]? := by
   obtain ⟨_, _, _, _, h5⟩ := hbel
   exact h5
  have hbB := (hbr B hBlt).trans hR.map
  rcases run_next_at (P := Tryz.prog) wr 0 it B cl cl seen es cl hr hbB hR.born (Nat.le_refl _) with ⟨h0, hrun⟩ | ⟨e, he, wa, hal, hrun⟩
  ·have hnx : ∀ ty, (Instr.next (.pointer (some ⟨it, 0, none⟩)) false ty).run Tryz.prog wr = _ := fun _ => hrun
   have hall : wsum wtU seen es.toList = t := (wsum_all wtU seen es.toList (all_seen es seen h0)).trans hR.sum
   rw [hall]
   go_wp2
   go_ret
   exact ⟨rfl, hbel⟩
  ·have hem := mem_left he
   obtain ⟨s, d, hkey, hval⟩ := hR.entry e hem.1
   have hsum := wsum_push wtU seen e hem.2 es.toList hR.nodup hem.1
   have hle := wsum_le wtU (seen.push e.born) es.toList
   rw [hR.sum] at hle
   have hwt : wtU e = if s.toList == [109, 48] || s.toList == [109, 49] then 0 else d.size := by unfold wtU; rw [hkey, hval]
   rw [hwt] at hsum
   have hsml := hR.small
   rw [hkey, hval] at hrun
   have hnx : ∀ ty, (Instr.next (.pointer (some ⟨it, 0, none⟩)) false ty).run Tryz.prog wr = _ := fun _ => hrun
   have hah : wa.heap = wr.heap := by rcases hal with rfl | rfl <;> rfl
   have hitlt : it < wa.heap.size := by
    rw [hah]
    exact (Array.getElem?_eq_some_iff.1 hr).1
   obtain ⟨wn, hwn⟩ : ∃ wn, setBlock wa it (.mapIter (some B) cl (seen.push e.born) cl) = wn := ⟨_, rfl⟩
   rw [hwn] at hrun
   have hnr : wn.heap[it]? = some (.mapIter (some B) cl (seen.push e.born) cl) := by
    rw [← hwn]
    show (wa.heap.setIfInBounds it _)[it]? = _
    rw [Array.getElem?_setIfInBounds_self, if_pos hitlt]
   have hnk : ∀ k, k < w.heap.size → wn.heap[k]? = w.heap[k]? := by
    intro k hk
    rw [← hwn]
    show (wa.heap.setIfInBounds it _)[k]? = _
    rw [Array.getElem?_setIfInBounds_ne (by omega), hah]
    exact hbr k hk
   have hsz : wn.heap.size = wr.heap.size := by
    rw [← hwn]
    show (wa.heap.setIfInBounds it _).size = _
    rw [Array.size_setIfInBounds, hah]
   have hbn : Below w.heap.size w wn := by
    obtain ⟨b1, b2, b3, b4, b5⟩ := hbel
    have q : wa.os = wr.os ∧ wa.tape = wr.tape ∧ wa.output = wr.output := by rcases hal with rfl | rfl <;> exact ⟨rfl, rfl, rfl⟩
    refine ⟨?_, ?_, ?_, by omega, hnk⟩
    ·rw [← hwn]; exact q.1.trans b1
    ·rw [← hwn]; exact q.2.1.trans b2
    ·rw [← hwn]; exact q.2.2.trans b3
   have hen := run_entry_at (P := Tryz.prog) wn it B cl seen es cl e hnr ((hnk B hBlt).trans hR.map) hem.1 hR.nodup
   rw [hkey, hval] at hen
   have mes : (leftOf es (wn.iterSeen it)).size < (leftOf es (wr.iterSeen it)).size := by
    have e1 : wn.iterSeen it = seen.push e.born := by
     unfold World.iterSeen
     rw [hnr]
    have e2 : wr.iterSeen it = seen := by
     unfold World.iterSeen
     rw [hr]
    rw [e1, e2]
    exact left_shrinks es seen e he
   clear hrun
   go_wp2_with (go_at_call 108; refine (bare_walk s wn).mono ?_)
   rintro e2 w2 ⟨rfl, rfl⟩
   by_cases hbare : (s.toList == [109, 48] || s.toList == [109, 49]) = true
   ·rw [hbare] at hsum ⊢
    go_wp2_with fail
    refine ⟨⟨_, hnr, hbn, ?_⟩, mes⟩
    rw [hsum]; rfl
   ·rw [Bool.not_eq_true] at hbare
    rw [hbare] at hsum ⊢
    go_wp2_with fail
    refine ⟨⟨_, hnr, hbn, ?_⟩, mes⟩
    have hs2 : wsum wtU (seen.push e.born) es.toList = wsum wtU seen es.toList + d.size := hsum
    rw [wrapU (by omega) (by omega), hs2]
    rfl
end Vm
end Go.Proofs.YtnbkhdbligjifaaGreatDoor
