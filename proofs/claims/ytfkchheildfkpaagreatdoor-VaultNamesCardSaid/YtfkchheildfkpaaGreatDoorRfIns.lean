/-
 An oracle of the interpreter: slices.Insert of one element, of texts and of places, that is not put at the end.
-/
import Derived.Test.YtfkchheildfkpaaGreatDoorRfNat
import Derived.Shelf.Spec.SlicesInsertGrow
namespace Go.Proofs.YtfkchheildfkpaaGreatDoor.Refl
open Go Go.RowKit Go.Lib
namespace Abs
set_option linter.unusedVariables false
set_option linter.unusedSimpArgs false
def InsRoom (P : Program) (g s : Nat) : Prop := ∀ (b off n c i vb voff vc : Nat) (us row : List Value) (w : World) (cs cv : Array Value) (e ev : TypeId) (lo hi lv hv : Nat), i < n → n + 1 ≤ c → n + 1 ≤ 1000000000 → vb ≠ b →
   w.heap[b]? = some (.cells cs e (lo, hi)) → off + (n + 1) * s ≤ cs.size → (∀ j, off ≤ j → j < off + (n + 1) * s → ¬ (lo ≤ j ∧ j < hi)) →
   w.heap[vb]? = some (.cells cv ev (lv, hv)) → (∀ j v, us[j]? = some v → cv[voff + j]? = some v) → us.length = s → (∀ j v, row[j]? = some v → cs[off + i * s + j]? = some v) → row.length = (n - i) * s →
   (∀ v ∈ row, v.oneCell' = true) → (∀ v ∈ us, v.oneCell' = true) → ¬ (lv ≤ voff ∧ voff < hv) → ¬ (lv ≤ cv.size ∧ cv.size < hv) →
   Calls P g #[.slice (some ⟨b, off, none⟩) n c, .int .i64 i, .slice (some ⟨vb, voff, none⟩) 1 vc] w fun x w' =>
     x = .returned (.slice (some ⟨b, off, none⟩) (n + 1) c) ∧ w'.heap = (World.setObjAt w b (.cells (setCells (setCells cs (off + (i + 1) * s) row) (off + i * s) us) e (lo, hi))).heap ∧ w'.os = w.os ∧ w'.tape = w.tape ∧ w'.output = w.output
def InsGrow (P : Program) (g s by' : Nat) (tE : TypeId) : Prop := ∀ (b off n c i vb voff vc : Nat) (us row old : List Value) (w : World) (cs cv : Array Value) (e ev : TypeId) (fr fv : Nat × Nat), i < n → c < n + 1 → n ≤ c → (n + 1) * by' ≤ 1000000000 →
   w.heap[b]? = some (.cells cs e fr) → w.heap[vb]? = some (.cells cv ev fv) → (∀ j v, us[j]? = some v → cv[voff + j]? = some v) → us.length = s → (∀ j v, row[j]? = some v → cs[off + i * s + j]? = some v) → row.length = (n - i) * s →
   (∀ j v, old[j]? = some v → cs[off + j]? = some v) → old.length = i * s → (∀ v ∈ row, v.oneCell' = true) → (∀ v ∈ us, v.oneCell' = true) →
   Calls P g #[.slice (some ⟨b, off, none⟩) n c, .int .i64 i, .slice (some ⟨vb, voff, none⟩) 1 vc] w fun x w' =>
     ∃ G, n + 1 ≤ G ∧ x = .returned (.slice (some ⟨w.heap.size, 0, none⟩) (n + 1) G) ∧ ∃ ROW : Array Value, ROW.size = G * s ∧ (∀ (j : Nat) (v : Value), old[j]? = some v → ROW[j]? = some v) ∧ w'.heap = w.heap.push (.cells (setCells (setCells ROW (i * s) us) ((i + 1) * s) row) tE) ∧ w'.os = w.os ∧ w'.tape = w.tape ∧ w'.output = w.output
noncomputable def insO (s by' : Nat) (tE : TypeId) (call : List AVal → AState → KV Unit → Option Unit) (args : List AVal) (S : AState) (K : KV Unit) : Option Unit := match args with
 | [.slc b o n s1, .int .i64 (.ofNat i), .slc vb vo m s2] => match Nat.ble (Nat.succ i) n with
   | true => match S.heap.get b with
     | some (.cells c d k wr e) => match S.heap.get vb with
       | some (.cells cv dv kv wrv ev) =>
         match and (and (and wr wrv) (and (Nat.beq o 0) (and (Nat.beq s s1) (and (Nat.beq s s2) (Nat.beq m 1))))) (and (and (Nat.beq tE e) (and (Nat.beq tE ev) (not (Nat.beq vb b)))) (and (and (Nat.ble (Nat.mul n s) k) (Nat.ble (Nat.add vo s) kv)) (and (and (small (Nat.mul (Nat.succ n) by')) (and (small (Nat.mul (Nat.succ n) s)) (small S.next))) (and ((readCells c d (Nat.mul i s) (Nat.mul (Nat.sub n i) s)).all scalar) ((readCells cv dv vo s).all scalar))))) with
         | true => writeS S b .dead fun S => allocS S (.cells (putCells .leaf 0 (readCells c d 0 (Nat.mul i s) ++ (readCells cv dv vo s ++ readCells c d (Nat.mul i s) (Nat.mul (Nat.sub n i) s)))) d (Nat.mul (Nat.succ n) s) true tE) fun b' S => forceN (Nat.succ n) fun l => K (.slc b' 0 l s) S
         | false => none
       | _ => none
     | _ => none
   | false => call args S K
 | _ => call args S K
theorem ins_ok {E : Env} {g s by' : Nat} {tE : TypeId} (hs0 : 0 < s) (hne : E.P.underlying tE ≠ some (.int .u8)) {F : Func} {code : Code} (hF : E.P.funcs[g]? = some F) (hFn : (F.name == "runtime.NumGoroutine") = false) (hFb : F.body = some code)
   (hR : InsRoom E.P g s) (hG : InsGrow E.P g s by' tE) {call : List AVal → AState → KV Unit → Option Unit} (hcall : FuncOk E Unit g call) : FuncOk E Unit g (insO s by' tE call) := by
 intro args S K r h hok
 unfold insO at h
 split at h
 case h_2 => exact hcall _ _ _ _ h hok
 rename_i b o n s1 i vb vo m s2
 split at h
 case h_2 => exact hcall _ _ _ _ h hok
 rename_i hin
 split at h
 case h_2 => cases h
 rename_i c d k wr e hg
 split at h
 case h_2 => cases h
 rename_i cv dv kv wrv ev hgv
 split at h
 case h_2 => cases h
 rename_i hcond
 simp only [Bool.and_eq_true, Nat.beq_eq, Nat.ble_eq, Bool.not_eq_true'] at hcond
 obtain ⟨⟨⟨rfl, rfl⟩, rfl, rfl, rfl, rfl⟩, ⟨rfl, rfl, hbv⟩, ⟨hk, hkv⟩, ⟨hsm1, hsm2, hsm3⟩, hall, hallv⟩ := hcond
 have hin : i < n := Nat.le_of_ble_eq_true hin
 have hk : n * s ≤ k := hk
 have hkv : vo + s ≤ kv := hkv
 have hsm1 : (n + 1) * by' ≤ 1000000000 := small_lt hsm1
 have hsm2 : (n + 1) * s ≤ 1000000000 := small_lt hsm2
 have hsm3 := small_lt hsm3
 have hbv : vb ≠ b := fun h => by rw [h, Nat.beq_refl] at hbv; cases hbv
 rw [writeS_eq] at h
 obtain ⟨hnx, hK⟩ := allocS_eq h
 rw [forceN_eq] at hK
 clear h
 refine ⟨_, _, hK, (AStep.write (blk := .dead) hg trivial).trans (AStep.alloc _ trivial), fun M f w us h hM hus => ?_⟩
 have hM : S.next < M := hM
 obtain ⟨u1, us1, e1', hu1, u2, us2, rfl, hu2, u3, us3, rfl, hu3, hnil⟩ := hus
 cases hnil
 have hus2 : us = #[u1, u2, u3] := by
   have := congrArg List.toArray e1'
   simpa using this
 subst hus2
 have hu2 : u2 = .int .i64 (i : Int) := hu2
 subst hu2
 obtain ⟨B, N, cap, p, hf, hlc, hcn, hpo, rfl⟩ := hu1
 obtain ⟨VB, VN, vcap, vp, hfv, hlv, hcv, hpv, rfl⟩ := hu3
 obtain rfl : p = 0 := by rcases hpo with h1 | h1 <;> omega
 obtain rfl : vp = vo := by rcases hpv with h1 | h1 <;> omega
 obtain ⟨obj, hobj, hb⟩ := h.blk b _ hg B N hf
 obtain ⟨objv, hobjv, hbvr⟩ := h.blk vb _ hgv VB VN hfv
 have hns : (n + 1) * s = i * s + (s + (n - i) * s) := by
   obtain ⟨q, rfl⟩ : ∃ q, n = i + q := ⟨n - i, by omega⟩
   rw [Nat.add_sub_cancel_left, Nat.add_mul, Nat.add_mul]
   omega
 have his : (i + 1) * s = i * s + s := by rw [Nat.add_mul]; omega
 have hn0 : n * s + s = (n + 1) * s := by rw [Nat.add_mul]; omega
 obtain ⟨cs0, fr0, ho0, _, hrold⟩ := readCells_rel hb (i := 0) (k := i * s) (by omega)
 obtain ⟨cs1, fr1, ho1, _, hrrow⟩ := readCells_rel hb (i := i * s) (k := (n - i) * s) (by omega)
 obtain ⟨cs2, fr2, ho2, hsv2, hrus⟩ := readCells_rel hbvr (i := vp) (k := s) hkv
 obtain ⟨cs, lo, hi, rfl, hsz, hkN, hfr, hcells⟩ := hb
 obtain ⟨cvs, lv, hv, rfl, hszv, hkNv, hfrv, hcellsv⟩ := hbvr
 have e0 : cs0 = cs := by injection ho0 with h1 _ _; exact h1.symm
 have e1 : cs1 = cs := by injection ho1 with h1 _ _; exact h1.symm
 have e2 : cs2 = cvs := by injection ho2 with h1 _ _; exact h1.symm
 rw [e0] at hrold
 rw [e1] at hrrow
 rw [e2] at hrus
 clear ho0 ho1 ho2 e0 e1 e2
 have hlo : lo = hi := by
   rcases hfr rfl with h1 | h1
   · exact h1
   · exact absurd h1.2 hne
 have hlov : lv = hv := by
   rcases hfrv rfl with h1 | h1
   · exact h1
   · exact absurd h1.2 hne
 have hBV : VB ≠ B := by
   intro e
   subst e
   exact hbv (h.inj vb b VB VN N hfv hf (fun blk hb' => by rw [show S.v.get vb = _ from hgv] at hb'; cases hb'; rfl) (fun blk hb' => by rw [show S.v.get b = _ from hg] at hb'; cases hb'; rfl))
 generalize hold' : (cs.toList.drop 0).take (i * s) = old at hrold
 generalize hrow' : (cs.toList.drop (i * s)).take ((n - i) * s) = row at hrrow
 generalize hus' : (cvs.toList.drop vp).take s = vs at hrus
 have hol : old.length = i * s := by have := hrold.length; rw [readCells_length] at this; exact this.symm
 have hrl : row.length = (n - i) * s := by have := hrrow.length; rw [readCells_length] at this; exact this.symm
 have hvl : vs.length = s := by have := hrus.length; rw [readCells_length] at this; exact this.symm
 have h1r : ∀ v ∈ row, v.oneCell' = true := scalars_rel hrrow hall
 have h1v : ∀ v ∈ vs, v.oneCell' = true := scalars_rel hrus hallv
 have hoat : ∀ j v, old[j]? = some v → cs[0 + j]? = some v := fun j v hj => by
   have hjl := (List.getElem?_eq_some_iff.1 hj).1
   rw [← hold', List.getElem?_take_of_lt (by omega), List.getElem?_drop, Array.getElem?_toList] at hj
   exact hj
 have hrat : ∀ j v, row[j]? = some v → cs[0 + i * s + j]? = some v := fun j v hj => by
   have hjl := (List.getElem?_eq_some_iff.1 hj).1
   rw [← hrow', List.getElem?_take_of_lt (by omega), List.getElem?_drop, Array.getElem?_toList] at hj
   rw [Nat.zero_add]; exact hj
 have hvat : ∀ j v, vs[j]? = some v → cvs[vp + j]? = some v := fun j v hj => by
   have hjl := (List.getElem?_eq_some_iff.1 hj).1
   rw [← hus', List.getElem?_take_of_lt (by omega), List.getElem?_drop, Array.getElem?_toList] at hj
   exact hj
 have hL := hrold.append (hrus.append hrrow)
 generalize hLe : readCells c d 0 (i * s) ++ (readCells cv dv vp s ++ readCells c d (i * s) ((n - i) * s)) = L at hL
 have hLl : L.length = (n + 1) * s := by rw [hL.length]; simp only [List.length_append, hol, hrl, hvl]; omega
 have hcell : ∀ g : Inj, f.le g → ∀ X : Array Value, (∀ j, j < (n + 1) * s → X[j]? = (old ++ (vs ++ row))[j]?) → ∀ j, j < (n + 1) * s → ∃ v, X[j]? = some v ∧ VRel g (getCell (putCells .leaf 0 L) d j) v := by
   intro g hg' X hX j hj
   rw [getCell_eq, putCells_get _ _ _ _ (by omega), if_pos (by omega), Nat.sub_zero]
   obtain ⟨u, hu, hr⟩ := (hL.mono hg').get (i := j) (a := L[j]'(by omega)) (by simp)
   refine ⟨u, by rw [hX j hj]; exact hu, ?_⟩
   rw [List.getElem?_eq_getElem (by omega)]
   exact hr
 have hbn : b < S.next := by
   rcases Nat.lt_or_ge b S.next with h1 | h1
   · exact h1
   · rw [show S.heap.get b = none from h.none b h1] at hg; cases hg
 have hkill := Step.kill h hsm3 hg
 have hdead : (T.put ABlock.dead 40 S.heap b).get b = some .dead := T.get_put_same _ _ _ _ (by omega)
 have happ : ∀ j, (old ++ (vs ++ row))[j]? = if j < i * s then old[j]? else if j < i * s + s then vs[j - i * s]? else row[j - (i * s + s)]? := fun j => by
   rw [List.getElem?_append, hol]
   split
   · rfl
   · rw [List.getElem?_append, hvl]
     split
     · rw [if_pos (by omega)]
     · rw [if_neg (by omega), Nat.sub_sub]
 have hoe : ∀ j, j < i * s → ∀ Z : Array Value, (∀ (j : Nat) (v : Value), old[j]? = some v → Z[j]? = some v) → Z[j]? = old[j]? := fun j hj Z hZ => by
   have := List.getElem?_eq_getElem (l := old) (i := j) (by omega)
   rw [this, hZ _ _ this]
 have hnext : S.next + 1 ≤ M := hM
 refine goes_of_calls hF hFn hFb ?_
 by_cases hroom : n + 1 ≤ cap
 · have hcap : (n + 1) * s ≤ cap * s := Nat.mul_le_mul_right _ hroom
   refine (hR B 0 n cap i VB vp vcap vs row w cs cvs tE tE lo hi lv hv hin hroom ?_ hBV hobj (by omega) (fun j _ _ => by omega) hobjv hvat hvl hrat hrl h1r h1v (by omega) (by omega)).mono ?_
   · have : (n + 1) * 1 ≤ (n + 1) * s := Nat.mul_le_mul_left _ hs0
     omega
   rintro x w' ⟨rfl, hh, hos, htape, hout⟩
   refine ⟨_, rfl, _, hkill.trans (Step.adopt (f := f) hkill.sim hsm3 hM (b := b) (B := B) (N := N) hf (by omega) hdead (fun hlt => (addLog_self (S := S.v) hlt : b ∈ addLog S.v b)) (h.base b _ B N hf hg rfl)
     (fun q K hq hne hlive => hne (h.inj q b B K N hq hf (fun blk hb' => hlive blk (by show (T.put ABlock.dead 40 S.heap b).get q = _; rw [T.get_put_other _ _ _ _ _ (Ne.symm hne)]; exact hb')) (fun blk hb' => by rw [show S.v.get b = _ from hg] at hb'; cases hb'; rfl)))
     (blk := .cells (putCells .leaf 0 L) d ((n + 1) * s) true tE) hh hos htape hout (fun g hg' => ?_)), ⟨B, N, cap, 0, upd_same .., hroom, hcn, .inl rfl, rfl⟩⟩
   refine ⟨_, lo, hi, rfl, by rw [setCells_size, setCells_size]; exact hsz, by omega, fun _ => .inl hlo, hcell g hg' _ fun j hj => ?_⟩
   rw [setCells_get _ _ _ _ (by rw [setCells_size, hvl]; omega), setCells_get _ _ _ _ (by rw [hrl]; omega), happ, hvl, hrl]
   simp only [Nat.zero_add]
   by_cases h1 : j < i * s
   · rw [if_neg (by omega), if_neg (by omega), if_pos h1]
     exact hoe j h1 cs fun j v hj => by simpa using hoat j v hj
   · by_cases h2 : j < i * s + s
     · rw [if_pos (by omega), if_neg h1, if_pos h2]
     · rw [if_neg (by omega), if_pos (by omega), if_neg h1, if_neg h2, his]
 · refine (hG B 0 n cap i VB vp vcap vs row old w cs cvs tE tE (lo, hi) (lv, hv) hin (by omega) hlc hsm1 hobj hobjv hvat hvl hrat hrl hoat hol h1r h1v).mono ?_
   rintro x w' ⟨G, hGn, rfl, ROW, hRs, hRo, hh, hos, htape, hout⟩
   have hGs : (n + 1) * s ≤ G * s := Nat.mul_le_mul_right _ hGn
   refine ⟨_, rfl, _, hkill.trans (Step.alloc hkill.sim hsm3 hM (blk := .cells (putCells .leaf 0 L) d ((n + 1) * s) true tE) (N := G * s) hh hos htape hout (fun g hg' _ => ?_)), ⟨w.heap.size, G * s, G, 0, upd_same .., hGn, by omega, .inl rfl, rfl⟩⟩
   refine ⟨_, 0, 0, rfl, by rw [setCells_size, setCells_size]; exact hRs, hGs, fun _ => .inl rfl, hcell g hg' _ fun j hj => ?_⟩
   rw [setCells_get _ _ _ _ (by rw [setCells_size, hrl]; omega), setCells_get _ _ _ _ (by rw [hvl]; omega), happ, hvl, hrl]
   by_cases h1 : j < i * s
   · rw [if_neg (by omega), if_neg (by omega), if_pos h1]
     exact hoe j h1 ROW hRo
   · by_cases h2 : j < i * s + s
     · rw [if_neg (by omega), if_pos (by omega), if_neg h1, if_pos h2]
     · rw [if_pos (by omega), if_neg h1, if_neg h2, his]
theorem run_copy_at {P : Program} {w : World} {t e e0 ty : TypeId} (h1 : P.underlying t = some (.slice e)) {s : Nat} (hs : sizeA P e = some s) {b p k dc n lo hi : Nat} {v : Value} {us : List Value} {cs : Array Value}
   (hl : (Builtin.lenOf v).run P w = .ok n w) (hf : (Builtin.firstCells s (Nat.min n k) v).run P w = .ok us.toArray w) (hobj : w.heap[b]? = some (.cells cs e0 (lo, hi))) (hsz : p + us.length ≤ cs.size)
   (hfr : ∀ j, p ≤ j → j < p + us.length → ¬ (lo ≤ j ∧ j < hi)) (h1c : ∀ v ∈ us, v.oneCell' = true) :
   (Builtin.copy_ #[t, t] ty #[.slice (some ⟨b, p, none⟩) k dc, v]).run P w = .ok (.int .i64 (Nat.min n k : Nat)) (World.setObjAt w b (.cells (setCells cs p us) e0 (lo, hi))) := by
 have hst := run_storeCells (P := P) (B := b) (o := p) us 0 cs w hobj (by omega) (fun j a c => hfr j (by omega) (by omega)) h1c
 rw [Nat.add_zero] at hst
 simp only [Builtin.copy_, List.getElem?_toArray, List.getElem?_cons_zero, List.getElem?_cons_succ, Sem.run_bind, r_und h1, Result.andThen_ok, hl, r_size hs, hf, hst, Sem.run_pure]
 rfl
theorem cell_obj {w : World} {b i : Nat} {cs : Array Value} {e : TypeId} {fr : Nat × Nat} (h : w.heap[b]? = some (.cells cs e fr)) : w.cell? ⟨b, i, none⟩ = cs[i]? := by simp [World.cell?, h]
set_option maxHeartbeats 4000000 in
set_option maxRecDepth 100000 in
theorem ins_room_str (b off n c i vb voff vc : Nat) (us row : List Value) (w : World) (cs cv : Array Value) (e ev : TypeId) (lo hi lv hv : Nat) (hin : i < n) (hroom : n + 1 ≤ c) (hc63 : n + 1 ≤ 1000000000) (hvb : vb ≠ b)
   (hobj : w.heap[b]? = some (.cells cs e (lo, hi))) (hsz : off + (n + 1) * 1 ≤ cs.size) (hfr : ∀ j, off ≤ j → j < off + (n + 1) * 1 → ¬ (lo ≤ j ∧ j < hi))
   (hobv : w.heap[vb]? = some (.cells cv ev (lv, hv))) (hus : ∀ j v, us[j]? = some v → cv[voff + j]? = some v) (hul : us.length = 1) (hrow : ∀ j v, row[j]? = some v → cs[off + i + j]? = some v) (hrl : row.length = (n - i) * 1)
   (h1r : ∀ v ∈ row, v.oneCell' = true) (h1v : ∀ v ∈ us, v.oneCell' = true) (hfv : ¬ (lv ≤ voff ∧ voff < hv)) (hfw : ¬ (lv ≤ cv.size ∧ cv.size < hv)) :
   Calls Tryz.prog 241 #[.slice (some ⟨b, off, none⟩) n c, .int .i64 i, .slice (some ⟨vb, voff, none⟩) 1 vc] w fun x w' =>
     x = .returned (.slice (some ⟨b, off, none⟩) (n + 1) c) ∧ w'.heap = (World.setObjAt w b (.cells (setCells (setCells cs (off + (i + 1)) row) (off + i) us) e (lo, hi))).heap ∧ w'.os = w.os ∧ w'.tape = w.tape ∧ w'.output = w.output := by
 have hbw : b < w.heap.size := (Array.getElem?_eq_some_iff.1 hobj).1
 have mixed : Tryz.prog.follows .mixedOrders = true := by kernel_rfl
 have hsE : sizeA Tryz.prog 9 = some 1 := by kernel_rfl
 have hz1 : ¬ ((i : Int) = (n : Int)) := by omega
 have hov : ∀ (w : World) lb cb, w.heap[b]? = some (.cells cs e (lo, hi)) → w.heap[vb]? = some (.cells cv ev (lv, hv)) → (callFunc 308 #[.slice (some ⟨vb, voff, none⟩) 1 vc, .slice (some ⟨b, off + (i + 1), none⟩) lb cb]).run Tryz.prog w = .ok (.value (.bool false)) w := fun w lb cb h1 h2 => by
   rw [run_callFunc_extern Tryz.func308 (by kernel_rfl) (by kernel_rfl) (by kernel_rfl) (e := Extern.SlicesOverlaps.overlaps #[27, 27] #[4]) (by kernel_rfl),
     Lib.run_overlaps_apart w 27 4 9 Tryz.underlying27 1 (r_size hsE) ⟨vb, voff, none⟩ ⟨b, _, none⟩ 1 vc lb cb hvb ev e cv.size cs.size (by simp [World.shape?, h2]) (by simp [World.shape?, h1]) (by omega) (by simp [World.frozen?, h2]; omega) (by simp [World.frozen?, h2]; omega)]
   rfl
 have hw1 : IntKind.i64.wrap ((i : Int) + 1) = (i : Int) + 1 := by rw [IntKind.wrap_i64]; omega
 have hb1 : (0 : Int) ≤ (i : Int) + 1 := by omega
 have hin' : i ≤ n := by omega
 have htn : ((i : Int) + 1).toNat = i + 1 := by omega
 have hb2 : ¬ (c = i + 1) := by omega
 have hb3 : (i : Int) ≤ (n : Int) + 1 := by omega
 have hb4 : ¬ (c = i) := by omega
 have hf1 : ∀ (w1 : World) sc, w1.heap = w.heap → (Builtin.firstCells 1 (Nat.min (n + 1 - i) (n + 1 - (i + 1))) (.slice (some ⟨b, off + i, none⟩) (n + 1 - i) sc)).run Tryz.prog w1 = .ok row.toArray w1 := fun w1 sc hw => by
   have hm : Nat.min (n + 1 - i) (n + 1 - (i + 1)) = n - i := by simp only [Nat.min_def]; split <;> omega
   rw [hm]
   refine run_firstCells_some w1 1 (n - i) _ _ _ row hrl fun j v hj => ?_
   rw [Addr.add_lit, cell_obj (by rw [hw]; exact hobj)]
   simpa using hrow j v hj
 have hcp1 : ∀ ty dc sc, (Builtin.copy_ #[27, 27] ty #[.slice (some ⟨b, off + (i + 1), none⟩) (n + 1 - (i + 1)) dc, .slice (some ⟨b, off + i, none⟩) (n + 1 - i) sc]).run Tryz.prog w.drew = .ok (.int .i64 (Nat.min (n + 1 - i) (n + 1 - (i + 1)) : Nat)) (World.setObjAt w.drew b (.cells (setCells cs (off + (i + 1)) row) e (lo, hi))) := fun ty dc sc => by
   have := run_copy_at (P := Tryz.prog) (w := w.drew) (ty := ty) (t := 27) Tryz.underlying27 hsE (b := b) (p := off + (i + 1)) (k := n + 1 - (i + 1)) (dc := dc) (n := n + 1 - i) (v := .slice (some ⟨b, off + i, none⟩) (n + 1 - i) sc) (by simp [Builtin.lenOf]) (hf1 w.drew sc rfl) hobj (by omega) (fun j h1 h2 => hfr j (by omega) (by omega)) h1r
   simpa using this
 have hsz1 : (setCells cs (off + (i + 1)) row).size = cs.size := setCells_size _ _ _
 have hf2 : ∀ (w1 : World), w1.heap[vb]? = some (.cells cv ev (lv, hv)) → (Builtin.firstCells 1 (Nat.min 1 (n + 1 - i)) (.slice (some ⟨vb, voff, none⟩) 1 vc)).run Tryz.prog w1 = .ok us.toArray w1 := fun w1 hw => by
   have hm : Nat.min 1 (n + 1 - i) = 1 := by simp only [Nat.min_def]; split <;> omega
   rw [hm]
   refine run_firstCells_some w1 1 1 _ _ _ us (by omega) fun j v hj => ?_
   rw [Addr.add_lit, cell_obj hw]
   exact hus j v hj
 have hcp2 : ∀ (w1 : World), w1.heap = (World.setObjAt w b (.cells (setCells cs (off + (i + 1)) row) e (lo, hi))).heap → ∀ ty dc, (Builtin.copy_ #[27, 27] ty #[.slice (some ⟨b, off + i, none⟩) (n + 1 - i) dc, .slice (some ⟨vb, voff, none⟩) 1 vc]).run Tryz.prog w1 = .ok (.int .i64 (Nat.min 1 (n + 1 - i) : Nat)) (World.setObjAt w1 b (.cells (setCells (setCells cs (off + (i + 1)) row) (off + i) us) e (lo, hi))) := fun w1 hw ty dc => by
   have hb' : w1.heap[b]? = some (.cells (setCells cs (off + (i + 1)) row) e (lo, hi)) := by rw [hw]; exact setObjAt_get hbw
   have hv' : w1.heap[vb]? = some (.cells cv ev (lv, hv)) := by
     rw [hw]
     show (w.heap.setIfInBounds b _)[vb]? = _
     rw [Array.getElem?_setIfInBounds_ne (Ne.symm hvb)]; exact hobv
   have := run_copy_at (P := Tryz.prog) (w := w1) (ty := ty) (t := 27) Tryz.underlying27 hsE (b := b) (p := off + i) (k := n + 1 - i) (dc := dc) (n := 1) (v := .slice (some ⟨vb, voff, none⟩) 1 vc) (by simp [Builtin.lenOf]) (hf2 w1 hv') hb' (by omega) (fun j h1 h2 => hfr j (by omega) (by omega)) h1v
   simpa using this
 have hcp2' := hcp2 (World.setObjAt w.drew b (.cells (setCells cs (off + (i + 1)) row) e (lo, hi))) rfl
 go_enter Tryz.func241, Tryz.ntmps241
 go_wp2_with (simp only [hov _ _ _ hobj hobv])
 go_region_law_o (refine step_copy_runI rfl _ _ 27 27 rfl (.slice (some ⟨b, off + (i + 1), none⟩) (n + 1 - (i + 1)) (c - (i + 1))) (.slice (some ⟨b, off + i, none⟩) (n + 1 - i) (c - i)) (by simp [Act.eval, Act.put]) (by simp [Act.eval, Act.put]) (hcp1 3 (c - (i + 1)) (c - i)) ?_)
 all_goals (go_wp2_with (first | rw [hcp2'] | (simp only [hcp2'])))
 go_ret
 refine ⟨rfl, ?_, rfl, rfl, rfl⟩
 rw [setObjAt_twice]
 rfl
set_option maxHeartbeats 4000000 in
set_option maxRecDepth 100000 in
theorem ins_room_plc (b off n c i vb voff vc : Nat) (us row : List Value) (w : World) (cs cv : Array Value) (e ev : TypeId) (lo hi lv hv : Nat) (hin : i < n) (hroom : n + 1 ≤ c) (hc63 : n + 1 ≤ 1000000000) (hvb : vb ≠ b)
   (hobj : w.heap[b]? = some (.cells cs e (lo, hi))) (hsz : off + (n + 1) * 3 ≤ cs.size) (hfr : ∀ j, off ≤ j → j < off + (n + 1) * 3 → ¬ (lo ≤ j ∧ j < hi))
   (hobv : w.heap[vb]? = some (.cells cv ev (lv, hv))) (hus : ∀ j v, us[j]? = some v → cv[voff + j]? = some v) (hul : us.length = 3) (hrow : ∀ j v, row[j]? = some v → cs[off + i * 3 + j]? = some v) (hrl : row.length = (n - i) * 3)
   (h1r : ∀ v ∈ row, v.oneCell' = true) (h1v : ∀ v ∈ us, v.oneCell' = true) (hfv : ¬ (lv ≤ voff ∧ voff < hv)) (hfw : ¬ (lv ≤ cv.size ∧ cv.size < hv)) :
   Calls Tryz.prog 242 #[.slice (some ⟨b, off, none⟩) n c, .int .i64 i, .slice (some ⟨vb, voff, none⟩) 1 vc] w fun x w' =>
     x = .returned (.slice (some ⟨b, off, none⟩) (n + 1) c) ∧ w'.heap = (World.setObjAt w b (.cells (setCells (setCells cs (off + (i + 1) * 3) row) (off + i * 3) us) e (lo, hi))).heap ∧ w'.os = w.os ∧ w'.tape = w.tape ∧ w'.output = w.output := by
 have hbw : b < w.heap.size := (Array.getElem?_eq_some_iff.1 hobj).1
 have mixed : Tryz.prog.follows .mixedOrders = true := by kernel_rfl
 have hsE : sizeA Tryz.prog 157 = some 3 := by kernel_rfl
 have hz1 : ¬ ((i : Int) = (n : Int)) := by omega
 have hov : ∀ (w : World) lb cb, w.heap[b]? = some (.cells cs e (lo, hi)) → w.heap[vb]? = some (.cells cv ev (lv, hv)) → (callFunc 310 #[.slice (some ⟨vb, voff, none⟩) 1 vc, .slice (some ⟨b, off + (i + 1) * 3, none⟩) lb cb]).run Tryz.prog w = .ok (.value (.bool false)) w := fun w lb cb h1 h2 => by
   rw [run_callFunc_extern Tryz.func310 (by kernel_rfl) (by kernel_rfl) (by kernel_rfl) (e := Extern.SlicesOverlaps.overlaps #[28, 28] #[4]) (by kernel_rfl),
     Lib.run_overlaps_apart w 28 4 157 Tryz.underlying28 3 (r_size hsE) ⟨vb, voff, none⟩ ⟨b, _, none⟩ 1 vc lb cb hvb ev e cv.size cs.size (by simp [World.shape?, h2]) (by simp [World.shape?, h1]) (by omega) (by simp [World.frozen?, h2]; omega) (by simp [World.frozen?, h2]; omega)]
   rfl
 have hw1 : IntKind.i64.wrap ((i : Int) + 1) = (i : Int) + 1 := by rw [IntKind.wrap_i64]; omega
 have hb1 : (0 : Int) ≤ (i : Int) + 1 := by omega
 have hin' : i ≤ n := by omega
 have htn : ((i : Int) + 1).toNat = i + 1 := by omega
 have hb2 : ¬ (c = i + 1) := by omega
 have hb3 : (i : Int) ≤ (n : Int) + 1 := by omega
 have hb4 : ¬ (c = i) := by omega
 have hf1 : ∀ (w1 : World) sc, w1.heap = w.heap → (Builtin.firstCells 3 (Nat.min (n + 1 - i) (n + 1 - (i + 1))) (.slice (some ⟨b, off + i * 3, none⟩) (n + 1 - i) sc)).run Tryz.prog w1 = .ok row.toArray w1 := fun w1 sc hw => by
   have hm : Nat.min (n + 1 - i) (n + 1 - (i + 1)) = n - i := by simp only [Nat.min_def]; split <;> omega
   rw [hm]
   refine run_firstCells_some w1 3 (n - i) _ _ _ row hrl fun j v hj => ?_
   rw [Addr.add_lit, cell_obj (by rw [hw]; exact hobj)]
   simpa using hrow j v hj
 have hcp1 : ∀ ty dc sc, (Builtin.copy_ #[28, 28] ty #[.slice (some ⟨b, off + (i + 1) * 3, none⟩) (n + 1 - (i + 1)) dc, .slice (some ⟨b, off + i * 3, none⟩) (n + 1 - i) sc]).run Tryz.prog w.drew = .ok (.int .i64 (Nat.min (n + 1 - i) (n + 1 - (i + 1)) : Nat)) (World.setObjAt w.drew b (.cells (setCells cs (off + (i + 1) * 3) row) e (lo, hi))) := fun ty dc sc => by
   have := run_copy_at (P := Tryz.prog) (w := w.drew) (ty := ty) (t := 28) Tryz.underlying28 hsE (b := b) (p := off + (i + 1) * 3) (k := n + 1 - (i + 1)) (dc := dc) (n := n + 1 - i) (v := .slice (some ⟨b, off + i * 3, none⟩) (n + 1 - i) sc) (by simp [Builtin.lenOf]) (hf1 w.drew sc rfl) hobj (by omega) (fun j h1 h2 => hfr j (by omega) (by omega)) h1r
   simpa using this
 have hsz1 : (setCells cs (off + (i + 1) * 3) row).size = cs.size := setCells_size _ _ _
 have hf2 : ∀ (w1 : World), w1.heap[vb]? = some (.cells cv ev (lv, hv)) → (Builtin.firstCells 3 (Nat.min 1 (n + 1 - i)) (.slice (some ⟨vb, voff, none⟩) 1 vc)).run Tryz.prog w1 = .ok us.toArray w1 := fun w1 hw => by
   have hm : Nat.min 1 (n + 1 - i) = 1 := by simp only [Nat.min_def]; split <;> omega
   rw [hm]
   refine run_firstCells_some w1 3 1 _ _ _ us (by omega) fun j v hj => ?_
   rw [Addr.add_lit, cell_obj hw]
   exact hus j v hj
 have hcp2 : ∀ (w1 : World), w1.heap = (World.setObjAt w b (.cells (setCells cs (off + (i + 1) * 3) row) e (lo, hi))).heap → ∀ ty dc, (Builtin.copy_ #[28, 28] ty #[.slice (some ⟨b, off + i * 3, none⟩) (n + 1 - i) dc, .slice (some ⟨vb, voff, none⟩) 1 vc]).run Tryz.prog w1 = .ok (.int .i64 (Nat.min 1 (n + 1 - i) : Nat)) (World.setObjAt w1 b (.cells (setCells (setCells cs (off + (i + 1) * 3) row) (off + i * 3) us) e (lo, hi))) := fun w1 hw ty dc => by
   have hb' : w1.heap[b]? = some (.cells (setCells cs (off + (i + 1) * 3) row) e (lo, hi)) := by rw [hw]; exact setObjAt_get hbw
   have hv' : w1.heap[vb]? = some (.cells cv ev (lv, hv)) := by
     rw [hw]
     show (w.heap.setIfInBounds b _)[vb]? = _
     rw [Array.getElem?_setIfInBounds_ne (Ne.symm hvb)]; exact hobv
   have := run_copy_at (P := Tryz.prog) (w := w1) (ty := ty) (t := 28) Tryz.underlying28 hsE (b := b) (p := off + i * 3) (k := n + 1 - i) (dc := dc) (n := 1) (v := .slice (some ⟨vb, voff, none⟩) 1 vc) (by simp [Builtin.lenOf]) (hf2 w1 hv') hb' (by omega) (fun j h1 h2 => hfr j (by omega) (by omega)) h1v
   simpa using this
 have hcp2' := hcp2 (World.setObjAt w.drew b (.cells (setCells cs (off + (i + 1) * 3) row) e (lo, hi))) rfl
 go_enter Tryz.func242, Tryz.ntmps242
 go_wp2_with (simp only [hov _ _ _ hobj hobv])
 go_region_law_o (refine step_copy_runI rfl _ _ 28 28 rfl (.slice (some ⟨b, off + (i + 1) * 3, none⟩) (n + 1 - (i + 1)) (c - (i + 1))) (.slice (some ⟨b, off + i * 3, none⟩) (n + 1 - i) (c - i)) (by simp [Act.eval, Act.put]) (by simp [Act.eval, Act.put]) (hcp1 3 (c - (i + 1)) (c - i)) ?_)
 all_goals (go_wp2_with (first | rw [hcp2'] | (simp only [hcp2'])))
 go_ret
 refine ⟨rfl, ?_, rfl, rfl, rfl⟩
 rw [setObjAt_twice]
 rfl
set_option maxHeartbeats 4000000 in
set_option maxRecDepth 100000 in
theorem ins_grow_str (b off n c i vb voff vc : Nat) (us row old : List Value) (w : World) (cs cv : Array Value) (e ev : TypeId) (fr fv : Nat × Nat) (hin : i < n) (hroom : c < n + 1) (hnc : n ≤ c) (hbig : (n + 1) * 16 ≤ 1000000000)
   (hobj : w.heap[b]? = some (.cells cs e fr)) (hobv : w.heap[vb]? = some (.cells cv ev fv)) (hus : ∀ j v, us[j]? = some v → cv[voff + j]? = some v) (hul : us.length = 1) (hrow : ∀ j v, row[j]? = some v → cs[off + i + j]? = some v) (hrl : row.length = (n - i) * 1)
   (hold : ∀ j v, old[j]? = some v → cs[off + j]? = some v) (hol : old.length = i * 1) (h1r : ∀ v ∈ row, v.oneCell' = true) (h1v : ∀ v ∈ us, v.oneCell' = true) :
   Calls Tryz.prog 241 #[.slice (some ⟨b, off, none⟩) n c, .int .i64 i, .slice (some ⟨vb, voff, none⟩) 1 vc] w fun x w' =>
     ∃ G, n + 1 ≤ G ∧ x = .returned (.slice (some ⟨w.heap.size, 0, none⟩) (n + 1) G) ∧ ∃ ROW : Array Value, ROW.size = G * 1 ∧ (∀ (j : Nat) (v : Value), old[j]? = some v → ROW[j]? = some v) ∧ w'.heap = w.heap.push (.cells (setCells (setCells ROW (i) us) (i + 1) row) 9) ∧ w'.os = w.os ∧ w'.tape = w.tape ∧ w'.output = w.output := by
 have hbw : b < w.heap.size := (Array.getElem?_eq_some_iff.1 hobj).1
 have hvw : vb < w.heap.size := (Array.getElem?_eq_some_iff.1 hobv).1
 have mixed : Tryz.prog.follows .mixedOrders = true := by kernel_rfl
 have hsE : sizeA Tryz.prog 9 = some 1 := by kernel_rfl
 have hz1 : ¬ ((i : Int) = (n : Int)) := by omega
 have hz3 : (c : Int) < (n : Int) + 1 := by omega
 have hmk : isMakeT Tryz.prog (#[27, 3] : Array TypeId)[1]? = some true := by kernel_rfl
 have hby : (Tryz.prog.info? 9).map (·.bytes) = some 16 := by kernel_rfl
 have hzA : zeroA Tryz.prog 9 = some [.str 0 0] := by kernel_rfl
 obtain ⟨zv, hzv, hzr⟩ := r_zero hzA
 have hzs : zv.cells.size = 1 := by have := (hzr (fun _ => none)).length; simpa using this.symm
 have hm : n + 1 - i ≠ 0 := by omega
 have hkk : (n : Int) + 1 - (i : Int) = ((n + 1 - i : Nat) : Int) := by omega
 have hik : i + (n + 1 - i) = n + 1 := by omega
 have hfo : (Builtin.firstCells 1 i (.slice (some ⟨b, off, none⟩) i c)).run Tryz.prog w.drew = .ok old.toArray w.drew := by
   refine run_firstCells_some w.drew 1 i _ _ _ old hol fun j v hj => ?_
   rw [Addr.add_lit, cell_obj (w := w.drew) hobj]
   exact hold j v hj
 have hap : (appendedC true 9 1 (n + 1 - i) (.int .i64 ((n + 1 - i : Nat) : Int))).run Tryz.prog w.drew = .ok (Builtin.zeroCells zv.cells (n + 1 - i)).toList.toArray w.drew := by
   unfold appendedC
   rw [if_neg (by simp), if_neg (by omega)]
   simp [hzv]
 have hul0 : (Builtin.zeroCells zv.cells (n + 1 - i)).size = (n + 1 - i) * 1 := by simp [Builtin.zeroCells, hzs]
 have hgrow : ∀ ty, (Builtin.append_ #[27, 3] ty #[.slice (some ⟨b, off, none⟩) i c, .int .i64 ((n : Int) + 1 - (i : Int))]).run Tryz.prog w = .ok (.slice (some ⟨w.heap.size, 0, none⟩) (n + 1) (capOf w (n + 1) c 9)) (w.drew.alloc (.cells (old.toArray ++ (Builtin.zeroCells zv.cells (n + 1 - i)).toList.toArray ++ Builtin.zeroCells zv.cells (capOf w (n + 1) c 9 - (n + 1))) 9)) := fun ty => by
   have h := run_append_grow (w := w) (ts := #[27, 3]) (ty := ty) (t := 27) (e := 9) rfl Tryz.underlying27 hsE hmk hby (by decide) (by decide) (base := some ⟨b, off, none⟩) (len := i) (cap := c) (m := n + 1 - i) (x := .int .i64 ((n + 1 - i : Nat) : Int)) (fun h => by cases h) (fun _ => ⟨.i64, rfl, by omega, by omega⟩) (by omega) (by omega) hfo hap hzv
   rw [hik] at h
   rw [hkk]
   exact h
 have hG := capOf_le w (n + 1) c 9
 generalize hGe : capOf w (n + 1) c 9 = G at hgrow hG
 obtain ⟨ROW, hROW⟩ : ∃ ROW : Array Value, ROW = old.toArray ++ (Builtin.zeroCells zv.cells (n + 1 - i)).toList.toArray ++ Builtin.zeroCells zv.cells (G - (n + 1)) := ⟨_, rfl⟩
 have hRs : ROW.size = G * 1 := by
   rw [hROW]
   simp only [Array.size_append, List.size_toArray, hol, Array.length_toList, hul0]
   simp only [Builtin.zeroCells, Array.size_map, Array.size_range, hzs]
   omega
 have hRo : ∀ j v, old[j]? = some v → ROW[j]? = some v := fun j v hj => by
   have := (List.getElem?_eq_some_iff.1 hj).1
   rw [hROW, Array.getElem?_append_left (by simp; omega), Array.getElem?_append_left (by simp; omega)]
   simpa using hj
 rw [← hROW] at hgrow
 have hNp : ∀ (h : Array Obj) (o o' : Obj), (h.push o).setIfInBounds h.size o' = h.push o' := fun h o o' => by
   apply Array.ext_getElem?
   intro j
   rw [Array.getElem?_setIfInBounds]
   by_cases hj : h.size = j
   · subst hj; simp
   · rw [if_neg hj, Array.getElem?_push, Array.getElem?_push, if_neg (Ne.symm hj), if_neg (Ne.symm hj)]
 have hf2 : ∀ (w1 : World), w1.heap[vb]? = some (.cells cv ev fv) → (Builtin.firstCells 1 (Nat.min 1 (n + 1 - i)) (.slice (some ⟨vb, voff, none⟩) 1 vc)).run Tryz.prog w1 = .ok us.toArray w1 := fun w1 hw => by
   have hm : Nat.min 1 (n + 1 - i) = 1 := by simp only [Nat.min_def]; split <;> omega
   rw [hm]
   refine run_firstCells_some w1 1 1 _ _ _ us (by omega) fun j v hj => ?_
   rw [Addr.add_lit, cell_obj hw]
   exact hus j v hj
 have hf1 : ∀ (w1 : World) sc, w1.heap[b]? = some (.cells cs e fr) → (Builtin.firstCells 1 (Nat.min (n - i) (n + 1 - (i + 1))) (.slice (some ⟨b, off + i, none⟩) (n - i) sc)).run Tryz.prog w1 = .ok row.toArray w1 := fun w1 sc hw => by
   have hm : Nat.min (n - i) (n + 1 - (i + 1)) = n - i := by simp only [Nat.min_def]; split <;> omega
   rw [hm]
   refine run_firstCells_some w1 1 (n - i) _ _ _ row hrl fun j v hj => ?_
   rw [Addr.add_lit, cell_obj hw]
   exact hrow j v hj
 have hGS : (n + 1) * 1 ≤ G * 1 := Nat.mul_le_mul_right _ hG
 have hcpA : ∀ (w1 : World), w1.heap[w.heap.size]? = some (.cells ROW 9 (0, 0)) → w1.heap[vb]? = some (.cells cv ev fv) → ∀ ty dc, (Builtin.copy_ #[27, 27] ty #[.slice (some ⟨w.heap.size, i, none⟩) (n + 1 - i) dc, .slice (some ⟨vb, voff, none⟩) 1 vc]).run Tryz.prog w1 = .ok (.int .i64 (Nat.min 1 (n + 1 - i) : Nat)) (World.setObjAt w1 w.heap.size (.cells (setCells ROW (i) us) 9 (0, 0))) := fun w1 hw hv ty dc => by
   have := run_copy_at (P := Tryz.prog) (w := w1) (ty := ty) (t := 27) Tryz.underlying27 hsE (b := w.heap.size) (p := i) (k := n + 1 - i) (dc := dc) (n := 1) (v := .slice (some ⟨vb, voff, none⟩) 1 vc) (by simp [Builtin.lenOf]) (hf2 w1 hv) hw (by rw [hRs]; omega) (fun j h1 h2 => by omega) h1v
   simpa using this
 have hcpB : ∀ (w1 : World), w1.heap[w.heap.size]? = some (.cells (setCells ROW (i) us) 9 (0, 0)) → w1.heap[b]? = some (.cells cs e fr) → ∀ ty dc sc, (Builtin.copy_ #[27, 27] ty #[.slice (some ⟨w.heap.size, i + 1, none⟩) (n + 1 - (i + 1)) dc, .slice (some ⟨b, off + i, none⟩) (n - i) sc]).run Tryz.prog w1 = .ok (.int .i64 (Nat.min (n - i) (n + 1 - (i + 1)) : Nat)) (World.setObjAt w1 w.heap.size (.cells (setCells (setCells ROW (i) us) (i + 1) row) 9 (0, 0))) := fun w1 hw hb ty dc sc => by
   have := run_copy_at (P := Tryz.prog) (w := w1) (ty := ty) (t := 27) Tryz.underlying27 hsE (b := w.heap.size) (p := i + 1) (k := n + 1 - (i + 1)) (dc := dc) (n := n - i) (v := .slice (some ⟨b, off + i, none⟩) (n - i) sc) (by simp [Builtin.lenOf]) (hf1 w1 sc hb) hw (by rw [setCells_size, hRs]; omega) (fun j h1 h2 => by omega) h1r
   simpa using this
 have hN1 : (w.alloc (.cells ROW 9)).drew.heap[w.heap.size]? = some (.cells ROW 9 (0, 0)) := by
   show (w.heap.push _)[_]? = _
   rw [Array.getElem?_push, if_pos rfl]
 have hA1 : ∀ k, k < w.heap.size → (w.alloc (.cells ROW 9)).drew.heap[k]? = w.heap[k]? := fun k hk => by
   show (w.heap.push _)[k]? = _
   rw [Array.getElem?_push, if_neg (by omega)]
 have hcpA' := hcpA (w.alloc (.cells ROW 9)).drew hN1 (by rw [hA1 _ hvw]; exact hobv)
 have hW2h : (World.setObjAt (w.alloc (.cells ROW 9)).drew w.heap.size (.cells (setCells ROW (i) us) 9 (0, 0))).heap = w.heap.push (.cells (setCells ROW (i) us) 9 (0, 0)) := hNp w.heap _ _
 have hcpB' := hcpB (World.setObjAt (w.alloc (.cells ROW 9)).drew w.heap.size (.cells (setCells ROW (i) us) 9 (0, 0))).drew (by show (World.setObjAt (w.alloc (.cells ROW 9)).drew w.heap.size (.cells (setCells ROW (i) us) 9 (0, 0))).heap[_]? = _; rw [hW2h, Array.getElem?_push, if_pos rfl]) (by show (World.setObjAt (w.alloc (.cells ROW 9)).drew w.heap.size (.cells (setCells ROW (i) us) 9 (0, 0))).heap[_]? = _; rw [hW2h, Array.getElem?_push, if_neg (by omega)]; exact hobj)
 have hw1 : IntKind.i64.wrap ((i : Int) + 1) = (i : Int) + 1 := by rw [IntKind.wrap_i64]; omega
 have hb1 : (0 : Int) ≤ (i : Int) + 1 := by omega
 have hin' : i ≤ n := by omega
 have htn : ((i : Int) + 1).toNat = i + 1 := by omega
 have hb3 : (i : Int) ≤ (n : Int) := by omega
 have hGi : ¬ (G = i) := by omega
 have hGim : ¬ (G = i + 1) := by omega
 have hci : ¬ (c = i) := by omega
 clear hkk hik hROW hGe hcpA hcpB hf1 hf2 hold hrow hus
 go_enter Tryz.func241, Tryz.ntmps241
 go_wp2_with (at_builtin; refine Lib.wpList_append_run _ rfl _ _ _ _ rfl _ _ rfl rfl _ _ (hgrow _) ?_)
 all_goals (go_wp2_with (rw [hcpA']))
 go_region_law_o (refine step_copy_runI rfl _ _ 27 27 rfl (.slice (some ⟨w.heap.size, i + 1, none⟩) (n + 1 - (i + 1)) (G - (i + 1))) (.slice (some ⟨b, off + i, none⟩) (n - i) (c - i)) (by simp [Act.eval, Act.put]) (by simp [Act.eval, Act.put]) (hcpB' 3 (G - (i + 1)) (c - i)) ?_)
 all_goals go_wp2
 go_ret
 refine ⟨G, hG, rfl, ROW, hRs, hRo, ?_, rfl, rfl, rfl⟩
 show ((w.heap.push _).setIfInBounds _ _).setIfInBounds _ _ = _
 rw [hNp]
 exact hNp w.heap _ _
set_option maxHeartbeats 4000000 in
set_option maxRecDepth 100000 in
theorem ins_grow_plc (b off n c i vb voff vc : Nat) (us row old : List Value) (w : World) (cs cv : Array Value) (e ev : TypeId) (fr fv : Nat × Nat) (hin : i < n) (hroom : c < n + 1) (hnc : n ≤ c) (hbig : (n + 1) * 32 ≤ 1000000000)
   (hobj : w.heap[b]? = some (.cells cs e fr)) (hobv : w.heap[vb]? = some (.cells cv ev fv)) (hus : ∀ j v, us[j]? = some v → cv[voff + j]? = some v) (hul : us.length = 3) (hrow : ∀ j v, row[j]? = some v → cs[off + i * 3 + j]? = some v) (hrl : row.length = (n - i) * 3)
   (hold : ∀ j v, old[j]? = some v → cs[off + j]? = some v) (hol : old.length = i * 3) (h1r : ∀ v ∈ row, v.oneCell' = true) (h1v : ∀ v ∈ us, v.oneCell' = true) :
   Calls Tryz.prog 242 #[.slice (some ⟨b, off, none⟩) n c, .int .i64 i, .slice (some ⟨vb, voff, none⟩) 1 vc] w fun x w' =>
     ∃ G, n + 1 ≤ G ∧ x = .returned (.slice (some ⟨w.heap.size, 0, none⟩) (n + 1) G) ∧ ∃ ROW : Array Value, ROW.size = G * 3 ∧ (∀ (j : Nat) (v : Value), old[j]? = some v → ROW[j]? = some v) ∧ w'.heap = w.heap.push (.cells (setCells (setCells ROW (i * 3) us) ((i + 1) * 3) row) 157) ∧ w'.os = w.os ∧ w'.tape = w.tape ∧ w'.output = w.output := by
 have hbw : b < w.heap.size := (Array.getElem?_eq_some_iff.1 hobj).1
 have hvw : vb < w.heap.size := (Array.getElem?_eq_some_iff.1 hobv).1
 have mixed : Tryz.prog.follows .mixedOrders = true := by kernel_rfl
 have hsE : sizeA Tryz.prog 157 = some 3 := by kernel_rfl
 have hz1 : ¬ ((i : Int) = (n : Int)) := by omega
 have hz3 : (c : Int) < (n : Int) + 1 := by omega
 have hmk : isMakeT Tryz.prog (#[28, 3] : Array TypeId)[1]? = some true := by kernel_rfl
 have hby : (Tryz.prog.info? 157).map (·.bytes) = some 32 := by kernel_rfl
 have hzA : zeroA Tryz.prog 157 = some [.str 0 0, .int .i64 0, .int .i64 0] := by kernel_rfl
 obtain ⟨zv, hzv, hzr⟩ := r_zero hzA
 have hzs : zv.cells.size = 3 := by have := (hzr (fun _ => none)).length; simpa using this.symm
 have hm : n + 1 - i ≠ 0 := by omega
 have hkk : (n : Int) + 1 - (i : Int) = ((n + 1 - i : Nat) : Int) := by omega
 have hik : i + (n + 1 - i) = n + 1 := by omega
 have hfo : (Builtin.firstCells 3 i (.slice (some ⟨b, off, none⟩) i c)).run Tryz.prog w.drew = .ok old.toArray w.drew := by
   refine run_firstCells_some w.drew 3 i _ _ _ old hol fun j v hj => ?_
   rw [Addr.add_lit, cell_obj (w := w.drew) hobj]
   exact hold j v hj
 have hap : (appendedC true 157 3 (n + 1 - i) (.int .i64 ((n + 1 - i : Nat) : Int))).run Tryz.prog w.drew = .ok (Builtin.zeroCells zv.cells (n + 1 - i)).toList.toArray w.drew := by
   unfold appendedC
   rw [if_neg (by simp), if_neg (by omega)]
   simp [hzv]
 have hul0 : (Builtin.zeroCells zv.cells (n + 1 - i)).size = (n + 1 - i) * 3 := by simp [Builtin.zeroCells, hzs]
 have hgrow : ∀ ty, (Builtin.append_ #[28, 3] ty #[.slice (some ⟨b, off, none⟩) i c, .int .i64 ((n : Int) + 1 - (i : Int))]).run Tryz.prog w = .ok (.slice (some ⟨w.heap.size, 0, none⟩) (n + 1) (capOf w (n + 1) c 157)) (w.drew.alloc (.cells (old.toArray ++ (Builtin.zeroCells zv.cells (n + 1 - i)).toList.toArray ++ Builtin.zeroCells zv.cells (capOf w (n + 1) c 157 - (n + 1))) 157)) := fun ty => by
   have h := run_append_grow (w := w) (ts := #[28, 3]) (ty := ty) (t := 28) (e := 157) rfl Tryz.underlying28 hsE hmk hby (by decide) (by decide) (base := some ⟨b, off, none⟩) (len := i) (cap := c) (m := n + 1 - i) (x := .int .i64 ((n + 1 - i : Nat) : Int)) (fun h => by cases h) (fun _ => ⟨.i64, rfl, by omega, by omega⟩) (by omega) (by omega) hfo hap hzv
   rw [hik] at h
   rw [hkk]
   exact h
 have hG := capOf_le w (n + 1) c 157
 generalize hGe : capOf w (n + 1) c 157 = G at hgrow hG
 obtain ⟨ROW, hROW⟩ : ∃ ROW : Array Value, ROW = old.toArray ++ (Builtin.zeroCells zv.cells (n + 1 - i)).toList.toArray ++ Builtin.zeroCells zv.cells (G - (n + 1)) := ⟨_, rfl⟩
 have hRs : ROW.size = G * 3 := by
   rw [hROW]
   simp only [Array.size_append, List.size_toArray, hol, Array.length_toList, hul0]
   simp only [Builtin.zeroCells, Array.size_map, Array.size_range, hzs]
   omega
 have hRo : ∀ j v, old[j]? = some v → ROW[j]? = some v := fun j v hj => by
   have := (List.getElem?_eq_some_iff.1 hj).1
   rw [hROW, Array.getElem?_append_left (by simp; omega), Array.getElem?_append_left (by simp; omega)]
   simpa using hj
 rw [← hROW] at hgrow
 have hNp : ∀ (h : Array Obj) (o o' : Obj), (h.push o).setIfInBounds h.size o' = h.push o' := fun h o o' => by
   apply Array.ext_getElem?
   intro j
   rw [Array.getElem?_setIfInBounds]
   by_cases hj : h.size = j
   · subst hj; simp
   · rw [if_neg hj, Array.getElem?_push, Array.getElem?_push, if_neg (Ne.symm hj), if_neg (Ne.symm hj)]
 have hf2 : ∀ (w1 : World), w1.heap[vb]? = some (.cells cv ev fv) → (Builtin.firstCells 3 (Nat.min 1 (n + 1 - i)) (.slice (some ⟨vb, voff, none⟩) 1 vc)).run Tryz.prog w1 = .ok us.toArray w1 := fun w1 hw => by
   have hm : Nat.min 1 (n + 1 - i) = 1 := by simp only [Nat.min_def]; split <;> omega
   rw [hm]
   refine run_firstCells_some w1 3 1 _ _ _ us (by omega) fun j v hj => ?_
   rw [Addr.add_lit, cell_obj hw]
   exact hus j v hj
 have hf1 : ∀ (w1 : World) sc, w1.heap[b]? = some (.cells cs e fr) → (Builtin.firstCells 3 (Nat.min (n - i) (n + 1 - (i + 1))) (.slice (some ⟨b, off + i * 3, none⟩) (n - i) sc)).run Tryz.prog w1 = .ok row.toArray w1 := fun w1 sc hw => by
   have hm : Nat.min (n - i) (n + 1 - (i + 1)) = n - i := by simp only [Nat.min_def]; split <;> omega
   rw [hm]
   refine run_firstCells_some w1 3 (n - i) _ _ _ row hrl fun j v hj => ?_
   rw [Addr.add_lit, cell_obj hw]
   exact hrow j v hj
 have hGS : (n + 1) * 3 ≤ G * 3 := Nat.mul_le_mul_right _ hG
 have hcpA : ∀ (w1 : World), w1.heap[w.heap.size]? = some (.cells ROW 157 (0, 0)) → w1.heap[vb]? = some (.cells cv ev fv) → ∀ ty dc, (Builtin.copy_ #[28, 28] ty #[.slice (some ⟨w.heap.size, i * 3, none⟩) (n + 1 - i) dc, .slice (some ⟨vb, voff, none⟩) 1 vc]).run Tryz.prog w1 = .ok (.int .i64 (Nat.min 1 (n + 1 - i) : Nat)) (World.setObjAt w1 w.heap.size (.cells (setCells ROW (i * 3) us) 157 (0, 0))) := fun w1 hw hv ty dc => by
   have := run_copy_at (P := Tryz.prog) (w := w1) (ty := ty) (t := 28) Tryz.underlying28 hsE (b := w.heap.size) (p := i * 3) (k := n + 1 - i) (dc := dc) (n := 1) (v := .slice (some ⟨vb, voff, none⟩) 1 vc) (by simp [Builtin.lenOf]) (hf2 w1 hv) hw (by rw [hRs]; omega) (fun j h1 h2 => by omega) h1v
   simpa using this
 have hcpB : ∀ (w1 : World), w1.heap[w.heap.size]? = some (.cells (setCells ROW (i * 3) us) 157 (0, 0)) → w1.heap[b]? = some (.cells cs e fr) → ∀ ty dc sc, (Builtin.copy_ #[28, 28] ty #[.slice (some ⟨w.heap.size, (i + 1) * 3, none⟩) (n + 1 - (i + 1)) dc, .slice (some ⟨b, off + i * 3, none⟩) (n - i) sc]).run Tryz.prog w1 = .ok (.int .i64 (Nat.min (n - i) (n + 1 - (i + 1)) : Nat)) (World.setObjAt w1 w.heap.size (.cells (setCells (setCells ROW (i * 3) us) ((i + 1) * 3) row) 157 (0, 0))) := fun w1 hw hb ty dc sc => by
   have := run_copy_at (P := Tryz.prog) (w := w1) (ty := ty) (t := 28) Tryz.underlying28 hsE (b := w.heap.size) (p := (i + 1) * 3) (k := n + 1 - (i + 1)) (dc := dc) (n := n - i) (v := .slice (some ⟨b, off + i * 3, none⟩) (n - i) sc) (by simp [Builtin.lenOf]) (hf1 w1 sc hb) hw (by rw [setCells_size, hRs]; omega) (fun j h1 h2 => by omega) h1r
   simpa using this
 have hN1 : (w.alloc (.cells ROW 157)).drew.heap[w.heap.size]? = some (.cells ROW 157 (0, 0)) := by
   show (w.heap.push _)[_]? = _
   rw [Array.getElem?_push, if_pos rfl]
 have hA1 : ∀ k, k < w.heap.size → (w.alloc (.cells ROW 157)).drew.heap[k]? = w.heap[k]? := fun k hk => by
   show (w.heap.push _)[k]? = _
   rw [Array.getElem?_push, if_neg (by omega)]
 have hcpA' := hcpA (w.alloc (.cells ROW 157)).drew hN1 (by rw [hA1 _ hvw]; exact hobv)
 have hW2h : (World.setObjAt (w.alloc (.cells ROW 157)).drew w.heap.size (.cells (setCells ROW (i * 3) us) 157 (0, 0))).heap = w.heap.push (.cells (setCells ROW (i * 3) us) 157 (0, 0)) := hNp w.heap _ _
 have hcpB' := hcpB (World.setObjAt (w.alloc (.cells ROW 157)).drew w.heap.size (.cells (setCells ROW (i * 3) us) 157 (0, 0))).drew (by show (World.setObjAt (w.alloc (.cells ROW 157)).drew w.heap.size (.cells (setCells ROW (i * 3) us) 157 (0, 0))).heap[_]? = _; rw [hW2h, Array.getElem?_push, if_pos rfl]) (by show (World.setObjAt (w.alloc (.cells ROW 157)).drew w.heap.size (.cells (setCells ROW (i * 3) us) 157 (0, 0))).heap[_]? = _; rw [hW2h, Array.getElem?_push, if_neg (by omega)]; exact hobj)
 have hw1 : IntKind.i64.wrap ((i : Int) + 1) = (i : Int) + 1 := by rw [IntKind.wrap_i64]; omega
 have hb1 : (0 : Int) ≤ (i : Int) + 1 := by omega
 have hin' : i ≤ n := by omega
 have htn : ((i : Int) + 1).toNat = i + 1 := by omega
 have hb3 : (i : Int) ≤ (n : Int) := by omega
 have hGi : ¬ (G = i) := by omega
 have hGim : ¬ (G = i + 1) := by omega
 have hci : ¬ (c = i) := by omega
 clear hkk hik hROW hGe hcpA hcpB hf1 hf2 hold hrow hus
 go_enter Tryz.func242, Tryz.ntmps242
 go_wp2_with (at_builtin; refine Lib.wpList_append_run _ rfl _ _ _ _ rfl _ _ rfl rfl _ _ (hgrow _) ?_)
 all_goals (go_wp2_with (rw [hcpA']))
 go_region_law_o (refine step_copy_runI rfl _ _ 28 28 rfl (.slice (some ⟨w.heap.size, (i + 1) * 3, none⟩) (n + 1 - (i + 1)) (G - (i + 1))) (.slice (some ⟨b, off + i * 3, none⟩) (n - i) (c - i)) (by simp [Act.eval, Act.put]) (by simp [Act.eval, Act.put]) (hcpB' 3 (G - (i + 1)) (c - i)) ?_)
 all_goals go_wp2
 go_ret
 refine ⟨G, hG, rfl, ROW, hRs, hRo, ?_, rfl, rfl, rfl⟩
 show ((w.heap.push _).setIfInBounds _ _).setIfInBounds _ _ = _
 rw [hNp]
 exact hNp w.heap _ _
set_option maxRecDepth 100000 in
theorem ins_str_ok {W : World} {G : Nat} {C : Cfg Unit} {n : Nat} (hC : CfgOk ⟨Tryz.prog, compC Tryz.prog G, G, W⟩ Unit C) : FuncOk ⟨Tryz.prog, compC Tryz.prog G, G, W⟩ Unit 241 (insO 1 16 9 (fcallF C (fexec C n) 241)) := by
 have hcall : fcallF C (fexec C n) = callF C (exec C n) := by
   funext g args S K
   rw [fexec_eq, fcallF_eq]
 rw [hcall]
 refine ins_ok (by decide) (by rw [Tryz.underlying9]; intro h; cases h) Tryz.func241 (by kernel_rfl) rfl ?_ ?_ (callF_ok hC (exec_ok hC n) _)
 · intro b off n c i vb voff vc us row w cs cv e ev lo hi lv hv h1 h2 h3 h4 h5 h6 h7 h8 h9 h10 h11 h12 h13 h14 h15 h16
   have := ins_room_str b off n c i vb voff vc us row w cs cv e ev lo hi lv hv h1 h2 h3 h4 h5 h6 h7 h8 h9 h10 (by simpa using h11) h12 h13 h14 h15 h16
   simpa using this
 · intro b off n c i vb voff vc us row old w cs cv e ev fr fv h1 h2 h3 h4 h5 h6 h7 h8 h9 h10 h11 h12 h13 h14
   have := ins_grow_str b off n c i vb voff vc us row old w cs cv e ev fr fv h1 h2 h3 h4 h5 h6 h7 h8 (by simpa using h9) h10 h11 h12 h13 h14
   simpa using this
set_option maxRecDepth 100000 in
theorem ins_plc_ok {W : World} {G : Nat} {C : Cfg Unit} {n : Nat} (hC : CfgOk ⟨Tryz.prog, compC Tryz.prog G, G, W⟩ Unit C) : FuncOk ⟨Tryz.prog, compC Tryz.prog G, G, W⟩ Unit 242 (insO 3 32 157 (fcallF C (fexec C n) 242)) := by
 have hcall : fcallF C (fexec C n) = callF C (exec C n) := by
   funext g args S K
   rw [fexec_eq, fcallF_eq]
 rw [hcall]
 refine ins_ok (by decide) (by rw [Tryz.underlying157]; intro h; cases h) Tryz.func242 (by kernel_rfl) rfl ?_ ?_ (callF_ok hC (exec_ok hC n) _)
 · intro b off n c i vb voff vc us row w cs cv e ev lo hi lv hv h1 h2 h3 h4 h5 h6 h7 h8 h9 h10 h11 h12 h13 h14 h15 h16
   have := ins_room_plc b off n c i vb voff vc us row w cs cv e ev lo hi lv hv h1 h2 h3 h4 h5 h6 h7 h8 h9 h10 (by simpa using h11) h12 h13 h14 h15 h16
   simpa using this
 · intro b off n c i vb voff vc us row old w cs cv e ev fr fv h1 h2 h3 h4 h5 h6 h7 h8 h9 h10 h11 h12 h13 h14
   have := ins_grow_plc b off n c i vb voff vc us row old w cs cv e ev fr fv h1 h2 h3 h4 h5 h6 h7 h8 (by simpa using h9) h10 h11 h12 h13 h14
   simpa using this
end Abs
end Go.Proofs.YtfkchheildfkpaaGreatDoor.Refl
