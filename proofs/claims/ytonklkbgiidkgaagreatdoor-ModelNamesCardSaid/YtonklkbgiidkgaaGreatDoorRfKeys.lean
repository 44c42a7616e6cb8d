/-
 An oracle of the interpreter: slices.Sorted over what maps.Keys hands back.
-/
import Derived.Test.YtonklkbgiidkgaaGreatDoorRfNat
import Derived.Sort.KeysCollected
import Derived.Sort.Walk0
import Derived.Laws.AppendOwn
namespace Go.Proofs.YtonklkbgiidkgaaGreatDoor.Refl
open Go Go.RowKit Go.Maps Go.Sort
open Go.WideElems (Fit rd rg pl rd_val elemAt)
namespace Abs
set_option linter.unusedVariables false
set_option linter.unusedSimpArgs false
theorem Step.gainV {E : Env} {M : Nat} {f : Inj} {S : VSt} {w : World} (h : Sim E M f S w) (hsm : S.next ≤ 1000000000) (hM : S.next < M) {blk : ABlock} {obj : Obj} {N g : Nat} {w' : World} (hbw : Below w.heap.size w w') (hg : w.heap.size ≤ g) (hobj : w'.heap[g]? = some obj)
   (hb : ∀ k : Inj, f.le k → BRel E.comp k N blk obj) : Step E M f S w (upd f S.next (g, N)) ⟨setB S.get S.next blk, S.next + 1, S.floor, S.wl⟩ w' := by
 obtain ⟨hos, htape, hout, hsz, hold⟩ := hbw
 have hglt : g < w'.heap.size := (Array.getElem?_eq_some_iff.1 hobj).1
 have hf0 : f S.next = none := h.fresh _ (Nat.le_refl _) hM
 have hle := upd_le (g, N) hf0
 have hget : ∀ x, x ≠ S.next → setB S.get S.next blk x = S.get x := fun x hx => setB_other _ _ hx
 have hget0 : setB S.get S.next blk S.next = some blk := setB_same ..
 have hatle : ∀ x B K, upd f S.next (g, N) x = some (B, K) → x ≠ S.next → B < w.heap.size := by
   intro x B K hx hne
   rw [upd_other f _ hne] at hx
   exact h.lt x B K hx
 refine ⟨hle, ⟨?_, ?_, ?_, ?_, ?_, ?_, ?_, ?_, ?_, ?_, ?_, ?_, ?_⟩, hsz, fun B hB _ => hold B hB, Nat.le_succ _, rfl, fun _ h => h, ?_, ?_⟩
 · intro b b' B K K' h1 h2 l1 l2
   have l1' : b ≠ S.next → Live S b := fun hne blk' hb' => l1 blk' (by show setB S.get S.next blk b = _; rw [hget b hne]; exact hb')
   have l2' : b' ≠ S.next → Live S b' := fun hne blk' hb' => l2 blk' (by show setB S.get S.next blk b' = _; rw [hget b' hne]; exact hb')
   by_cases e1 : b = S.next <;> by_cases e2 : b' = S.next
   · rw [e1, e2]
   · exfalso
     subst e1
     rw [upd_same] at h1
     cases h1
     have := hatle b' _ _ h2 e2
     omega
   · exfalso
     subst e2
     rw [upd_same] at h2
     cases h2
     have := hatle b _ _ h1 e1
     omega
   · rw [upd_other f _ e1] at h1
     rw [upd_other f _ e2] at h2
     exact h.inj b b' B K K' h1 h2 (l1' e1) (l2' e2)
 · intro b h1 h2
   rw [upd_other f _ (by simp only at h1; omega)]
   exact h.fresh b (by simp only at h1; omega) h2
 · intro b B K hb'
   by_cases e : b = S.next
   · subst e; rw [upd_same] at hb'; cases hb'; omega
   · have := hatle b B K hb' e; omega
 · intro b blk' hg' B K hf
   by_cases e : b = S.next
   · subst e
     rw [upd_same] at hf
     cases hf
     have hg' : setB S.get S.next blk S.next = some blk' := hg'
     rw [hget0] at hg'
     cases hg'
     exact ⟨obj, hobj, hb _ hle⟩
   · have hg' : setB S.get S.next blk b = some blk' := hg'
     rw [hget b e] at hg'
     rw [upd_other f _ e] at hf
     obtain ⟨obj', ho, hr⟩ := h.blk b blk' hg' B K hf
     exact ⟨obj', by rw [hold B (h.lt b B K hf)]; exact ho, hr.mono hle⟩
 · intro x hx
   obtain ⟨K, hK⟩ := h.glob x hx
   exact ⟨K, hle _ _ hK⟩
 · intro b hb'
   show setB S.get S.next blk b = none
   rw [hget b (by simp only at hb'; omega)]
   exact h.none b (by simp only at hb'; omega)
 · intro b blk' B K hf hg' hro
   by_cases e : b = S.next
   · subst e
     rw [upd_same] at hf
     cases hf
     exact Nat.le_trans h.big hg
   · have hg' : setB S.get S.next blk b = some blk' := hg'
     rw [hget b e] at hg'
     rw [upd_other f _ e] at hf
     exact h.base b blk' B K hf hg' hro
 · intro k hk
   rw [hold k (Nat.lt_of_lt_of_le hk h.big)]
   exact h.keep k hk
 · exact Nat.le_trans h.big hsz
 · rw [hos]; exact h.os
 · rw [htape]; exact h.tape
 · rw [hout]; exact h.output
 · exact Nat.le_succ_of_le h.flo
 · intro b h1 h2
   show setB S.get S.next blk b = S.get b
   by_cases e : b = S.next
   · have := h.flo; omega
   · exact hget b e
 · intro b B K h1 h2
   by_cases e : b = S.next
   · subst e
     rw [upd_same] at h1
     cases h1
     exact ⟨Nat.le_refl _, Nat.lt_succ_self _, .inl hg⟩
   · rw [upd_other f _ e, h2] at h1; cases h1
theorem Step.gain {E : Env} {M : Nat} {f : Inj} {S : AState} {w : World} (h : Sim E M f S.v w) (hsm : S.next ≤ 1000000000) (hM : S.next < M) {blk : ABlock} {obj : Obj} {N g : Nat} {w' : World} (hbw : Below w.heap.size w w') (hg : w.heap.size ≤ g) (hobj : w'.heap[g]? = some obj)
   (hb : ∀ k : Inj, f.le k → BRel E.comp k N blk obj) : Step E M f S.v w (upd f S.next (g, N)) (⟨T.put blk 40 S.heap S.next, S.next + 1, S.floor, S.wl⟩ : AState).v w' := by
 rw [v_alloc _ _ hsm]
 exact Step.gainV h hsm hM hbw hg hobj hb
/-! texts in order -/
def encT (b : List UInt8) : Nat × Nat := (b.length, packL b)
theorem strLt_enc (a b : List UInt8) : strLt a.length (packL a) b.length (packL b) = decide (a < b) := by
 rw [strLt_rel (s := ⟨a.toArray⟩) (t := ⟨b.toArray⟩) ⟨by simp, by simp⟩ ⟨by simp, by simp⟩]
 simp [bytesLess_eq]
noncomputable def insT (n x : Nat) : List (Nat × Nat) → List (Nat × Nat)
 | [] => [(n, x)]
 | c :: l => match strLt n x c.1 c.2 with
   | true => (n, x) :: c :: l
   | false => c :: insT n x l
noncomputable def memT (n x : Nat) : List (Nat × Nat) → Bool
 | [] => false
 | c :: l => or (and (Nat.beq n c.1) (Nat.beq x c.2)) (memT n x l)
def insB (b : List UInt8) : List (List UInt8) → List (List UInt8)
 | [] => [b]
 | c :: l => if b < c then b :: c :: l else c :: insB b l
theorem insT_enc (b : List UInt8) : ∀ l : List (List UInt8), insT b.length (packL b) (l.map encT) = (insB b l).map encT
 | [] => rfl
 | c :: l => by
   rw [List.map_cons, insT, insB]
   show (match strLt b.length (packL b) c.length (packL c) with | true => _ | false => _) = _
   rw [strLt_enc, insT_enc b l]
   by_cases h : b < c <;> simp [h] <;> rfl
theorem insB_perm (b : List UInt8) : ∀ l : List (List UInt8), (insB b l).Perm (b :: l)
 | [] => .refl _
 | c :: l => by
   rw [insB]
   split
   · exact .refl _
   · exact ((insB_perm b l).cons c).trans (.swap ..)
theorem insB_sorted (b : List UInt8) : ∀ l : List (List UInt8), l.Pairwise (· ≤ ·) → (insB b l).Pairwise (· ≤ ·)
 | [], _ => by simp [insB]
 | c :: l, h => by
   rw [List.pairwise_cons] at h
   rw [insB]
   split
   · rename_i hlt
     rw [List.pairwise_cons, List.pairwise_cons]
     refine ⟨fun x hx => ?_, h⟩
     cases hx with
     | head => exact List.le_of_lt hlt
     | tail _ hx => exact List.le_trans (List.le_of_lt hlt) (h.1 x hx)
   · rename_i hlt
     rw [List.pairwise_cons]
     refine ⟨fun x hx => ?_, insB_sorted b l h.2⟩
     rcases List.mem_cons.1 ((insB_perm b l).mem_iff.1 hx) with rfl | hx
     · exact List.not_lt.1 hlt
     · exact h.1 x hx
theorem memT_enc (b : List UInt8) : ∀ l : List (List UInt8), memT b.length (packL b) (l.map encT) = true ↔ b ∈ l
 | [] => by simp [memT]
 | c :: l => by
   rw [List.map_cons, memT, Bool.or_eq_true, memT_enc b l, List.mem_cons, Bool.and_eq_true, Nat.beq_eq, Nat.beq_eq]
   exact or_congr ⟨fun h => packL_inj h.1 h.2, fun h => by subst h; exact ⟨rfl, rfl⟩⟩ Iff.rfl
noncomputable def keysF (cl : Nat) : List (AVal × AVal × Nat) → List Nat → List (Nat × Nat) → Option (List (Nat × Nat))
 | [], _, acc => some acc
 | e :: es, seen, acc => match e.1 with
   | .str n x => match and (and (Nat.ble n 1000000) (Nat.ble (Nat.succ e.2.2) cl)) (and (!(memB e.2.2 seen)) (!(memT n x acc))) with
     | true => keysF cl es (e.2.2 :: seen) (insT n x acc)
     | false => none
   | _ => none
theorem keysF_ok {f : Inj} {cl : Nat} : ∀ (es : List (AVal × AVal × Nat)) (es' : List MapEntry) (seen : List Nat) (acc : List (List UInt8)) (out : List (Nat × Nat)), EntriesRel f es es' → keysF cl es seen (acc.map encT) = some out → acc.Pairwise (· ≤ ·) →
   ∃ bs : List (List UInt8), es'.map (·.key) = bs.map encStr ∧ (∀ e ∈ es', e.born < cl) ∧ (es'.map (·.born)).Nodup ∧ (∀ e ∈ es', e.born ∉ seen) ∧ bs.Nodup ∧ (∀ b ∈ bs, b ∉ acc ∧ b.length ≤ 1000000) ∧ ∃ fin : List (List UInt8), out = fin.map encT ∧ fin.Perm (bs ++ acc) ∧ fin.Pairwise (· ≤ ·)
 | [], es', seen, acc, out, hr, h, hs => by
   cases hr
   rw [keysF] at h
   cases h
   exact ⟨[], rfl, by simp, by simp, by simp, by simp, by simp, acc, rfl, .refl _, hs⟩
 | e :: es, es', seen, acc, out, hr, h, hs => by
   obtain ⟨e', es'', rfl, ⟨hk, hv, hbn⟩, hr⟩ := hr
   rw [keysF] at h
   split at h
   case h_2 => cases h
   rename_i n x hen
   split at h
   case h_2 => cases h
   rename_i hc
   simp only [Bool.and_eq_true, Nat.ble_eq, Bool.not_eq_true'] at hc
   obtain ⟨⟨hn, hcl⟩, hseen, hmem⟩ := hc
   rw [hen] at hk
   obtain ⟨s, hks, hsr⟩ := hk
   obtain ⟨b, hb⟩ : ∃ b, b = s.data.toList := ⟨_, rfl⟩
   have hn' : n = b.length := by rw [hb]; exact hsr.1.symm
   have hx' : x = packL b := by rw [hb]; exact hsr.2.symm
   subst hn' hx'
   rw [insT_enc] at h
   obtain ⟨bs, k1, k2, k3, k4, k5, k6, fin, k7, k8, k9⟩ := keysF_ok es es'' _ _ out hr h (insB_sorted b acc hs)
   have hbm : b ∉ acc := fun hm => by rw [(memT_enc b acc).2 hm] at hmem; cases hmem
   have hbs : b ∉ bs := fun hm => (k6 b hm).1 ((insB_perm b acc).mem_iff.2 (List.mem_cons_self ..))
   have hns : e'.born ∉ seen := fun hm => by rw [← hbn] at hm; rw [(memB_iff _ _).2 hm] at hseen; cases hseen
   refine ⟨b :: bs, ?_, ?_, ?_, ?_, ?_, ?_, fin, k7, ?_, k9⟩
   · rw [List.map_cons, List.map_cons, k1, hks]
     congr 1
     rw [hb]
   · intro e he
     cases he with
     | head => rw [← hbn]; exact hcl
     | tail _ he => exact k2 e he
   · rw [List.map_cons, List.nodup_cons]
     refine ⟨fun hm => ?_, k3⟩
     obtain ⟨e2, he2, heq⟩ := List.mem_map.1 hm
     have := k4 e2 he2
     rw [heq] at this
     exact this (by rw [hbn]; exact List.mem_cons_self ..)
   · intro e he
     cases he with
     | head => exact hns
     | tail _ he => exact fun hm => k4 e he (List.mem_cons_of_mem _ hm)
   · exact List.nodup_cons.2 ⟨hbs, k5⟩
   · intro c hc
     cases hc with
     | head => exact ⟨hbm, hn⟩
     | tail _ hc => exact ⟨fun hm => (k6 c hc).1 ((insB_perm b acc).mem_iff.2 (List.mem_cons_of_mem _ hm)), (k6 c hc).2⟩
   · refine k8.trans (((insB_perm b acc).append_left bs).trans ?_)
     exact List.perm_middle
theorem owns_keys {P : Program} {k : TypeId} (hk : P.underlying k = some .string) {w : World} {b cl : Nat} {es : Array MapEntry} {bs : List (List UInt8)} (hb : w.heap[b]? = some (.map es cl)) (hkeys : es.toList.map (·.key) = bs.map encStr) (hborn : ∀ e ∈ es.toList, e.born < cl)
   (hnd : (es.toList.map (·.born)).Nodup) (hbs : bs.Nodup) (hlen : ∀ x ∈ bs, x.length ≤ 1000000) (hsz : es.size ≤ 1000000) :
   ∃ D : DataW Unit, w.ownsMap P k (fun _ => some (.nil, [])) b es.size D ∧ Maps.size D = es.size ∧ (strKeys D).Perm bs := by
 have hmx : (1000000 : Nat) ≤ maxLen := by decide
 have hrd : ∀ x ∈ es.toList, ∃ s : List UInt8, s ∈ bs ∧ x.key = encStr s ∧ rd (H := Unit) P k (fun _ => some (.nil, [])) x = some (.string s, .nil) := by
   intro x hx
   have hm : x.key ∈ bs.map encStr := by rw [← hkeys]; exact List.mem_map_of_mem hx
   obtain ⟨s, hs, he⟩ := List.mem_map.1 hm
   refine ⟨s, hs, he.symm, ?_⟩
   have : keyOf P k x.key = some (.string s) := by
     rw [← he, encStr, Go.WideMaps.keyOf_string_mk hk (by have := hlen s hs; show s.toArray.size ≤ _; simp; omega)]
   unfold Go.WideElems.rd
   rw [this]
   rfl
 have hF : Fit (H := Unit) P k (fun _ => some (.nil, [])) es cl := by
   refine ⟨by omega, ⟨hborn, hnd, ?_⟩, fun x hx => let ⟨s, _, _, h⟩ := hrd x hx; ⟨_, h⟩⟩
   rw [hkeys]
   exact List.Pairwise.map _ (fun a b (hne : a ≠ b) he => hne (encStr_inj he)) hbs
 refine ⟨_, ⟨es, cl, hb, hF, Nat.le_refl _, rfl⟩, ?_, ?_⟩
 · show ((es.toList.map _).foldr DataW.insert []).length = _
   rw [length_sorted]; simp
 · show (((es.toList.map (rg (H := Unit) P k fun _ => some (.nil, []))).foldr DataW.insert []).map fun p => strOf p.1).Perm bs
   refine ((Go.WideShapes.sorted_perm _).map _).trans ?_
   have : (es.toList.map (rg (H := Unit) P k fun _ => some (.nil, []))).map (fun p => strOf p.1) = bs := by
     have inj : ∀ a b : List (List UInt8), a.map encStr = b.map encStr → a = b := by
       intro a
       induction a with
       | nil => intro b h; cases b with | nil => rfl | cons => simp at h
       | cons x a ih => intro b h; cases b with
         | nil => simp at h
         | cons y b => rw [List.map_cons, List.map_cons, List.cons.injEq] at h; rw [encStr_inj h.1, ih b h.2]
     refine inj _ _ ?_
     rw [← hkeys, List.map_map, List.map_map]
     refine List.map_congr_left fun x hx => ?_
     obtain ⟨s, _, he, hr⟩ := hrd x hx
     show encStr (strOf (rg P k _ x).1) = x.key
     rw [Go.WideElems.rg_of hr, he]; rfl
   rw [this]
theorem sorted_eq {ss fin bs : List (List UInt8)} (h1 : ss.Perm bs) (h2 : fin.Perm bs) (hs : fin.Pairwise (· ≤ ·)) : ss.mergeSort leB = fin := by
 rw [mergeSort_of_perm (h1.trans h2.symm)]
 exact List.mergeSort_of_pairwise (hs.imp fun h => by simpa using h)
/-! the oracle -/
noncomputable def keysO (its : List Nat) (ks : Nat) (args : List AVal) (S : AState) (K : KV Unit) : Option Unit := match args with
 | [.fn (.func g) [] [.ptr bm 0]] => match memB g its with
   | true => match S.heap.get bm with
     | some (.cells c d n wr e) => match Nat.ble 1 n with
       | true => match getCell c d 0 with
         | .map b => match S.heap.get b with
           | some (.map es cl) => match Nat.ble es.length 1000000 with
             | true => match keysF cl es [] [] with
               | some [] => K .slc0 S
               | some (a :: l) => allocS S (newCells ((a :: l).map fun p => .str p.1 p.2) ks) fun b S => K (.slc b 0 (Nat.succ l.length) 1) S
               | none => none
             | false => none
           | _ => none
         | _ => none
       | false => none
     | _ => none
   | false => none
 | _ => none
def KeysLaw (P : Program) (g it ks : Nat) : Prop :=
 ∀ (bm b nn : Nat) (D : DataW Unit) (w : World), bm < w.heap.size → w.cell? ⟨bm, 0, none⟩ = some (.map (some b)) → w.ownsMap P ks (fun _ => some (.nil, [])) b nn D → Maps.size D ≤ 1000000 →
   Calls P g #[.func (.func it) #[] #[.pointer (some ⟨bm, 0, none⟩)]] w fun e w' => ∃ (v : Value) (ss : List (List UInt8)), e = .returned v ∧ ss.Perm (strKeys D) ∧
     w'.ownsRow w.heap.size ks 1 v ss.length ((ss.mergeSort (fun x y => decide (x ≤ y))).map encStr) ∧ (v = .slice none 0 0 ↔ ss = []) ∧ Below w.heap.size w w'
theorem keys_ok {P : Program} {W : World} {G g ks : Nat} {its : List Nat} {Fn : Func} {code : Code} (hf : P.funcs[g]? = some Fn) (hn : (Fn.name == "runtime.NumGoroutine") = false) (hb : Fn.body = some code) (hks : P.underlying ks = some .string) (hlaw : ∀ it ∈ its, KeysLaw P g it ks) :
   FuncOk ⟨P, compC P G, G, W⟩ Unit g (keysO its ks) := by
 intro args S K r h hok
 unfold keysO at h
 split at h
 case h_2 => cases h
 rename_i g' bm
 split at h
 case h_2 => cases h
 rename_i hg
 rw [memB_iff] at hg
 have hlaw := hlaw g' hg
 split at h
 case h_2 => cases h
 rename_i c d n wr e hgm
 split at h
 case h_2 => cases h
 rename_i hn1
 rw [Nat.ble_eq] at hn1
 split at h
 case h_2 => cases h
 rename_i b hc0
 split at h
 case h_2 => cases h
 rename_i es cl hgb
 split at h
 case h_2 => cases h
 rename_i hsz
 rw [Nat.ble_eq] at hsz
 -- in the machine
 have key : ∀ {M : Nat} {f : Inj} {w : World} {us : Array Value} {out : List (Nat × Nat)}, Sim ⟨P, compC P G, G, W⟩ M f S.v w → VRels f [.fn (.func g') [] [.ptr bm 0]] us.toList → keysF cl es [] [] = some out →
     Calls P g us w fun e w' => ∃ (v : Value) (fin : List (List UInt8)), e = .returned v ∧ out = fin.map encT ∧ w'.ownsRow w.heap.size ks 1 v fin.length (fin.map encStr) ∧ (v = .slice none 0 0 ↔ fin = []) ∧ Below w.heap.size w w' ∧ fin.length ≤ 1000000 := by
   intro M f w us out hs hus hkeys
   obtain ⟨u, us', hus', ⟨g2, fs, cs, rfl, hfn, hfs, hcs⟩, hnil⟩ := hus
   cases hnil
   have hfs := VRels.length hfs
   obtain ⟨p, ps, hcs', ⟨Bm, Nm, hfm, rfl⟩, hnil⟩ := hcs
   cases hnil
   have hus2 : us = #[.func g2 fs cs] := by
     have := congrArg List.toArray hus'
     simpa using this
   have hfs2 : fs = #[] := by
     have : fs.size = 0 := by simpa using hfs.symm
     exact Array.eq_empty_of_size_eq_zero this
   have hcs2 : cs = #[.pointer (some ⟨Bm, 0, none⟩)] := by
     have := congrArg List.toArray hcs'
     simpa using this
   have hfn : g2 = .func g' := by
     cases g2 <;> first | (cases hfn; rfl) | exact absurd hfn (by simp [FnRel])
   subst hfn hfs2 hcs2 hus2
   obtain ⟨obj, hobj, cells, lo, hi, rfl, _, hnN, _, hcell⟩ := hs.blk bm _ hgm Bm Nm hfm
   obtain ⟨v0, hv0, hr0⟩ := hcell 0 hn1
   rw [hc0] at hr0
   obtain ⟨B, N, hfB, rfl⟩ := hr0
   obtain ⟨obj2, hobj2, es', rfl, hes⟩ := hs.blk b _ hgb B N hfB
   have hlen : es.length = es'.size := by
     have : ∀ (l : List (AVal × AVal × Nat)) (l' : List MapEntry), EntriesRel f l l' → l.length = l'.length := by
       intro l
       induction l with
       | nil => intro l' h; cases h; rfl
       | cons a l ih => intro l' h; obtain ⟨_, _, rfl, _, h⟩ := h; simp [ih _ h]
     simpa using this _ _ hes
   obtain ⟨bs, k1, k2, k3, _, k5, k6, fin, k7, k8, k9⟩ := keysF_ok es es'.toList [] [] out hes hkeys .nil
   rw [List.append_nil] at k8
   obtain ⟨D, hown, hDs, hDk⟩ := owns_keys hks hobj2 k1 k2 k3 k5 (fun x hx => (k6 x hx).2) (by omega)
   refine (hlaw Bm B es'.size D w (hs.lt bm Bm Nm hfm) (cell_at hobj hv0) hown (by omega)).mono ?_
   rintro e w' ⟨v, ss, rfl, hp, hrow, hv, hbl⟩
   have hmg : ss.mergeSort (fun x y => decide (x ≤ y)) = fin := sorted_eq (hp.trans hDk) k8 k9
   have hpf : ss.Perm fin := (hp.trans hDk).trans k8.symm
   rw [hmg, hpf.length_eq] at hrow
   refine ⟨v, fin, rfl, k7, hrow, hv.trans ⟨fun h => by subst h; exact hpf.symm.eq_nil, fun h => by subst h; exact hpf.eq_nil⟩, hbl, ?_⟩
   have h1 := congrArg List.length k1
   rw [List.length_map, List.length_map] at h1
   have h2 := k8.length_eq
   have h3 : es'.toList.length = es'.size := by simp
   omega
 split at h
 case h_3 => cases h
 · rename_i hk
   refine ⟨_, _, h, .refl _, fun M f w us hs hM hus => goes_of_calls hf hn hb ((key hs hus hk).mono ?_)⟩
   rintro e w' ⟨v, fin, rfl, ho, hrow, hv, hbl, hl6⟩
   have : fin = [] := List.map_eq_nil_iff.1 ho.symm
   exact ⟨v, rfl, f, Step.below hs hbl, hv.2 this⟩
 · rename_i a l hk
   obtain ⟨hsm, h⟩ := allocS_eq h
   refine ⟨_, _, h, AStep.alloc _ trivial, fun M f w us hs hM hus => goes_of_calls hf hn hb ((key hs hus hk).mono ?_)⟩
   rintro e w' ⟨v, fin, rfl, ho, ⟨hlen, hrow⟩, hv, hbl, hl6⟩
   have hfl : fin.length = l.length + 1 := by
     have := congrArg List.length ho
     simpa using this.symm
   rcases hrow with ⟨_, h0⟩ | ⟨g1, cap, cur, rfl, hg1, hcur, hcap, _, hcs, htake⟩
   · omega
   rw [Nat.mul_one] at hcs htake
   refine ⟨_, rfl, _, Step.gain hs hsm (by have : S.next + 1 ≤ M := hM; omega) (blk := newCells ((a :: l).map fun p => .str p.1 p.2) ks) (N := cur.size) hbl hg1 hcur (fun k hk => ?_), ⟨g1, cur.size, cap, 0, upd_same .., ?_, ?_, .inl rfl, ?_⟩⟩
   · refine ⟨cur, 0, 0, rfl, rfl, by simp; omega, fun _ => .inl rfl, fun i hi => ?_⟩
     simp only [List.length_map, List.length_cons] at hi
     have hi' : i < fin.length := by omega
     refine ⟨encStr fin[i], ?_, ?_⟩
     · have h1 : (cur.toList.take fin.length)[i]? = some (encStr fin[i]) := by rw [htake]; simp [hi']
       rw [List.getElem?_take, if_pos hi'] at h1
       simpa using h1
     · rw [getCell_eq, putCells_get _ .leaf 0 i (by simp; omega), if_pos (by simp; omega), Nat.sub_zero]
       have h2 : ((a :: l).map fun p : Nat × Nat => AVal.str p.1 p.2)[i]? = some (.str fin[i].length (packL fin[i])) := by
         rw [ho]; simp [hi', encT]
       rw [h2]
       exact ⟨_, rfl, by simp, by simp⟩
   · show l.length + 1 ≤ cap; omega
   · omega
   · show Value.slice _ fin.length cap = Value.slice _ (l.length + 1) cap
     rw [hfl]
/-! field.New, whose tables are the same at every call: its code is run once, by the kernel, and its row is written down -/
def powL : List Nat := [1, 2, 4, 8, 16, 32, 64, 128, 29, 58, 116, 232, 205, 135, 19, 38, 76, 152, 45, 90, 180, 117, 234, 201, 143, 3, 6, 12, 24, 48, 96, 192, 157, 39, 78, 156, 37, 74, 148, 53, 106, 212, 181, 119, 238, 193, 159, 35, 70, 140, 5, 10, 20, 40, 80, 160, 93, 186, 105, 210, 185, 111, 222, 161, 95, 190, 97, 194, 153, 47, 94, 188, 101, 202, 137, 15, 30, 60, 120, 240, 253, 231, 211, 187, 107, 214, 177, 127, 254, 225, 223, 163, 91, 182, 113, 226, 217, 175, 67, 134, 17, 34, 68, 136, 13, 26, 52, 104, 208, 189, 103, 206, 129, 31, 62, 124, 248, 237, 199, 147, 59, 118, 236, 197, 151, 51, 102, 204, 133, 23, 46, 92, 184, 109, 218, 169, 79, 158, 33, 66, 132, 21, 42, 84, 168, 77, 154, 41, 82, 164, 85, 170, 73, 146, 57, 114, 228, 213, 183, 115, 230, 209, 191, 99, 198, 145, 63, 126, 252, 229, 215, 179, 123, 246, 241, 255, 227, 219, 171, 75, 150, 49, 98, 196, 149, 55, 110, 220, 165, 87, 174, 65, 130, 25, 50, 100, 200, 141, 7, 14, 28, 56, 112, 224, 221, 167, 83, 166, 81, 162, 89, 178, 121, 242, 249, 239, 195, 155, 43, 86, 172, 69, 138, 9, 18, 36, 72, 144, 61, 122, 244, 245, 247, 243, 251, 235, 203, 139, 11, 22, 44, 88, 176, 125, 250, 233, 207, 131, 27, 54, 108, 216, 173, 71, 142]
def logL : List Nat := [0, 0, 1, 25, 2, 50, 26, 198, 3, 223, 51, 238, 27, 104, 199, 75, 4, 100, 224, 14, 52, 141, 239, 129, 28, 193, 105, 248, 200, 8, 76, 113, 5, 138, 101, 47, 225, 36, 15, 33, 53, 147, 142, 218, 240, 18, 130, 69, 29, 181, 194, 125, 106, 39, 249, 185, 201, 154, 9, 120, 77, 228, 114, 166, 6, 191, 139, 98, 102, 221, 48, 253, 226, 152, 37, 179, 16, 145, 34, 136, 54, 208, 148, 206, 143, 150, 219, 189, 241, 210, 19, 92, 131, 56, 70, 64, 30, 66, 182, 163, 195, 72, 126, 110, 107, 58, 40, 84, 250, 133, 186, 61, 202, 94, 155, 159, 10, 21, 121, 43, 78, 212, 229, 172, 115, 243, 167, 87, 7, 112, 192, 247, 140, 128, 99, 13, 103, 74, 222, 237, 49, 197, 254, 24, 227, 165, 153, 119, 38, 184, 180, 124, 17, 68, 146, 217, 35, 32, 137, 46, 55, 63, 209, 91, 149, 188, 207, 205, 144, 135, 151, 178, 220, 252, 190, 97, 242, 86, 211, 171, 20, 42, 93, 158, 132, 60, 57, 83, 71, 109, 65, 162, 31, 45, 67, 216, 183, 123, 164, 118, 196, 23, 73, 236, 127, 12, 111, 246, 108, 161, 59, 82, 41, 157, 85, 170, 251, 96, 134, 177, 187, 204, 62, 90, 203, 89, 95, 176, 156, 169, 160, 81, 11, 245, 22, 235, 122, 117, 44, 215, 79, 174, 213, 233, 230, 231, 173, 232, 116, 214, 244, 234, 168, 80, 88, 175]
def fieldL : List AVal := (List.replicate 2 powL).flatten.map (fun x => .int .u8 (.ofNat x)) ++ logL.map (fun x => .int .i64 (.ofNat x))
noncomputable def sameI (a b : AVal) : Bool := match a, b with
 | .int .u8 (.ofNat x), .int .u8 (.ofNat y) => Nat.beq x y
 | .int .i64 (.ofNat x), .int .i64 (.ofNat y) => Nat.beq x y
 | _, _ => false
theorem sameI_eq {a b : AVal} (h : sameI a b = true) : ∃ k m, a = .int k m ∧ b = .int k m := by
 unfold sameI at h
 split at h
 · rw [Nat.beq_eq] at h; subst h; exact ⟨_, _, rfl, rfl⟩
 · rw [Nat.beq_eq] at h; subst h; exact ⟨_, _, rfl, rfl⟩
 · cases h
noncomputable def rowB (c : T AVal) (d : AVal) : List AVal → Nat → Bool
 | [], _ => true
 | a :: l, i => and (sameI a (getCell c d i)) (rowB c d l (Nat.succ i))
theorem rowB_get {c : T AVal} {d : AVal} : ∀ (l : List AVal) (i : Nat), rowB c d l i = true → ∀ j, j < l.length → ∃ k m, l[j]? = some (.int k m) ∧ getCell c d (i + j) = .int k m
 | [], _, _, j, hj => by simp at hj
 | a :: l, i, h, j, hj => by
   rw [rowB, Bool.and_eq_true] at h
   obtain ⟨k, m, ha, hb⟩ := sameI_eq h.1
   cases j with
   | zero => exact ⟨k, m, by rw [ha]; rfl, hb⟩
   | succ j =>
     have := rowB_get l (i + 1) h.2 j (by simpa using hj)
     rw [show i + 1 + j = i + (j + 1) by omega] at this
     exact this
noncomputable def isRowK (l : List AVal) (te : Nat) : KV Unit := fun v S => match v with
 | .ptr b 0 => match S.heap.get b with
   | some (.cells c d n true e) => match and (Nat.beq e te) (and (Nat.beq n l.length) (rowB c d l 0)) with
     | true => some ()
     | false => none
   | _ => none
 | _ => none
noncomputable def newO (l : List AVal) (te : Nat) (args : List AVal) (S : AState) (K : KV Unit) : Option Unit := match args with
 | [] => allocS S (newCells l te) fun b S => K (.ptr b 0) S
 | _ => none
theorem new_ok {P : Program} {W : World} {G g te : Nat} {C : Cfg Unit} {n : Nat} {l : List AVal} {Fn : Func} {code : Code} (hf : P.funcs[g]? = some Fn) (hn : (Fn.name == "runtime.NumGoroutine") = false) (hb : Fn.body = some code) (hC : ∀ W, CfgOk ⟨P, compC P G, G, W⟩ Unit C) (hno : C.orc.get g = none) (hsm : small l.length = true)
   (hrun : fcallF C (fexec C n) g [] (startA .leaf G) (isRowK l te) = some ()) : FuncOk ⟨P, compC P G, G, W⟩ Unit g (newO l te) := by
 rw [fexec_eq, fcallF_eq] at hrun
 have hsml := small_lt hsm
 intro args S K r h hok
 unfold newO at h
 split at h
 case h_2 => cases h
 obtain ⟨hsn, h⟩ := allocS_eq h
 refine ⟨_, _, h, AStep.alloc _ trivial, fun M f w us hs hM hus => ?_⟩
 have hus : us = #[] := Array.toList_inj.1 hus
 subst hus
 have hl : ∀ b blk, (T.leaf : T ABlock).get b = some blk → False := fun b blk h => by rw [T.get_leaf] at h; cases h
 obtain ⟨v, S', hK, hst, hgo⟩ := callF_calls (E := ⟨P, compC P G, G, w⟩) (hC w) n hno hrun (start_ok fun b blk hb => (hl b blk hb).elim)
 refine goes_of_calls hf hn hb ((hgo S'.next _ w #[] (start_sim (N := fun _ => 0) hs.big_enough (fun b blk hb => (hl b blk hb).elim) _) (Nat.le_refl _) rfl).mono ?_)
 rintro e w' ⟨v', rfl, f', hstep, hr⟩
 unfold isRowK at hK
 split at hK
 case h_2 => cases hK
 rename_i b
 split at hK
 case h_2 => cases hK
 rename_i c d n' e hg
 split at hK
 case h_2 => cases hK
 rename_i hc
 rw [Bool.and_eq_true, Bool.and_eq_true, Nat.beq_eq, Nat.beq_eq] at hc
 obtain ⟨rfl, rfl, hrow⟩ := hc
 obtain ⟨B, N, hB, rfl⟩ := hr
 have hwB : w.heap.size ≤ B := hstep.sim.base b _ B N hB hg rfl
 obtain ⟨obj, hobj, cs, lo, hi, rfl, hsz, hnN, hfz, hcell⟩ := hstep.sim.blk b _ hg B N hB
 refine ⟨_, rfl, _, Step.gain hs hsn (by have : S.next + 1 ≤ M := hM; omega) (blk := newCells l e) (N := N) hstep.sim.below hwB hobj (fun k hk => ⟨cs, lo, hi, rfl, hsz, hnN, fun _ => hfz rfl, fun i hi => ?_⟩), ⟨B, N, upd_same .., rfl⟩⟩
 obtain ⟨v, hv, hvr⟩ := hcell i hi
 obtain ⟨k', m', h2, h1⟩ := rowB_get l 0 hrow i hi
 rw [Nat.zero_add] at h1
 rw [h1] at hvr
 refine ⟨v, hv, ?_⟩
 rw [getCell_eq, putCells_get _ .leaf 0 i (by omega), if_pos (by omega), Nat.sub_zero, h2]
 exact hvr
def HeapOk (E : Env) (heap : T ABlock) (N : Nat → Nat) : Prop := ∀ b blk, heap.get b = some blk → b < E.G ∧ roB blk = true ∧ ∃ obj, E.W.heap[b]? = some obj ∧ BRel E.comp (startF E.G N) (N b) blk obj
end Abs
end Go.Proofs.YtonklkbgiidkgaaGreatDoor.Refl
