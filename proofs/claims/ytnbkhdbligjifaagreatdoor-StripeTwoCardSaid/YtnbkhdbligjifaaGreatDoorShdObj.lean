/-
 A world in memory: Put, Sync, Get. Plain words for names and hexes: what a hex is, what a name is, that names tell apart. No program is named. Plain words for a shard's object: its bytes, what is read of them; a digest is any function to 32 bytes. No program is named.
-/
import Derived.Test.YtnbkhdbligjifaaGreatDoorWldB
import Derived.Test.YtnbkhdbligjifaaGreatDoorStoC
import Derived.WalkKit
import Derived.Lib.ItoaMem
import Derived.Lib.AtoiAll
import Derived.Lib.IndexMore
set_option linter.unusedVariables false
set_option linter.unusedSimpArgs false
set_option maxHeartbeats 40000000
namespace Go.Proofs.YtnbkhdbligjifaaGreatDoor
open Go Go.RowKit
namespace Vm
def callE (p : PW) (i : Int) (e : Int) : Int := if p.has i then if p.stepd then 56 else e else 1
def callOk (p : PW) (i : Int) : Bool := p.has i && !p.stepd
theorem callV_b (p : PW) (i e : Int) : callV p i (.bool false) (.tuple #[.bool true, .int .i64 e]) = .tuple #[.bool (callOk p i), .int .i64 (callE p i e)] := by
 unfold callV callOk callE
 cases p.has i <;> cases p.stepd <;> rfl
theorem WPost.front {w w1 w2 : World} {b : Nat} {O : List Nat} {x : Value} {p' : PW} {e : Ending} (hp : WPost w1 b O x p' e w2) (hf : Fr O w w1) : WPost w b O x p' e w2 := by
 obtain ⟨h, O', h1, h2, h3⟩ := hp
 exact ⟨h, O', h1, hf.next h2, fun k hk => (h3 k hk).imp id fun h => Nat.le_trans hf.size h⟩
theorem WPost.told {w w2 : World} {b : Nat} {O : List Nat} {x : Value} {p' : PW} {e : Ending} (hp : WPost w b O x p' e w2) (y : Value) : WPost w b O y p' (.returned y) w2 := by
 obtain ⟨h, O', h1, h2, h3⟩ := hp
 exact ⟨rfl, O', h1, h2, h3⟩
theorem StPost.told {w w2 : World} {b : Nat} {O : List Nat} {x : Value} {p' : PSt} {e : Ending} (hp : StPost w b O x p' e w2) (y : Value) : StPost w b O y p' (.returned y) w2 := by
 obtain ⟨h, O', h1, h2, h3⟩ := hp
 exact ⟨rfl, O', h1, h2, h3⟩
structure PSt.Ok (s : PSt) : Prop where
 small : Small s.seen
 writes : s.writes.length ≤ 1000000
 room : -9223372036854775808 ≤ s.room ∧ s.room ≤ 9223372036854775807
theorem put1_any {w : World} {B : Nat} {s : PSt} {O : List Nat} (h : SAt w B s O) (hs : s.Ok) (N D : List UInt8) (hN : N.length ≤ 1000000) (hD : D.length ≤ 1000000) (c2 : Nat) (k0 : w.cell? ⟨c2, 0, none⟩ = some (.string ⟨N.toArray⟩)) (k1 : w.cell? ⟨c2, 1, none⟩ = some (.string ⟨D.toArray⟩)) :
 Calls Tryz.prog 79 #[.pointer (some ⟨B, 0, none⟩), .pointer (some ⟨c2, 0, none⟩)] w (StPost w B O (.int .i64 (putE s ⟨N.toArray⟩ ⟨D.toArray⟩)) (putS s ⟨N.toArray⟩ ⟨D.toArray⟩)) := by
 have HC := Lib.hid (put_any h hs.small hs.writes hs.room N D hN hD)
 clear h
 go_enter Tryz.func79, Tryz.ntmps79
 go_wp2_with (go_at_call 80; with_reducible refine HC.out.mono ?_)
 intro e w1 hq
 have HQ := Lib.hid hq
 obtain ⟨rfl, -⟩ := hq
 go_wp2_with fail
 go_ret
 exact HQ.out
theorem writeP1_any {w : World} {B : Nat} {s : PSt} {O : List Nat} (h : SAt w B s O) (hs : s.Ok) (N D : List UInt8) (hN : N.length ≤ 1000000) (hD : D.length ≤ 1000000) (c1 c2 : Nat) (k0 : w.cell? ⟨c2, 0, none⟩ = some (.string ⟨N.toArray⟩)) (k1 : w.cell? ⟨c2, 1, none⟩ = some (.string ⟨D.toArray⟩))
 (k2 : w.cell? ⟨c1, 0, none⟩ = some (.func (.func 79) #[] #[.pointer (some ⟨c2, 0, none⟩)])) :
 Calls Tryz.prog 107 #[.pointer (some ⟨B, 0, none⟩), .pointer (some ⟨c1, 0, none⟩)] w (StPost w B O (.tuple #[.bool true, .int .i64 (putE s ⟨N.toArray⟩ ⟨D.toArray⟩)]) (putS s ⟨N.toArray⟩ ⟨D.toArray⟩)) := by
 have HC := Lib.hid (put1_any h hs N D hN hD c2 k0 k1)
 clear h k0 k1
 go_enter Tryz.func107, Tryz.ntmps107
 go_wp2_with (go_at_call 79; with_reducible refine HC.out.mono ?_)
 intro e w1 hq
 have HQ := Lib.hid hq
 obtain ⟨rfl, -⟩ := hq
 go_wp2_with fail
 go_ret2
 exact HQ.out.told _
theorem writeS1_any {w : World} {B : Nat} {s : PSt} {O : List Nat} (h : SAt w B s O) (c1 : Nat) (k2 : w.cell? ⟨c1, 0, none⟩ = some (.func (.func 81) #[] #[])) :
 Calls Tryz.prog 107 #[.pointer (some ⟨B, 0, none⟩), .pointer (some ⟨c1, 0, none⟩)] w (StPost w B O (.tuple #[.bool true, .int .i64 (syncV s)]) (syncS s)) := by
 have HC := Lib.hid (sync_any h)
 clear h
 go_enter Tryz.func107, Tryz.ntmps107
 go_wp2_with (go_at_call 81; with_reducible refine HC.out.mono ?_)
 intro e w1 hq
 have HQ := Lib.hid hq
 obtain ⟨rfl, -⟩ := hq
 go_wp2_with fail
 go_ret2
 exact HQ.out.told _
theorem get1_any {w : World} {B : Nat} {s : PSt} {O : List Nat} (h : SAt w B s O) (name : ByteArray) (c1 : Nat) (k0 : w.cell? ⟨c1, 0, none⟩ = some (.string name)) (x : ByteArray) (y : Int) (hv : gotV s name = .tuple #[.string x, .int .i64 y]) :
 Calls Tryz.prog 121 #[.pointer (some ⟨B, 0, none⟩), .pointer (some ⟨c1, 0, none⟩)] w (StPost w B O (.tuple #[.string x, .int .i64 y]) s) := by
 have HC := Lib.hid (get_any h name)
 have H := Lib.hid h
 clear h
 unfold GetPost at HC
 rw [hv] at HC
 clear hv
 go_enter Tryz.func121, Tryz.ntmps121
 go_wp2_with (go_at_call 122; with_reducible refine HC.out.mono ?_)
 rintro e w1 ⟨rfl, rfl⟩
 go_wp2_with fail
 go_ret2
 exact ⟨rfl, O, H.out, Fr.refl _ _, fun k hk => .inl hk⟩
theorem writeP_any {w : World} {b : Nat} {p : PW} {O : List Nat} (h : WAt w b p O) (i : Int) (N D : List UInt8) (hN : N.length ≤ 1000000) (hD : D.length ≤ 1000000) (hs : (p.st i.toNat).Ok) (c2 : Nat) (hc : c2 ≠ b) (k0 : w.cell? ⟨c2, 0, none⟩ = some (.string ⟨N.toArray⟩)) (k1 : w.cell? ⟨c2, 1, none⟩ = some (.string ⟨D.toArray⟩)) :
 Calls Tryz.prog 78 #[.pointer (some ⟨b, 0, none⟩), .int .i64 i, .func (.func 79) #[] #[.pointer (some ⟨c2, 0, none⟩)]] w
  (WPost w b O (.int .i64 (callE p i (putE (p.st i.toNat) ⟨N.toArray⟩ ⟨D.toArray⟩))) (callP p i (putS (p.st i.toNat) ⟨N.toArray⟩ ⟨D.toArray⟩))) := by
 obtain ⟨v, Bf, Of, h, rfl⟩ := h
 have hlt := h.blk.lt
 have hl2 : c2 < w.heap.size := lt_cell k0
 have hw0 : Fr [] w (w.alloc (.cells #[.func (.func 79) #[] #[.pointer (some ⟨c2, 0, none⟩)]] 147)) := Fr.alloc _ _
 have nb := Blk.new w 147 #[.func (.func 79) #[] #[.pointer (some ⟨c2, 0, none⟩)]]
 have m0 := (hw0.below.cell (p := ⟨c2, 0, none⟩) hl2).trans k0
 have m1 := (hw0.below.cell (p := ⟨c2, 1, none⟩) hl2).trans k1
 have HC := Lib.hid (callB_any (h.keep hw0 (by simp)) i w.heap.size (.bool true) (.int .i64 (putE (p.st i.toNat) ⟨N.toArray⟩ ⟨D.toArray⟩)) (putS (p.st i.toNat) ⟨N.toArray⟩ ⟨D.toArray⟩)
  (fun w1 hf hst => writeP1_any hst hs N D hN hD _ c2 ((World.cell?_of_block (hf.block c2 (lt_cell m0) (by simpa using hc))).trans m0) ((World.cell?_of_block (hf.block c2 (lt_cell m0) (by simpa using hc))).trans m1) ((hf.blk nb (by simp only [List.mem_singleton]; omega)).cell 0)))
 have HF := Lib.hid (hw0.nil (O := wOwn b v p.n Of))
 rw [callV_b] at HC
 clear h nb m0 m1 k0 k1 hw0
 go_enter Tryz.func78, Tryz.ntmps78
 go_wp2_with (go_at_call 106; with_reducible refine HC.out.mono ?_)
 intro e w1 hq
 have HQ := Lib.hid (hq.front HF.out)
 obtain ⟨rfl, -⟩ := hq
 go_wp2_with fail
 go_ret
 exact HQ.out.told _
theorem writeS_any {w : World} {b : Nat} {p : PW} {O : List Nat} (h : WAt w b p O) (i : Int) :
 Calls Tryz.prog 78 #[.pointer (some ⟨b, 0, none⟩), .int .i64 i, .func (.func 81) #[] #[]] w
  (WPost w b O (.int .i64 (callE p i (syncV (p.st i.toNat)))) (callP p i (syncS (p.st i.toNat)))) := by
 obtain ⟨v, Bf, Of, h, rfl⟩ := h
 have hlt := h.blk.lt
 have hw0 : Fr [] w (w.alloc (.cells #[.func (.func 81) #[] #[]] 147)) := Fr.alloc _ _
 have nb := Blk.new w 147 #[.func (.func 81) #[] #[]]
 have HC := Lib.hid (callB_any (h.keep hw0 (by simp)) i w.heap.size (.bool true) (.int .i64 (syncV (p.st i.toNat))) (syncS (p.st i.toNat))
  (fun w1 hf hst => writeS1_any hst _ ((hf.blk nb (by simp only [List.mem_singleton]; omega)).cell 0)))
 have HF := Lib.hid (hw0.nil (O := wOwn b v p.n Of))
 rw [callV_b] at HC
 clear h nb hw0
 go_enter Tryz.func78, Tryz.ntmps78
 go_wp2_with (go_at_call 106; with_reducible refine HC.out.mono ?_)
 intro e w1 hq
 have HQ := Lib.hid (hq.front HF.out)
 obtain ⟨rfl, -⟩ := hq
 go_wp2_with fail
 go_ret
 exact HQ.out.told _
theorem wput_any {w : World} {b : Nat} {p : PW} {O : List Nat} (h : WAt w b p O) (i : Int) (N D : List UInt8) (hN : N.length ≤ 1000000) (hD : D.length ≤ 1000000) (hs : (p.st i.toNat).Ok) :
 Calls Tryz.prog 39 #[.pointer (some ⟨b, 0, none⟩), .int .i64 i, .agg #[.string ⟨N.toArray⟩, .string ⟨D.toArray⟩]] w
  (WPost w b O (.int .i64 (callE p i (putE (p.st i.toNat) ⟨N.toArray⟩ ⟨D.toArray⟩))) (callP p i (putS (p.st i.toNat) ⟨N.toArray⟩ ⟨D.toArray⟩))) := by
 have hlt : b < w.heap.size := by obtain ⟨v, Bf, Of, h, rfl⟩ := h; exact h.blk.lt
 have hw0 : Fr [] w (w.alloc (.cells #[.string ⟨N.toArray⟩, .string ⟨D.toArray⟩] 45)) := Fr.alloc _ _
 have nb := Blk.new w 45 #[.string ⟨N.toArray⟩, .string ⟨D.toArray⟩]
 have HC := Lib.hid (writeP_any (h.keep hw0 (by simp)) i N D hN hD hs w.heap.size (by omega) (nb.cell 0) (nb.cell 1))
 have HF := Lib.hid (hw0.nil (O := O))
 clear h nb hw0
 go_enter Tryz.func39, Tryz.ntmps39
 go_wp2_with (go_at_call 78; with_reducible refine HC.out.mono ?_)
 intro e w1 hq
 have HQ := Lib.hid (hq.front HF.out)
 obtain ⟨rfl, -⟩ := hq
 go_wp2_with fail
 go_ret
 exact HQ.out
theorem wsync_any {w : World} {b : Nat} {p : PW} {O : List Nat} (h : WAt w b p O) (i : Int) :
 Calls Tryz.prog 40 #[.pointer (some ⟨b, 0, none⟩), .int .i64 i] w (WPost w b O (.int .i64 (callE p i (syncV (p.st i.toNat)))) (callP p i (syncS (p.st i.toNat)))) := by
 have HC := Lib.hid (writeS_any h i)
 clear h
 go_enter Tryz.func40, Tryz.ntmps40
 go_wp2_with (go_at_call 78; with_reducible refine HC.out.mono ?_)
 intro e w1 hq
 have HQ := Lib.hid hq
 obtain ⟨rfl, -⟩ := hq
 go_wp2_with fail
 go_ret
 exact HQ.out
def getO (s : PSt) (name : ByteArray) : ByteArray × Int := if s.down then (⟨#[]⟩, 51) else match TMap.look s.seen name with | some d => (d, 0) | none => (⟨#[]⟩, 5)
def wgetO (p : PW) (i : Int) (name : ByteArray) : ByteArray × Int := if p.has i then if p.stepd then (⟨#[]⟩, 56) else getO (p.st i.toNat) name else (⟨#[]⟩, 1)
theorem gotV_eq (s : PSt) (name : ByteArray) : gotV s name = .tuple #[.string (getO s name).1, .int .i64 (getO s name).2] := by
 unfold gotV getO
 cases s.down
 ·cases TMap.look s.seen name <;> rfl
 ·rfl
theorem callV_s (p : PW) (i : Int) (name : ByteArray) : callV p i (.string ⟨#[]⟩) (.tuple #[.string (getO (p.st i.toNat) name).1, .int .i64 (getO (p.st i.toNat) name).2]) = .tuple #[.string (wgetO p i name).1, .int .i64 (wgetO p i name).2] := by
 unfold callV wgetO
 cases p.has i <;> cases p.stepd <;> rfl
theorem upd_self {α : Type} (f : Nat → α) (i : Nat) : upd f i (f i) = f := by
 funext j
 unfold upd
 split
 ·next h => rw [h]
 ·rfl
def getP (p : PW) (i : Int) : PW := if p.has i then p.step else p
theorem callP_self (p : PW) (i : Int) : callP p i (p.st i.toNat) = getP p i := by
 unfold callP getP
 split
 ·split
  ·rfl
  ·rw [upd_self]; rfl
 ·rfl
theorem wget_any {w : World} {b : Nat} {p : PW} {O : List Nat} (h : WAt w b p O) (i : Int) (name : ByteArray) :
 Calls Tryz.prog 85 #[.pointer (some ⟨b, 0, none⟩), .int .i64 i, .string name] w
  (WPost w b O (.tuple #[.string (wgetO p i name).1, .int .i64 (wgetO p i name).2]) (getP p i)) := by
 obtain ⟨v, Bf, Of, h, rfl⟩ := h
 have hlt := h.blk.lt
 have hw0 : Fr [] w (w.alloc (.cells #[.string name] 9)) := Fr.alloc _ _
 have nb := Blk.new w 9 #[.string name]
 have HC := Lib.hid (callS_any (h.keep hw0 (by simp)) i w.heap.size (.string (getO (p.st i.toNat) name).1) (.int .i64 (getO (p.st i.toNat) name).2) (p.st i.toNat)
  (fun w1 hf hst => get1_any hst name _ ((hf.blk nb (by simp only [List.mem_singleton]; omega)).cell 0) _ _ (gotV_eq _ _)))
 have HF := Lib.hid (hw0.nil (O := wOwn b v p.n Of))
 rw [callV_s, callP_self] at HC
 clear h nb hw0
 go_enter Tryz.func85, Tryz.ntmps85
 go_wp2_with (go_at_call 120; with_reducible refine HC.out.mono ?_)
 intro e w1 hq
 have HQ := Lib.hid (hq.front HF.out)
 obtain ⟨rfl, -⟩ := hq
 go_wp2_with fail
 go_ret2
 exact HQ.out.told _
end Vm
end Go.Proofs.YtnbkhdbligjifaaGreatDoor
namespace Go.Proofs.YtnbkhdbligjifaaGreatDoor
namespace Shd
open Go.Lib
def hexd (n : Nat) : UInt8 := if n < 10 then UInt8.ofNat (48 + n) else UInt8.ofNat (87 + n)
def hexL : List UInt8 → List UInt8
 | [] => []
 | b :: r => hexd (b.toNat / 16) :: hexd (b.toNat % 16) :: hexL r
def hexn (c : UInt8) : Option Nat := if 48 ≤ c.toNat ∧ c.toNat ≤ 57 then some (c.toNat - 48) else if 97 ≤ c.toNat ∧ c.toNat ≤ 102 then some (c.toNat - 87) else none
def unhexL : List UInt8 → Option (List UInt8)
 | [] => some []
 | [_] => none
 | a :: b :: r =>
   match hexn a, hexn b, unhexL r with
   | some x, some y, some l => some (UInt8.ofNat (x * 16 + y) :: l)
   | _, _, _ => none
theorem hexd_toNat (n : Nat) (h : n < 16) : (hexd n).toNat = if n < 10 then 48 + n else 87 + n := by
 unfold hexd
 by_cases h' : n < 10
 ·rw [if_pos h', if_pos h', UInt8.toNat_ofNat']; omega
 ·rw [if_neg h', if_neg h', UInt8.toNat_ofNat']; omega
theorem hexn_hexd (n : Nat) (h : n < 16) : hexn (hexd n) = some n := by
 unfold hexn
 rw [hexd_toNat n h]
 by_cases h' : n < 10
 ·rw [if_pos h', if_pos (by omega)]; congr 1; omega
 ·rw [if_neg h', if_neg (by omega), if_pos (by omega)]; congr 1; omega
theorem hexd_ne (n : Nat) (h : n < 16) : hexd n ≠ 46 := by
 intro e
 have h1 := hexd_toNat n h
 rw [e] at h1
 have h2 : (46 : UInt8).toNat = 46 := rfl
 rw [h2] at h1
 by_cases h' : n < 10
 ·rw [if_pos h'] at h1; omega
 ·rw [if_neg h'] at h1; omega
theorem b_div (b : UInt8) : b.toNat / 16 < 16 := by have := b.toNat_lt; omega
theorem b_mod (b : UInt8) : b.toNat % 16 < 16 := by omega
theorem unhex_hex (l : List UInt8) : unhexL (hexL l) = some l := by
 induction l with
 | nil => rfl
 | cons b r ih =>
   rw [hexL, unhexL, hexn_hexd _ (b_div b), hexn_hexd _ (b_mod b), ih]
   simp only [Option.some.injEq, List.cons.injEq, and_true]
   apply UInt8.toNat_inj.1
   rw [UInt8.toNat_ofNat']
   have := b.toNat_lt
   omega
theorem hex_inj (a b : List UInt8) (h : hexL a = hexL b) : a = b := by
 have h1 := unhex_hex a
 rw [h, unhex_hex b] at h1
 exact (Option.some.inj h1).symm
theorem hex_len (l : List UInt8) : (hexL l).length = 2 * l.length := by
 induction l with
 | nil => rfl
 | cons b r ih => rw [hexL, List.length_cons, List.length_cons, List.length_cons, ih]; omega
theorem hex_no46 (l : List UInt8) : (46 : UInt8) ∉ hexL l := by
 induction l with
 | nil => simp [hexL]
 | cons b r ih =>
   rw [hexL]
   simp only [List.mem_cons, not_or]
   exact ⟨fun e => hexd_ne _ (b_div b) e.symm, fun e => hexd_ne _ (b_mod b) e.symm, ih⟩
theorem hex_append (a b : List UInt8) : hexL (a ++ b) = hexL a ++ hexL b := by
 induction a with
 | nil => rfl
 | cons x r ih => rw [List.cons_append, hexL, hexL, ih]; rfl
/-! numerals -/
def val (l : List UInt8) : Nat := l.foldl (fun a c => a * 10 + (c.toNat - 48)) 0
theorem val_snoc (l : List UInt8) (c : UInt8) : val (l ++ [c]) = val l * 10 + (c.toNat - 48) := by
 unfold val; rw [List.foldl_append]; rfl
theorem val_dec (u : Nat) : val (decDigits u) = u := by
 induction u using Nat.strongRecOn with
 | _ u ih =>
   rw [decDigits]
   by_cases h : u < 10
   ·rw [dif_pos h]
    show 0 * 10 + ((UInt8.ofNat (48 + u)).toNat - 48) = u
    rw [UInt8.toNat_ofNat']; omega
   ·rw [dif_neg h, val_snoc, ih (u / 10) (by omega), UInt8.toNat_ofNat']; omega
theorem dec_inj (a b : Nat) (h : decDigits a = decDigits b) : a = b := by rw [← val_dec a, h, val_dec]
theorem dec_digit (u : Nat) : ∀ c ∈ decDigits u, 48 ≤ c.toNat ∧ c.toNat ≤ 57 := by
 induction u using Nat.strongRecOn with
 | _ u ih =>
   intro c hc
   rw [decDigits] at hc
   by_cases h : u < 10
   ·rw [dif_pos h, List.mem_singleton] at hc
    rw [hc, UInt8.toNat_ofNat']; omega
   ·rw [dif_neg h, List.mem_append, List.mem_singleton] at hc
    rcases hc with hc | hc
    ·exact ih (u / 10) (by omega) c hc
    ·rw [hc, UInt8.toNat_ofNat']; omega
theorem itoa_inj (a b : Int) (h : itoa a = itoa b) : a = b := by
 unfold itoa at h
 have hd : ∀ (u : Nat) (r : List UInt8), decDigits u ≠ 45 :: r := fun u r e => by
  have := dec_digit u 45 (by rw [e]; exact List.mem_cons_self ..)
  have h2 : (45 : UInt8).toNat = 45 := rfl
  omega
 by_cases ha : a < 0
 ·by_cases hb : b < 0
  ·rw [if_pos ha, if_pos hb, List.cons.injEq] at h
   have := dec_inj _ _ h.2; omega
  ·rw [if_pos ha, if_neg hb] at h
   exact absurd h.symm (hd _ _)
 ·by_cases hb : b < 0
  ·rw [if_neg ha, if_pos hb] at h
   exact absurd h (hd _ _)
  ·rw [if_neg ha, if_neg hb] at h
   have := dec_inj _ _ h; omega
def nameL (d : List UInt8) (i : Int) : List UInt8 := hexL d ++ 46 :: itoa i
theorem split46 : ∀ (a b x y : List UInt8), (46 : UInt8) ∉ a → (46 : UInt8) ∉ b → a ++ 46 :: x = b ++ 46 :: y → a = b ∧ x = y
 | [], [], x, y, _, _, h => ⟨rfl, by simpa using h⟩
 | [], c :: b, x, y, _, hb, h => by
   simp only [List.nil_append, List.cons_append, List.cons.injEq] at h
   exact absurd (h.1 ▸ List.mem_cons_self ..) hb
 | c :: a, [], x, y, ha, _, h => by
   simp only [List.nil_append, List.cons_append, List.cons.injEq] at h
   exact absurd (h.1 ▸ List.mem_cons_self ..) ha
 | c :: a, d :: b, x, y, ha, hb, h => by
   simp only [List.cons_append, List.cons.injEq] at h
   obtain ⟨h1, h2⟩ := split46 a b x y (fun e => ha (List.mem_cons_of_mem _ e)) (fun e => hb (List.mem_cons_of_mem _ e)) h.2
   exact ⟨by rw [h.1, h1], h2⟩
theorem name_inj (d e : List UInt8) (i j : Int) (h : nameL d i = nameL e j) : d = e ∧ i = j := by
 obtain ⟨h1, h2⟩ := split46 _ _ _ _ (hex_no46 d) (hex_no46 e) h
 exact ⟨hex_inj _ _ h1, itoa_inj _ _ h2⟩
theorem itoa_len (n : Nat) (h : n < 12) : (itoa (n : Int)).length = 1 + n / 10 := by
 rw [itoa_nonneg]
 by_cases h1 : n < 10
 ·rw [decDigits_one h1]; simp; omega
 ·rw [decDigits_two h1 (by omega)]; simp; omega
theorem dec_le (u : Nat) (k : Nat) (h : u < 10 ^ (k + 1)) : (decDigits u).length ≤ k + 1 := by
 induction k generalizing u with
 | zero => rw [decDigits, dif_pos (by simpa using h)]; exact Nat.le_refl _
 | succ k ih =>
   rw [decDigits]
   by_cases h1 : u < 10
   ·rw [dif_pos h1]; simp
   ·rw [dif_neg h1, List.length_append]
    have := ih (u / 10) (by rw [Nat.pow_succ] at h; omega)
    simp; omega
theorem itoa_le (n : Int) (h0 : -9223372036854775808 ≤ n) (h1 : n ≤ 9223372036854775807) : (itoa n).length ≤ 20 := by
 unfold itoa
 by_cases h : n < 0
 ·rw [if_pos h, List.length_cons]
  have := dec_le n.natAbs 18 (by omega)
  omega
 ·rw [if_neg h]
  have := dec_le n.toNat 18 (by omega)
  omega
def Parsed (name d : List UInt8) (n : Nat) : Prop := d.length = 32 ∧ n < 12 ∧ name = nameL d n
theorem Parsed.one {name d e : List UInt8} {n m : Nat} (h : Parsed name d n) (k : Parsed name e m) : d = e ∧ n = m := by
 obtain ⟨_, _, h⟩ := h
 obtain ⟨_, _, k⟩ := k
 rw [h] at k
 obtain ⟨h1, h2⟩ := name_inj _ _ _ _ k
 exact ⟨h1, by omega⟩
end Shd
end Go.Proofs.YtnbkhdbligjifaaGreatDoor
namespace Go.Proofs.YtnbkhdbligjifaaGreatDoor
namespace Shd
open Go.Lib
structure Shard where
 (K N idx : Int)
 (dig pay : List UInt8)
def codeB (k n : Int) : Bool := decide (1 ≤ k) && (decide (k ≤ n) && decide (n ≤ 12))
def Shard.May (s : Shard) : Prop := 1 ≤ s.K ∧ s.K ≤ s.N ∧ s.N ≤ 12 ∧ s.dig.length = 32 ∧ 0 ≤ s.idx ∧ s.idx < s.N
def by8 (n : Int) : UInt8 := UInt8.ofNat (n % 256).toNat
theorem by8_toNat (n : Int) : ((by8 n).toNat : Int) = n % 256 := by
 unfold by8
 rw [UInt8.toNat_ofNat']
 omega
theorem by8_inj (a b : Int) (h : by8 a = by8 b) : a % 256 = b % 256 := by rw [← by8_toNat, h, by8_toNat]
theorem by8_small (n : Int) (h0 : 0 ≤ n) (h : n < 256) : ((by8 n).toNat : Int) = n := by rw [by8_toNat]; omega
def binL (k n i len : Int) : List UInt8 := [by8 k, by8 n, by8 i, by8 (len / 16777216), by8 (len / 65536), by8 (len / 256), by8 len]
theorem binL_len (k n i len : Int) : (binL k n i len).length = 7 := rfl
def markL : List UInt8 := [115, 104, 100, 49]
def Shard.body (s : Shard) : List UInt8 := markL ++ (binL s.K s.N s.idx s.pay.length ++ (s.dig ++ s.pay))
section
variable (D : List UInt8 → List UInt8)
def Shard.data (s : Shard) : List UInt8 := s.body ++ D s.body
def readS (l : List UInt8) : Shard := ⟨((l.getD 4 0).toNat : Int), ((l.getD 5 0).toNat : Int), ((l.getD 6 0).toNat : Int), (l.drop 11).take 32, (l.drop 43).take (l.length - 75)⟩
def Sound (name l : List UInt8) (s : Shard) : Prop := s.May ∧ s.pay.length ≤ 65461 ∧ l = s.data D ∧ name = nameL s.dig s.idx
variable {D}
theorem body_len (s : Shard) (h : s.dig.length = 32) : s.body.length = 43 + s.pay.length := by
 unfold Shard.body
 simp only [List.length_append, binL_len, h]
 show 4 + _ = _
 omega
theorem data_len (hD : ∀ l, (D l).length = 32) (s : Shard) (h : s.dig.length = 32) : (s.data D).length = 75 + s.pay.length := by
 unfold Shard.data
 rw [List.length_append, hD, body_len s h]; omega
theorem data_take4 (s : Shard) : (s.data D).take 4 = markL := rfl
theorem data_head (s : Shard) : ((s.data D).drop 4).take 7 = binL s.K s.N s.idx s.pay.length := rfl
theorem data_drop11 (s : Shard) : (s.data D).drop 11 = s.dig ++ (s.pay ++ D s.body) := by
 show (s.dig ++ s.pay) ++ D s.body = _
 rw [List.append_assoc]
theorem data_dig (s : Shard) (h : s.dig.length = 32) : ((s.data D).drop 11).take 32 = s.dig := by
 rw [data_drop11, ← h, List.take_left]
theorem data_drop43 (s : Shard) (h : s.dig.length = 32) : (s.data D).drop 43 = s.pay ++ D s.body := by
 rw [show 43 = 11 + 32 from rfl, ← List.drop_drop, data_drop11, ← h, List.drop_left]
theorem data_pay (hD : ∀ l, (D l).length = 32) (s : Shard) (h : s.dig.length = 32) : ((s.data D).drop 43).take ((s.data D).length - 75) = s.pay := by
 rw [data_drop43 s h, data_len hD s h, show 75 + s.pay.length - 75 = s.pay.length by omega, List.take_left]
theorem data_body (hD : ∀ l, (D l).length = 32) (s : Shard) (h : s.dig.length = 32) : (s.data D).take ((s.data D).length - 32) = s.body := by
 rw [data_len hD s h, show 75 + s.pay.length - 32 = s.body.length by rw [body_len s h]; omega]
 exact List.take_left
theorem data_sum (hD : ∀ l, (D l).length = 32) (s : Shard) (h : s.dig.length = 32) : (s.data D).drop ((s.data D).length - 32) = D s.body := by
 rw [data_len hD s h, show 75 + s.pay.length - 32 = s.body.length by rw [body_len s h]; omega]
 exact List.drop_left
theorem getD_of_head {l : List UInt8} {a b c d e f g : UInt8} (h : (l.drop 4).take 7 = [a, b, c, d, e, f, g]) : l.getD 4 0 = a ∧ l.getD 5 0 = b ∧ l.getD 6 0 = c := by
 have hx : ∀ j, j < 7 → l[4 + j]? = [a, b, c, d, e, f, g][j]? := fun j hj => by
  rw [← h, List.getElem?_take_of_lt hj, List.getElem?_drop]
 refine ⟨?_, ?_, ?_⟩
 ·have := hx 0 (by omega); simp only [List.getD, this]; rfl
 ·have := hx 1 (by omega); simp only [List.getD, this]; rfl
 ·have := hx 2 (by omega); simp only [List.getD, this]; rfl
theorem Sound.eq (hD : ∀ l, (D l).length = 32) {name l : List UInt8} {s : Shard} (h : Sound D name l s) : s = readS l := by
 obtain ⟨⟨h1, h2, h3, h4, h5, h6⟩, hp, rfl, hn⟩ := h
 obtain ⟨g4, g5, g6⟩ := getD_of_head (data_head (D := D) s)
 unfold readS
 rw [g4, g5, g6, data_dig s h4, data_pay hD s h4, by8_small _ (by omega) (by omega), by8_small _ (by omega) (by omega), by8_small _ (by omega) (by omega)]
def Looks (D : List UInt8 → List UInt8) (name l : List UInt8) : Prop :=
 75 ≤ l.length ∧ l.length ≤ 65536 ∧ l.take 4 = markL ∧ (l.drop 4).take 7 = binL (readS l).K (readS l).N (readS l).idx ((readS l).pay.length : Int) ∧ codeB (readS l).K (readS l).N = true ∧ (readS l).idx < (readS l).N ∧
  l.drop (l.length - 32) = D (l.take (l.length - 32)) ∧ name = nameL (readS l).dig (readS l).idx
theorem codeB_iff (k n : Int) : codeB k n = true ↔ 1 ≤ k ∧ k ≤ n ∧ n ≤ 12 := by simp [codeB]
theorem sound_looks (hD : ∀ l, (D l).length = 32) {name l : List UInt8} {s : Shard} (h : Sound D name l s) : Looks D name l := by
 have he := h.eq hD
 obtain ⟨⟨h1, h2, h3, h4, h5, h6⟩, hp, hl, hn⟩ := h
 unfold Looks
 rw [← he]
 subst hl
 refine ⟨by rw [data_len hD s h4]; omega, by rw [data_len hD s h4]; omega, data_take4 s, data_head s, (codeB_iff _ _).2 ⟨h1, h2, h3⟩, h6, ?_, hn⟩
 rw [data_sum hD s h4, data_body hD s h4]
theorem Sound.one (hD : ∀ l, (D l).length = 32) {name l : List UInt8} {s t : Shard} (h : Sound D name l s) (k : Sound D name l t) : s = t := (h.eq hD).trans (k.eq hD).symm
theorem binL_len_inj (k n i a k' n' i' b : Int) (ha : 0 ≤ a) (ha' : a < 65536) (hb : 0 ≤ b) (hb' : b < 65536) (h : binL k n i a = binL k' n' i' b) : a = b := by
 unfold binL at h
 simp only [List.cons.injEq, and_true] at h
 obtain ⟨_, _, _, _, h5, h6, h7⟩ := h
 have := by8_inj _ _ h5
 have := by8_inj _ _ h6
 have := by8_inj _ _ h7
 omega
theorem Sound.len (hD : ∀ l, (D l).length = 32) {n1 n2 l m : List UInt8} {s t : Shard} (h : Sound D n1 l s) (k : Sound D n2 m t) (hx : l.take 11 = m.take 11) : l.length = m.length := by
 obtain ⟨⟨h1, h2, h3, h4, h5, h6⟩, hp, rfl, hn⟩ := h
 obtain ⟨⟨k1, k2, k3, k4, k5, k6⟩, kp, rfl, kn⟩ := k
 have h7 := data_head (D := D) s
 have k7 := data_head (D := D) t
 have e : ∀ l : List UInt8, (l.drop 4).take 7 = (l.take 11).drop 4 := fun l => by rw [List.drop_take]
 rw [e, hx, ← e, k7] at h7
 have := binL_len_inj _ _ _ _ _ _ _ _ (by omega) (by omega) (by omega) (by omega) h7
 rw [data_len hD s h4, data_len hD t k4]; omega
end
end Shd
end Go.Proofs.YtnbkhdbligjifaaGreatDoor
