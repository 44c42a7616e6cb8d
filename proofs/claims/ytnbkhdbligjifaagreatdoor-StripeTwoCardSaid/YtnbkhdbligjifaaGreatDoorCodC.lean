/-
 The field of 256 numbers: its tables, and the product as the program has it. The walk of code.spread: of each row of a matrix the sum of the products of it and payloads. The code package: the inverse in the field, the unit matrix, an entry of the code's matrix. The code package: an entry of the code's matrix.
-/
import Derived.Test.YtnbkhdbligjifaaGreatDoorVMaps
import Derived.Test.YtnbkhdbligjifaaGreatDoorMem
import Derived.Test.YtnbkhdbligjifaaGreatDoorInfo
import Derived.Test.YtnbkhdbligjifaaGreatDoorProg
import Derived.Deep.QuietTactic
import Derived.BigQuiet
import Derived.Test.YtnbkhdbligjifaaGreatDoorCodA
set_option linter.unusedVariables false
set_option linter.unusedSimpArgs false
set_option maxRecDepth 100000
set_option maxHeartbeats 40000000
namespace Go.Proofs.YtnbkhdbligjifaaGreatDoor
open Go.RowKit
namespace Fld
def pwBig : Nat := 8856990713409824987183140402374358080674248354215423657725458004488207893438392946030888853375904797289504668347160626187132259699900233138648534461763796553722681762569641945119264861220663755468484037720775188535579952245867663006651507277791222666826785483398433307595704877043200076058100196638910845779782293078032926818358696911279575842852319355700605339911765372424152090200116912196812683442216396899668384855648195394238364200816963036045261203126476910443940504312987208021345653905171248397066478845569494078144977197837111232127732754508096250939318709245866461879354629945230799664051954596316140836780717108354261181748492094461244742858401085820322168057750326071736368712266714827098764897370398784052097986092416779378404705019203020335569119892153447474284880772368378344689255354826179669527487614603533424485383665010357433079299522588467683458117463774085267711371273156937819115392343347060478494473386782195599410389734005551742428694560297619569031029357707022930644351916425117765030612268580539533293361144518654644548322964103094579667389630079007276152875920723587307542406162776191331872344722220447978477718188404304137896878643387669563613408028725344812418906929574157450205698549093433583337985
def lgBig : Nat := 22135253156888987530748098150270024343632497605293634117281264061560962248099620766229961468867162294233796152347975563017024165690400661622462404646302566225833645086064538892198543335321514950294300187779610338557442029018619797274438901674641748676613670242915365385819254959901651105240253464034662486586186382979728982817772067067513442677601938078891989292316012868233806586592927239821351197800766822366321181463280924672822998103315976779850880337712374790938628529953751181886374687897611504386983350015558142994211516619836411558782076806704747441947939324473761869443721989389604670425385080942269787340800
def pw (i : Nat) : Nat := Nat.land (Nat.shiftRight pwBig (Nat.mul 8 i)) 255
def lg (x : Nat) : Nat := Nat.land (Nat.shiftRight lgBig (Nat.mul 8 x)) 255
def gm (x y : Nat) : Nat := if x = 0 ∨ y = 0 then 0 else pw (lg x + lg y)
theorem pw_lt (i : Nat) : pw i < 256 := Nat.lt_succ_of_le Nat.and_le_right
theorem gm_lt (x y : Nat) : gm x y < 256 := by unfold gm; split; exact (by decide); exact pw_lt _
theorem lg_le (x : Nat) (h : x < 256) : lg x ≤ 254 := by
 have : ∀ x : Fin 256, lg x.1 ≤ 254 := by decide +kernel
 exact this ⟨x, h⟩
structure At (w : World) (b : Nat) : Prop where
 pw : ∀ i, i < 510 → w.cell? ⟨b, i, none⟩ = some (.int .u8 (pw i : Nat))
 lg : ∀ i, i < 256 → w.cell? ⟨b, 510 + i, none⟩ = some (.int .i64 (lg i : Nat))
theorem At.ext {w w' : World} {b : Nat} (h : At w b) (hE : Stab.Ext w w') : At w' b := ⟨fun i hi => hE.cell (h.pw i hi), fun i hi => hE.cell (h.lg i hi)⟩
theorem At.below {w w' : World} {b B : Nat} (h : At w b) (hB : Below B w w') (hb : b < B) : At w' b :=
 ⟨fun i hi => (hB.cell (p := ⟨b, i, none⟩) hb).trans (h.pw i hi), fun i hi => (hB.cell (p := ⟨b, 510 + i, none⟩) hb).trans (h.lg i hi)⟩
theorem or_any (b : Nat) (w : World) : Calls Tryz.prog 177 #[.pointer (some ⟨b, 0, none⟩)] w fun e w' => e = .returned (.pointer (some ⟨b, 0, none⟩)) ∧ w = w' := by
 go_enter Tryz.func177, Tryz.ntmps177
 go_wp2_with fail
 go_ret
 exact ⟨rfl, rfl⟩
theorem xor8 (m n : Nat) (hm : m < 256) (hn : n < 256) : bits .xor .u8 (m : Int) (n : Int) = (Nat.xor m n : Nat) := by
 have e : ∀ m : Nat, m < 256 → (BitVec.ofInt IntKind.u8.bits (m : Int)).toNat = m := fun m h => by
  rw [BitVec.ofInt_natCast, BitVec.toNat_ofNat]; exact Nat.mod_eq_of_lt h
 simp only [bits, BitVec.toNat_xor]
 rw [e _ hm, e _ hn]
 have : Nat.xor m n < 2 ^ 8 := Nat.xor_lt_two_pow hm hn
 show IntKind.u8.wrap ((Nat.xor m n : Nat) : Int) = _
 rw [IntKind.wrap_u8]
 omega
theorem add_any (v : Value) (x y : Nat) (hx : x < 256) (hy : y < 256) (w : World) : Calls Tryz.prog 144 #[v, .int .u8 (x : Int), .int .u8 (y : Int)] w fun e w' => e = .returned (.int .u8 (Nat.xor x y : Nat)) ∧ w = w' := by
 have e1 := xor8 x y hx hy
 go_enter Tryz.func144, Tryz.ntmps144
 go_wp2_with fail
 go_ret
 exact ⟨rfl, rfl⟩
structure Rd (b : Nat) (x y : Nat) (j : Int) (W : World) : Prop where
 lx : W.cell? ⟨b, 510 + x, none⟩ = some (.int .i64 (lg x : Nat))
 ly : W.cell? ⟨b, 510 + y, none⟩ = some (.int .i64 (lg y : Nat))
 p : W.cell? ⟨b, j.toNat, none⟩ = some (.int .u8 (pw (lg x + lg y) : Nat))
theorem Rd.ext {b x y : Nat} {j : Int} {w w' : World} (h : Rd b x y j w) (hE : Stab.Ext w w') : Rd b x y j w' := ⟨hE.cell h.lx, hE.cell h.ly, hE.cell h.p⟩
theorem gm_zero_l (y : Nat) : gm 0 y = 0 := by simp [gm]
theorem gm_zero_r (x : Nat) : gm x 0 = 0 := by simp [gm]
theorem mul_any (b : Nat) (w : World) (x y : Nat) (hx : x < 256) (hy : y < 256) (ha : At w b) :
 Calls Tryz.prog 145 #[.pointer (some ⟨b, 0, none⟩), .int .u8 (x : Int), .int .u8 (y : Int)] w fun e w' => e = .returned (.int .u8 (gm x y : Nat)) ∧ Below w.heap.size w w' := by
 have l1 := lg_le x hx
 have l2 := lg_le y hy
 have HR := Lib.hid (show Rd b x y ((lg x + lg y : Nat) : Int) w from ⟨ha.lg x hx, ha.lg y hy, ha.pw _ (by omega)⟩)
 by_cases x0 : x = 0
 ·subst x0
  rw [gm_zero_l]
  go_enter Tryz.func145, Tryz.ntmps145
  go_wp2_with fail
  go_ret
  exact ⟨rfl, Below.refl _ _⟩
 by_cases y0 : y = 0
 ·subst y0
  rw [gm_zero_r]
  have t1 : ((x : Int) == 0) = false := by simp; omega
  go_enter Tryz.func145, Tryz.ntmps145
  go_wp2_with fail
  go_ret
  exact ⟨rfl, Below.refl _ _⟩
 have t1 : ((x : Int) == 0) = false := by simp; omega
 have t2 : ((y : Int) == 0) = false := by simp; omega
 have hg : gm x y = pw (lg x + lg y) := by simp [gm, x0, y0]
 have HG := Lib.hid hg
 clear hg ha
 have hxi : (x : Int) < 256 := by omega
 have hyi : (y : Int) < 256 := by omega
 have hw : IntKind.i64.wrap ((lg x : Int) + (lg y : Int)) = ((lg x + lg y : Nat) : Int) := by rw [IntKind.wrap_i64]; omega
 have hp : ((lg x + lg y : Nat) : Int) < 510 := by omega
 have h0 : 0 ≤ ((lg x + lg y : Nat) : Int) := by omega
 generalize ((lg x + lg y : Nat) : Int) = j at *
 go_enter Tryz.func145, Tryz.ntmps145
 go_wp2_with (go_at_call 177; ((with_reducible refine (or_any b _).mono ?_); rintro e w1 ⟨rfl, rfl⟩))
 refine Stab.rg 19 [[], [], [], [1], [3], [4, 2], [5], [], [], [7], [9], [10, 8], [11], [6, 12], [0], [14], [15, 13], [16], [17]] [18] (Rd b x y j) [Stab.eqv ?_, Stab.eqv ?_, Stab.eqv ?_, Stab.eqv ?_, Stab.eqv ?_, Stab.eqv ?_, Stab.eqv ?_, Stab.eqv ?_, Stab.eqv ?_, Stab.eqv ?_, Stab.eqv ?_, Stab.eqv ?_, Stab.eqv ?_, Stab.eqv ?_, Stab.eqv ?_, Stab.eqv ?_, Stab.eqv ?_, Stab.eqv ?_, Stab.eqv ?_] (HR.out.ext (Stab.Ext.drew _)) (fun _ _ h hE => h.ext hE) ?goals4 ?last4
 case goals4 =>
  simp only [List.take_succ_cons, List.take_zero]
  iterate 19
   refine Stab.gp (fun us w _ hE hS hp hK => ?_) ?_
   ·((try have e0 : _ = _ := hp.1); (try have e1 : _ = _ := hp.2.1); (try have e2 : _ = _ := hp.2.2.1); obtain ⟨s0, s1, s2⟩ := hS; go_simp; exact hK _ _ (by show _ = _; with_reducible rfl) (Stab.Ext.refl _))
  exact Stab.Goals.nil
 case last4 =>
  intro us w' hE hS hp
  obtain ⟨h18, -⟩ := hp
  replace h18 : us 18 = _ := h18
  simp only [List.drop_succ_cons, List.drop_zero, h18]
  clear hS h18
  refine wpList_nil ?_
  go_wp2_with fail
  go_ret
  exact ⟨by rw [HG.out]; rfl, (Stab.Ext.drew _).trans hE⟩
end Fld
end Go.Proofs.YtnbkhdbligjifaaGreatDoor
namespace Go.Proofs.YtnbkhdbligjifaaGreatDoor
open Go.RowKit
namespace Spr
def tab (n : Nat) (f : Nat → Value) : Array Value := ((List.range n).map f).toArray
theorem tab_size (n : Nat) (f : Nat → Value) : (tab n f).size = n := by simp [tab]
theorem tab_get {n : Nat} {f : Nat → Value} {i : Nat} (h : i < n) : (tab n f)[i]? = some (f i) := by
 simp [tab, h]
theorem tab_set {n : Nat} {f g : Nat → Value} {i : Nat} {v : Value} (hi : i < n) (hv : g i = v) (ho : ∀ k, k ≠ i → g k = f k) : (tab n f).setIfInBounds i v = tab n g := by
 apply Array.ext
 ·simp [tab_size]
 ·intro k h1 h2
  rw [tab_size] at h2
  have e1 : ((tab n f).setIfInBounds i v)[k]? = (tab n g)[k]? := by
   rw [Array.getElem?_setIfInBounds, tab_get h2, tab_size]
   by_cases hk : i = k
   ·subst hk; rw [if_pos rfl, if_pos hi, tab_get hi, hv]
   ·rw [if_neg hk, tab_get h2, ho k (fun e => hk e.symm)]
  rw [Array.getElem?_eq_getElem h1, Array.getElem?_eq_getElem (by rw [tab_size]; exact h2)] at e1
  exact Option.some.inj e1
theorem tab_rep (n : Nat) (z : Value) : Array.replicate n z = tab n fun _ => z := by
 apply Array.ext
 ·simp [tab_size]
 ·intro k h1 h2
  simp [tab]
theorem tab_congr {n : Nat} {f g : Nat → Value} (h : ∀ k, k < n → f k = g k) : tab n f = tab n g := by
 unfold tab
 congr 1
 exact List.map_congr_left fun k hk => h k (List.mem_range.1 hk)
def Bytes (w : World) (v : Value) (l : List Nat) : Prop := ∃ b o c, v = .slice (some ⟨b, o, none⟩) l.length c ∧ ∀ j x, l[j]? = some x → x < 256 ∧ w.cell? ⟨b, o + j, none⟩ = some (.int .u8 (x : Nat))
def Rows (w : World) (v : Value) (ls : List (List Nat)) : Prop := ∃ b o c, v = .slice (some ⟨b, o, none⟩) ls.length c ∧ ∀ i l, ls[i]? = some l → ∃ u, w.cell? ⟨b, o + i, none⟩ = some u ∧ Bytes w u l
theorem lt_cell {w : World} {b o : Nat} {v : Value} (h : w.cell? ⟨b, o, none⟩ = some v) : b < w.heap.size := by
 rcases Nat.lt_or_ge b w.heap.size with h1 | h1
 ·exact h1
 ·have : w.heap[b]? = none := Array.getElem?_eq_none h1
  simp [World.cell?, this] at h
theorem Bytes.ext {w w' : World} {v : Value} {l : List Nat} (h : Bytes w v l) (hE : Stab.Ext w w') : Bytes w' v l := by
 obtain ⟨b, o, c, rfl, h⟩ := h
 exact ⟨b, o, c, rfl, fun j x hj => ⟨(h j x hj).1, hE.cell (h j x hj).2⟩⟩
theorem Rows.ext {w w' : World} {v : Value} {l : List (List Nat)} (h : Rows w v l) (hE : Stab.Ext w w') : Rows w' v l := by
 obtain ⟨b, o, c, rfl, h⟩ := h
 refine ⟨b, o, c, rfl, fun i l hi => ?_⟩
 obtain ⟨u, h1, h2⟩ := h i l hi
 exact ⟨u, hE.cell h1, h2.ext hE⟩
def acc (row : List Nat) (ls : List (List Nat)) : Nat → Nat → Nat
 | 0, _ => 0
 | j + 1, k => if row.getD j 0 = 0 ∨ (ls.getD j []).length ≤ k then acc row ls j k else Nat.xor (acc row ls j k) (Fld.gm (row.getD j 0) ((ls.getD j []).getD k 0))
theorem acc_lt (row : List Nat) (ls : List (List Nat)) (k : Nat) : ∀ j, acc row ls j k < 256
 | 0 => by simp [acc]
 | j + 1 => by
   rw [acc]
   split
   ·exact acc_lt row ls k j
   ·exact Nat.xor_lt_two_pow (n := 8) (acc_lt row ls k j) (Fld.gm_lt _ _)
def out (ms ls : List (List Nat)) (i k : Nat) : Nat := acc (ms.getD i []) ls (ms.getD i []).length k
def wide (ls : List (List Nat)) : Nat := (ls.getD 0 []).length
def slc (R : Nat → Nat) (n L : Nat) (k : Nat) : Value := if k < n then .slice (some ⟨R k, 0, none⟩) L L else .slice none 0 0
def by8 (f : Nat → Nat) (k : Nat) : Value := .int .u8 (f k : Nat)
def NewPost (w : World) (e : Ending) (w' : World) : Prop := ∃ b, e = .returned (.pointer (some ⟨b, 0, none⟩)) ∧ Fld.At w' b ∧ Below w.heap.size w w'
structure Inv2 (w2 : World) (ms ls : List (List Nat)) (A i : Nat) (R : Nat → Nat) (f : Nat → Nat) (wr : World) : Prop where
 tbl : Blk wr A 136 (tab ms.length (slc R (i + 1) (wide ls)))
 row : ∀ k, k < i → A < R k ∧ Blk wr (R k) 5 (tab (wide ls) (by8 (out ms ls k)))
 cur : A < R i ∧ Blk wr (R i) 5 (tab (wide ls) (by8 f))
 up : ∀ k, k < i + 1 → ∀ m, m < k → R m < R k
 below : Below A w2 wr
structure Inv (w2 : World) (ms ls : List (List Nat)) (A i : Nat) (R : Nat → Nat) (wr : World) : Prop where
 tbl : Blk wr A 136 (tab ms.length (slc R i (wide ls)))
 row : ∀ k, k < i → A < R k ∧ Blk wr (R k) 5 (tab (wide ls) (by8 (out ms ls k)))
 up : ∀ k, k < i → ∀ m, m < k → R m < R k
 below : Below A w2 wr
def Post (w : World) (ms ls : List (List Nat)) (e : Ending) (w' : World) : Prop := ∃ A R, e = .returned (.slice (some ⟨A, 0, none⟩) ms.length ms.length) ∧ w.heap.size ≤ A ∧ Below w.heap.size w w' ∧ ∃ w2, Inv w2 ms ls A ms.length R w'
theorem Inv2.done {w2 wr : World} {ms ls : List (List Nat)} {A i : Nat} {R : Nat → Nat} (h : Inv2 w2 ms ls A i R (out ms ls i) wr) : Inv w2 ms ls A (i + 1) R wr :=
 ⟨h.tbl, fun k hk => by
  by_cases e : k = i
  ·subst e; exact h.cur
  ·exact h.row k (by omega), fun k hk m hm => h.up k hk m hm, h.below⟩
theorem Inv2.ext {w2 wr wr' : World} {ms ls : List (List Nat)} {A i : Nat} {R f : Nat → Nat} (h : Inv2 w2 ms ls A i R f wr) (hA : A ≤ wr.heap.size) (hE : Stab.Ext wr wr') : Inv2 w2 ms ls A i R f wr' :=
 ⟨h.tbl.below hE h.tbl.lt, fun k hk => ⟨(h.row k hk).1, (h.row k hk).2.below hE (h.row k hk).2.lt⟩, ⟨h.cur.1, h.cur.2.below hE h.cur.2.lt⟩, h.up, h.below.trans (hE.mono hA)⟩
theorem Inv2.set_ {w2 wr : World} {ms ls : List (List Nat)} {A i b x : Nat} {R f g : Nat → Nat} (h : Inv2 w2 ms ls A i R f wr) (hb : b < wide ls) (hx : g b = x) (ho : ∀ k, k ≠ b → g k = f k) :
 Inv2 w2 ms ls A i R g (wr.setCell ⟨R i, b, none⟩ (.int .u8 (x : Nat))) := by
 have hA := h.cur.1
 refine ⟨h.tbl.far (by show A ≠ R i; omega) _, fun k hk => ⟨(h.row k hk).1, (h.row k hk).2.far ?_ _⟩, ⟨h.cur.1, ?_⟩, h.up, h.below.setCell (p := ⟨R i, b, none⟩) (by show A ≤ R i; omega) _⟩
 ·have := h.up i (by omega) k hk
  show R k ≠ R i
  omega
 ·have := h.cur.2.set_ b (.int .u8 (x : Nat))
  rw [tab_set hb (g := by8 g) (by unfold by8; rw [hx]) (fun k hk => by unfold by8; rw [ho k hk])] at this
  exact this
theorem Inv.row_new {w2 wr : World} {ms ls : List (List Nat)} {A i : Nat} {R : Nat → Nat} (h : Inv w2 ms ls A i R wr) (hi : i < ms.length) :
 ∃ R', R' i = wr.heap.size ∧ Inv2 w2 ms ls A i R' (fun _ => 0) ((wr.alloc (.cells (Array.replicate (wide ls) (.int .u8 0)) 5)).setCell ⟨A, i, none⟩ (.slice (some ⟨wr.heap.size, 0, none⟩) (wide ls) (wide ls))) := by
 have hA := h.tbl.lt
 refine ⟨fun k => if k = i then wr.heap.size else R k, by simp, ?_, fun k hk => ?_, ?_, fun k hk m hm => ?_, ?_⟩
 ·have := (h.tbl.alloc (.cells (Array.replicate (wide ls) (.int .u8 0)) 5)).set_ i (.slice (some ⟨wr.heap.size, 0, none⟩) (wide ls) (wide ls))
  rw [tab_set hi (g := slc (fun k => if k = i then wr.heap.size else R k) (i + 1) (wide ls)) (by simp [slc]) (fun k hk => by
   unfold slc
   by_cases h1 : k < i
   ·rw [if_pos (by omega), if_pos h1]
    simp only [if_neg hk]
   ·rw [if_neg (by omega), if_neg h1])] at this
  exact this
 ·have h1 := h.row k hk
  have h2 := h1.2.lt
  simp only [if_neg (show k ≠ i by omega)]
  exact ⟨h1.1, (h1.2.alloc _).far (by show R k ≠ A; omega) _⟩
 ·rw [show (if i = i then wr.heap.size else R i) = wr.heap.size from if_pos rfl]
  refine ⟨hA, ?_⟩
  have h1 := (Blk.new wr 5 (Array.replicate (wide ls) (.int .u8 0))).far (p := ⟨A, i, none⟩) (by show wr.heap.size ≠ A; omega) (.slice (some ⟨wr.heap.size, 0, none⟩) (wide ls) (wide ls))
  rw [tab_rep] at h1 ⊢
  exact h1
 ·simp only [if_neg (show m ≠ i by omega)]
  by_cases e : k = i
  ·rw [if_pos e]
   exact (h.row m (by omega)).2.lt
  ·rw [if_neg e]
   exact h.up k (by omega) m hm
 ·exact (h.below.alloc (Nat.le_of_lt hA) _).setCell (p := ⟨A, i, none⟩) (Nat.le_refl _) _
structure Rd (F A i r b : Nat) (v : Value) (x : Nat) (W : World) : Prop where
 fld : Fld.At W F
 tbl : W.cell? ⟨A, i, none⟩ = some v
 cell : W.cell? ⟨r, b, none⟩ = some (.int .u8 (x : Nat))
theorem Rd.ext {F A i r b : Nat} {v : Value} {x : Nat} {w w' : World} (h : Rd F A i r b v x w) (hE : Stab.Ext w w') : Rd F A i r b v x w' := ⟨h.fld.ext hE, hE.cell h.tbl, hE.cell h.cell⟩
theorem spread_any (w : World) (hnew : Calls Tryz.prog 139 #[] w (NewPost w)) (mv lv : Value) (ms ls : List (List Nat)) (hm : Rows w mv ms) (hl : Rows w lv ls)
 (h0 : 0 < ls.length) (hll : ls.length ≤ 1000000) (hml : ms.length ≤ 1000000) (hlen : ∀ r ∈ ms, r.length ≤ ls.length) (hw : ∀ l ∈ ls, l.length ≤ wide ls) (hwl : wide ls ≤ 1000000) :
 Calls Tryz.prog 104 #[mv, lv] w (Post w ms ls) := by
 obtain ⟨M, mo, mc, rfl, hmc⟩ := hm
 obtain ⟨B, lo, lc, rfl, hlc⟩ := hl
 have HM := Lib.hid hmc
 have HL := Lib.hid hlc
 have HN := Lib.hid hnew
 have HW := Lib.hid hw
 have HLEN := Lib.hid hlen
 clear hmc hlc hnew hw hlen
 have hmk := run_mk (P := Tryz.prog) (t := 132) (e := 136) (z := .slice none 0 0) (bytes := 24) Tryz.underlying132 (by kernel_rfl) rfl ms.length (by omega) (by omega)
 have hmk2 := run_mk (P := Tryz.prog) (t := 136) (e := 5) (z := .int .u8 0) (bytes := 1) Tryz.underlying136 (by kernel_rfl) rfl (wide ls) (by omega) (by omega)
 have hi1 : (0 : Int) < (ls.length : Int) := by omega
 go_enter Tryz.func104, Tryz.ntmps104
 go_wp2_with (go_at_call 139; refine HN.out.mono ?_)
 rintro e w1 ⟨F, rfl, hF, hb1⟩
 have hF1 : F < w1.heap.size := lt_cell (hF.pw 0 (by omega))
 have hs1 := hb1.size
 go_wp2_with fail
 have hinv : Inv (w1.alloc (.cells (Array.replicate ms.length (.slice none 0 0)) 136)) ms ls w1.heap.size 0 (fun _ => 0) (w1.alloc (.cells (Array.replicate ms.length (.slice none 0 0)) 136)) := by
  refine ⟨?_, fun k hk => absurd hk (by omega), fun k hk => absurd hk (by omega), Below.refl _ _⟩
  have := Blk.new w1 136 (Array.replicate ms.length (.slice none 0 0))
  rw [tab_rep] at this
  rw [tab_congr (g := slc (fun _ => 0) 0 (wide ls)) (fun k _ => by simp [slc])] at this
  rw [tab_rep]
  rw [tab_congr (g := slc (fun _ => 0) 0 (wide ls)) (f := fun _ => .slice none 0 0) (fun k _ => by simp [slc])]
  exact this
 have hb2 : Below w.heap.size w (w1.alloc (.cells (Array.replicate ms.length (.slice none 0 0)) 136)) := hb1.alloc hs1 _
 have hF2 : Fld.At (w1.alloc (.cells (Array.replicate ms.length (.slice none 0 0)) 136)) F := hF.ext (Stab.Ext.alloc _ _)
 obtain ⟨A, hA⟩ : ∃ A, A = w1.heap.size := ⟨_, rfl⟩
 rw [← hA] at hinv hF1 hs1 ⊢
 have hs2 : A + 1 = (w1.alloc (.cells (Array.replicate ms.length (.slice none 0 0)) 136)).heap.size := by rw [hA]; simp
 generalize (w1.alloc (.cells (Array.replicate ms.length (.slice none 0 0)) 136)) = w2 at *
 clear hA hmk hb1 hF
 go_loopw [19] (fun i wr => ∃ (k : Nat) (R : Nat → Nat), k ≤ ms.length ∧ i = .int .i64 (k : Int) ∧ Inv w2 ms ls A k R wr) (fun i _ => ms.length - (intOf i).toNat)
 case atStart => exact ⟨0, _, by omega, rfl, hinv⟩
 case round =>
  obtain ⟨i, R, hi, rfl, hI⟩ := hrel
  clear hinv
  by_cases hlt : i < ms.length
  ·have hd : (i : Int) < (ms.length : Int) := by omega
   obtain ⟨row, hrow⟩ : ∃ row, ms[i]? = some row := ⟨_, List.getElem?_eq_getElem hlt⟩
   obtain ⟨l0, hl0⟩ : ∃ l0, ls[0]? = some l0 := ⟨_, List.getElem?_eq_getElem h0⟩
   have hrl : row.length ≤ 1000000 := Nat.le_trans (HLEN.out row (List.mem_of_getElem? hrow)) hll
   obtain ⟨u, hu, rb, ro, rc, rfl, hrc⟩ := HM.out i row hrow
   obtain ⟨u0, hu0, b0, o0, c0, rfl, hc0⟩ := HL.out 0 l0 hl0
   have hwide : l0.length = wide ls := by simp [wide, List.getD, hl0]
   rw [hwide] at hu0
   have hbel : Below w.heap.size w wr := hb2.trans (hI.below.mono hs1)
   have hMr : wr.cell? ⟨M, mo + i, none⟩ = some (.slice (some ⟨rb, ro, none⟩) row.length rc) := (hbel.cell (p := ⟨M, mo + i, none⟩) (lt_cell hu)).trans hu
   have hBr : wr.cell? ⟨B, lo, none⟩ = some (.slice (some ⟨b0, o0, none⟩) (wide ls) c0) := (hbel.cell (p := ⟨B, lo, none⟩) (lt_cell hu0)).trans hu0
   have hBr' : (wr.alloc (.cells (Array.replicate (wide ls) (.int .u8 0)) 5)).frozen? ⟨A, i, none⟩ = false := (hI.tbl.alloc _).frozen i
   have hBc : (wr.alloc (.cells (Array.replicate (wide ls) (.int .u8 0)) 5)).cell? ⟨A, i, none⟩ = some (.slice none 0 0) := by
    rw [(hI.tbl.alloc _).cell i, tab_get hlt]
    simp [slc]
   have HI := Lib.hid hI
   have HROW := Lib.hid hrow
   have HRC := Lib.hid hrc
   clear hI hrow hrc hc0 hu hu0 hl0 hwide
   go_wp2_with fail
   obtain ⟨R', hR', hI2⟩ := HI.out.row_new hlt
   have hwA : wr.heap.size < ((wr.alloc (.cells (Array.replicate (wide ls) (.int .u8 0)) 5)).setCell ⟨A, i, none⟩ (.slice (some ⟨wr.heap.size, 0, none⟩) (wide ls) (wide ls))).heap.size := by simp [World.setCell]
   rw [← hR'] at hI2 hwA ⊢
   generalize ((wr.alloc (.cells (Array.replicate (wide ls) (.int .u8 0)) 5)).setCell ⟨A, i, none⟩ (.slice (some ⟨R' i, 0, none⟩) (wide ls) (wide ls))) = w3 at *
   clear hBc hBr' hMr hBr hmk2 hbel hR'
   go_loopw [34] (fun j wr => ∃ (k : Nat), k ≤ row.length ∧ j = .int .i64 (k : Int) ∧ Inv2 w2 ms ls A i R' (acc row ls k) wr) (fun j _ => row.length - (intOf j).toNat)
   case atStart => exact ⟨0, by omega, rfl, hI2⟩
   case round =>
    obtain ⟨j, hj, rfl, hI⟩ := hrel
    clear hI2 hwA
    have hAr : A ≤ wr.heap.size := Nat.le_of_lt hI.tbl.lt
    have hbel : Below w.heap.size w wr := hb2.trans (hI.below.mono hs1)
    by_cases hjl : j < row.length
    ·have hdj : (j : Int) < (row.length : Int) := by omega
     obtain ⟨x, hx⟩ : ∃ x, row[j]? = some x := ⟨_, List.getElem?_eq_getElem hjl⟩
     obtain ⟨hx256, hxc⟩ := HRC.out j x hx
     have hxr : wr.cell? ⟨rb, ro + j, none⟩ = some (.int .u8 (x : Nat)) := (hbel.cell (p := ⟨rb, ro + j, none⟩) (lt_cell hxc)).trans hxc
     have hgx : row.getD j 0 = x := by rw [List.getD, hx]; rfl
     by_cases hx0 : x = 0
     ·subst hx0
      have hacc : acc row ls (j + 1) = acc row ls j := by funext k; rw [acc, if_pos (.inl hgx)]
      rw [← hacc] at hI
      have HI2 := Lib.hid hI
      clear hI hacc hgx hx hxc hbel
      go_wp2_with fail
      go_roundw
      case rel => exact ⟨j + 1, by omega, by go_num, HI2.out⟩
      case measure => simp [intOf]; omega
     ·have hxb : ((x : Int) == 0) = false := by simp; omega
      have hjls : j < ls.length := Nat.lt_of_lt_of_le hjl (HLEN.out row (List.mem_of_getElem? HROW.out))
      have hdl : (j : Int) < (ls.length : Int) := by omega
      obtain ⟨l, hl⟩ : ∃ l, ls[j]? = some l := ⟨_, List.getElem?_eq_getElem hjls⟩
      obtain ⟨u, hu, lb, lo2, lc2, rfl, hlc2⟩ := HL.out j l hl
      have hlw : l.length ≤ wide ls := HW.out l (List.mem_of_getElem? hl)
      have hur : wr.cell? ⟨B, lo + j, none⟩ = some (.slice (some ⟨lb, lo2, none⟩) l.length lc2) := (hbel.cell (p := ⟨B, lo + j, none⟩) (lt_cell hu)).trans hu
      have hgl : ls.getD j [] = l := by rw [List.getD, hl]; rfl
      have HACC := Lib.hid (show ∀ k, acc row ls (j + 1) k = if l.length ≤ k then acc row ls j k else Nat.xor (acc row ls j k) (Fld.gm x (l.getD k 0)) from fun k => by
       rw [acc, hgx, hgl]
       by_cases hk : l.length ≤ k
       ·rw [if_pos (.inr hk), if_pos hk]
       ·rw [if_neg (by simp [hx0]; omega), if_neg hk])
      have HLC := Lib.hid hlc2
      have HI2 := Lib.hid hI
      clear hI hgx hgl hx hxc hu hl hlc2 hbel
      go_wp2_with fail
      go_loopw [46] (fun b wr => ∃ (k : Nat), k ≤ l.length ∧ b = .int .i64 (k : Int) ∧ Inv2 w2 ms ls A i R' (fun c => if c < k then acc row ls (j + 1) c else acc row ls j c) wr) (fun b _ => l.length - (intOf b).toNat)
      case atStart => exact ⟨0, by omega, rfl, by simpa using HI2.out⟩
      case round =>
       obtain ⟨b, hb, rfl, hI⟩ := hrel
       have hAr : A ≤ wr.heap.size := Nat.le_of_lt hI.tbl.lt
       clear HI2 hur hxr
       by_cases hbl : b < l.length
       ·have hdb : (b : Int) < (l.length : Int) := by omega
        have hdw : (b : Int) < (wide ls : Int) := by omega
        have hbel : Below w.heap.size w wr := hb2.trans (hI.below.mono hs1)
        obtain ⟨y, hy⟩ : ∃ y, l[b]? = some y := ⟨_, List.getElem?_eq_getElem hbl⟩
        obtain ⟨hy256, hyc⟩ := HLC.out b y hy
        have hyr : wr.cell? ⟨lb, lo2 + b, none⟩ = some (.int .u8 (y : Nat)) := (hbel.cell (p := ⟨lb, lo2 + b, none⟩) (lt_cell hyc)).trans hyc
        have hgy : l.getD b 0 = y := by rw [List.getD, hy]; rfl
        have hcur : wr.cell? ⟨R' i, b, none⟩ = some (.int .u8 (acc row ls j b : Nat)) := by
         rw [hI.cur.2.cell b, tab_get (by omega)]
         simp [by8]
        have htbl : wr.cell? ⟨A, i, none⟩ = some (.slice (some ⟨R' i, 0, none⟩) (wide ls) (wide ls)) := by
         rw [hI.tbl.cell i, tab_get hlt]
         simp [slc]
        have hFr : Fld.At wr F := (hF2.below hI.below hF1)
        have ha256 := acc_lt row ls b j
        have hnew := HACC.out b
        rw [if_neg (by omega), hgy] at hnew
        have HRD := Lib.hid (show Rd F A i (R' i) b (.slice (some ⟨R' i, 0, none⟩) (wide ls) (wide ls)) (acc row ls j b) wr from ⟨hFr, htbl, hcur⟩)
        have HNEW := Lib.hid hnew
        have HI3 := Lib.hid hI
        have HG := Lib.hid (Fld.gm_lt x y)
        generalize hac : acc row ls j b = a at *
        have HAC := Lib.hid hac
        clear hI hgy hy hyc hbel hcur htbl hFr hnew hac
        go_wp2_with fail
        refine Stab.rg 19 [[], [], [0, 1], [2], [], [], [], [], [6, 7], [8], [], [9, 10], [11], [], [], [], [13, 14, 15], [5, 12, 16], [3, 4]] [18, 17] (Rd F A i (R' i) b (.slice (some ⟨R' i, 0, none⟩) (wide ls) (wide ls)) a) [Stab.eqv ?_, Stab.eqv ?_, Stab.eqv ?_, Stab.eqv ?_, Stab.eqv ?_, Stab.eqv ?_, Stab.eqv ?_, Stab.eqv ?_, Stab.eqv ?_, Stab.eqv ?_, Stab.eqv ?_, Stab.eqv ?_, Stab.eqv ?_, Stab.eqv ?_, Stab.eqv ?_, Stab.eqv ?_, Stab.eqv ?_, Stab.eqv ?_, Stab.eqv ?_] (HRD.out.ext (Stab.Ext.drew _)) (fun _ _ h hE => h.ext hE) ?goals14 ?last14
        case goals14 =>
         simp only [List.take_succ_cons, List.take_zero]
         iterate 16
          refine Stab.gp (fun us w _ hE hS hp hK => ?_) ?_
          ·((try have e0 : _ = _ := hp.1); (try have e1 : _ = _ := hp.2.1); (try have e2 : _ = _ := hp.2.2.1); obtain ⟨-, s0, s1⟩ := hS; go_simp; exact hK _ _ (by show _ = _; with_reducible rfl) (Stab.Ext.refl _))
         refine Stab.Goals.plain rfl rfl (fun us w cK hE hS hp hK => ?_) ?_
         ·obtain ⟨h13, h14, h15, -⟩ := hp
          replace h13 : us 13 = _ := h13
          replace h14 : us 14 = _ := h14
          replace h15 : us 15 = _ := h15
          go_simp
          go_wp2_with (go_at_call 145; ((with_reducible refine (Fld.mul_any _ _ x y hx256 hy256 hS.fld).mono ?_); rintro e w1 ⟨rfl, hb⟩))
          refine hK _ _ ?_ hb
          show _ = _
          with_reducible rfl
         refine Stab.Goals.plain rfl rfl (fun us w cK hE hS hp hK => ?_) ?_
         ·obtain ⟨h5, h12, h16, -⟩ := hp
          replace h5 : us 5 = _ := h5
          replace h12 : us 12 = _ := h12
          replace h16 : us 16 = _ := h16
          go_simp
          go_wp2_with (go_at_call 144; ((with_reducible refine (Fld.add_any _ a _ ha256 HG.out _).mono ?_); rintro e w1 ⟨rfl, rfl⟩))
          refine hK _ _ ?_ (Stab.Ext.refl _)
          show _ = _
          with_reducible rfl
         refine Stab.gp (fun us w _ hE hS hp hK => ?_) ?_
         ·((try have e0 : _ = _ := hp.1); (try have e1 : _ = _ := hp.2.1); (try have e2 : _ = _ := hp.2.2.1); obtain ⟨-, s0, s1⟩ := hS; go_simp; exact hK _ _ (by show _ = _; with_reducible rfl) (Stab.Ext.refl _))
         exact Stab.Goals.nil
        case last14 =>
         intro us w' hE hS hp
         obtain ⟨h18, h17, -⟩ := hp
         replace h18 : us 18 = _ := h18
         replace h17 : us 17 = _ := h17
         simp only [List.drop_succ_cons, List.drop_zero, h18, h17]
         have hI4 := HI3.out.ext hAr ((Stab.Ext.drew _).trans hE)
         have hfz := hI4.cur.2.frozen b
         have hce := hS.cell
         have HI4 := Lib.hid hI4
         clear hS h18 h17 hI4 hE HRD
         go_wp2_with fail
         go_roundw
         case rel =>
          refine ⟨b + 1, by omega, by go_num, HI4.out.set_ (by omega) ?_ fun k hk => ?_⟩
          ·rw [if_pos (by omega), HNEW.out]; rfl
          ·by_cases h1 : k < b
           ·rw [if_pos (by omega), if_pos h1]
           ·rw [if_neg (by omega), if_neg h1]
         case measure => simp [intOf]; omega
       ·have hb' : b = l.length := by omega
        subst hb'
        have hfun : (fun c => if c < l.length then acc row ls (j + 1) c else acc row ls j c) = acc row ls (j + 1) := by
         funext c
         by_cases h1 : c < l.length
         ·rw [if_pos h1]
         ·rw [if_neg h1, HACC.out c, if_pos (by omega)]
        rw [hfun] at hI
        have HI3 := Lib.hid hI
        clear hI hfun
        go_wp2_with fail
        go_roundw
        case rel => exact ⟨j + 1, by omega, by go_num, HI3.out⟩
        case measure => simp [intOf]; omega
    ·have hj' : j = row.length := by omega
     subst hj'
     have hfun : acc row ls row.length = out ms ls i := by
      funext k
      unfold out
      rw [show ms.getD i [] = row by rw [List.getD, HROW.out]; rfl]
     rw [hfun] at hI
     have HI3 := Lib.hid hI.done
     clear hI hfun hbel
     go_wp2_with fail
     go_roundw
     case rel => exact ⟨i + 1, _, by omega, by go_num, HI3.out⟩
     case measure => simp [intOf]; omega
  ·have hi' : i = ms.length := by omega
   subst hi'
   have HI3 := Lib.hid hI
   clear hI
   go_wp2_with fail
   go_ret
   exact ⟨A, R, rfl, hs1, hb2.trans (HI3.out.below.mono hs1), _, HI3.out⟩
end Spr
end Go.Proofs.YtnbkhdbligjifaaGreatDoor
namespace Go.Proofs.YtnbkhdbligjifaaGreatDoor
open Go Go.RowKit
namespace Cod
def gi (x : Nat) : Nat := if x = 0 then 0 else Fld.pw (255 - Fld.lg x)
theorem gi_lt (x : Nat) : gi x < 256 := by unfold gi; split; exact (by decide); exact Fld.pw_lt _
structure IRd (b : Nat) (x : Nat) (j : Int) (W : World) : Prop where
 lx : W.cell? ⟨b, 510 + x, none⟩ = some (.int .i64 (Fld.lg x : Nat))
 p : W.cell? ⟨b, j.toNat, none⟩ = some (.int .u8 (gi x : Nat))
theorem IRd.ext {b x : Nat} {j : Int} {w w' : World} (h : IRd b x j w) (hE : Stab.Ext w w') : IRd b x j w' := ⟨hE.cell h.lx, hE.cell h.p⟩
theorem inv_any (b : Nat) (w : World) (x : Nat) (hx : x < 256) (ha : Fld.At w b) :
 Calls Tryz.prog 143 #[.pointer (some ⟨b, 0, none⟩), .int .u8 (x : Int)] w fun e w' => e = .returned (.tuple #[.int .u8 (gi x : Nat), .bool (decide (x ≠ 0))]) ∧ Below w.heap.size w w' := by
 have l1 := Fld.lg_le x hx
 by_cases x0 : x = 0
 ·subst x0
  go_enter Tryz.func143, Tryz.ntmps143
  go_wp2_with fail
  go_ret2
  exact ⟨rfl, Below.refl _ _⟩
 have t1 : ((x : Int) == 0) = false := by simp; omega
 have hg : gi x = Fld.pw (255 - Fld.lg x) := by simp [gi, x0]
 have HR := Lib.hid (show IRd b x ((255 - Fld.lg x : Nat) : Int) w from ⟨ha.lg x hx, by rw [hg]; exact ha.pw _ (by omega)⟩)
 have HD := Lib.hid (show decide (x ≠ 0) = true by simp [x0])
 clear hg ha
 have hxi : (x : Int) < 256 := by omega
 have hw : IntKind.i64.wrap (255 - (Fld.lg x : Int)) = ((255 - Fld.lg x : Nat) : Int) := by rw [IntKind.wrap_i64]; omega
 have hp : ((255 - Fld.lg x : Nat) : Int) < 510 := by omega
 have h0 : 0 ≤ ((255 - Fld.lg x : Nat) : Int) := by omega
 generalize ((255 - Fld.lg x : Nat) : Int) = j at *
 go_enter Tryz.func143, Tryz.ntmps143
 go_wp2_with (go_at_call 177; ((with_reducible refine (Fld.or_any b _).mono ?_); rintro e w1 ⟨rfl, rfl⟩))
 refine Stab.rg 12 [[], [], [], [1], [3], [4, 2], [5], [6], [0], [8], [9, 7], [10]] [11] (IRd b x j) [Stab.eqv ?_, Stab.eqv ?_, Stab.eqv ?_, Stab.eqv ?_, Stab.eqv ?_, Stab.eqv ?_, Stab.eqv ?_, Stab.eqv ?_, Stab.eqv ?_, Stab.eqv ?_, Stab.eqv ?_, Stab.eqv ?_] (HR.out.ext (Stab.Ext.drew _)) (fun _ _ h hE => h.ext hE) ?goals4 ?last4
 case goals4 =>
  simp only [List.take_succ_cons, List.take_zero]
  iterate 12
   refine Stab.gp (fun us w _ hE hS hp hK => ?_) ?_
   ·((try have e0 : _ = _ := hp.1); (try have e1 : _ = _ := hp.2.1); (try have e2 : _ = _ := hp.2.2.1); obtain ⟨s0, s1⟩ := hS; go_simp; exact hK _ _ (by show _ = _; with_reducible rfl) (Stab.Ext.refl _))
  exact Stab.Goals.nil
 case last4 =>
  intro us w' hE hS hp
  obtain ⟨h11, -⟩ := hp
  replace h11 : us 11 = _ := h11
  simp only [List.drop_succ_cons, List.drop_zero, h11]
  clear hS h11
  go_wp2_with fail
  go_ret2
  rw [HD.out]
  exact ⟨rfl, (Stab.Ext.drew _).trans hE⟩
def oneN (i j : Int) : Nat := if i = j then 1 else 0
theorem one_any (i j : Int) (w : World) : Calls Tryz.prog 142 #[.int .i64 i, .int .i64 j] w fun e w' => e = .returned (.int .u8 (oneN i j : Nat)) ∧ w = w' := by
 by_cases h : i = j
 ·subst h
  have hq : (i == i) = true := by simp
  have HV := Lib.hid (show oneN i i = 1 from if_pos rfl)
  go_enter Tryz.func142, Tryz.ntmps142
  go_wp2_with fail
  go_ret
  rw [HV.out]
  exact ⟨rfl, rfl⟩
 ·have hq : (i == j) = false := by simpa using h
  have HV := Lib.hid (show oneN i j = 0 from if_neg h)
  go_enter Tryz.func142, Tryz.ntmps142
  go_wp2_with fail
  go_ret
  rw [HV.out]
  exact ⟨rfl, rfl⟩
end Cod
end Go.Proofs.YtnbkhdbligjifaaGreatDoor
namespace Go.Proofs.YtnbkhdbligjifaaGreatDoor
open Go Go.RowKit
namespace Cod
def entN (k i j : Nat) : Nat := if i < k then oneN i j else gi (Nat.xor i j)
theorem entN_lt (k i j : Nat) : entN k i j < 256 := by
 unfold entN oneN
 split
 ·split <;> decide
 ·exact gi_lt _
theorem xor16 (i j : Nat) (hi : i < 16) (hj : j < 16) : Nat.xor i j < 16 := Nat.xor_lt_two_pow (n := 4) hi hj
theorem ent_any (b c1 c3 : Nat) (w : World) (k n i j : Nat) (hi : i < 16) (hj : j < 16) (hk : k < 100) (k0 : w.cell? ⟨c1, 0, none⟩ = some (.int .i64 (k : Int))) (k3 : w.cell? ⟨c3, 0, none⟩ = some (.pointer (some ⟨b, 0, none⟩))) (ha : Fld.At w b) :
 Calls Tryz.prog 141 #[.int .i64 (i : Int), .int .i64 (j : Int), .pointer (some ⟨c1, 0, none⟩), .pointer (some ⟨c3, 0, none⟩)] w fun e w' => e = .returned (.int .u8 (entN k i j : Nat)) ∧ Below w.heap.size w w' := by
 have HO := Lib.hid (one_any (i : Int) (j : Int) w)
 by_cases h : i < k
 ·have HV := Lib.hid (show entN k i j = oneN i j from if_pos h)
  have h' : (i : Int) < (k : Int) := by omega
  go_enter Tryz.func141, Tryz.ntmps141
  go_wp2_with (go_at_call 142; with_reducible refine HO.out.mono ?_)
  rintro e w1 ⟨rfl, rfl⟩
  go_wp2_with fail
  go_ret
  rw [HV.out]
  exact ⟨rfl, Below.refl _ _⟩
 ·have HV := Lib.hid (show entN k i j = gi (Nat.xor i j) from if_neg h)
  have h' : (k : Int) ≤ (i : Int) := by omega
  have hx := xor16 i j hi hj
  have hxe : bits .xor .i64 (i : Int) (j : Int) = (Nat.xor i j : Nat) := by
   have : ∀ a b : Fin 16, bits .xor .i64 (a.1 : Int) (b.1 : Int) = (Nat.xor a.1 b.1 : Nat) := by decide +kernel
   exact this ⟨i, hi⟩ ⟨j, hj⟩
  have HI := Lib.hid (inv_any b w (Nat.xor i j) (by omega) ha)
  generalize Nat.xor i j = x at *
  clear ha
  go_enter Tryz.func141, Tryz.ntmps141
  go_wp2_with (go_at_call 143; with_reducible refine HI.out.mono ?_)
  rintro e w1 ⟨rfl, hb⟩
  have HB := Lib.hid hb
  clear hb
  go_wp2_with fail
  go_ret
  rw [HV.out]
  exact ⟨rfl, HB.out⟩
end Cod
end Go.Proofs.YtnbkhdbligjifaaGreatDoor
