/-
  A shard and an object by value, opened; what the listed variables give the walks.
-/
import Derived.Test.YtbcokpnehengfaaDoorRows
import Derived.Test.YtbcokpnehengfaaDoorShdMake
import Derived.Lib.SmallJoins
import Derived.LaidMore
import Derived.ProofKit
import Derived.OpenShut
import Derived.ShutString
import Derived.Stop.LaidErr
import Derived.Lib.LaidTab
import Derived.Handed
import Derived.HandedShaped
namespace Go.Proofs.YtbcokpnehengfaaDoor
open Go.ChangeShapes Go.WideShapes Go.ChangeAt Go.RowKit Go.Joins
namespace Shd

section
variable {H : Type} {enc : TypeId × Value → H} {w : World} {base : Nat} {spare : Nat → Bool} {held : Bool} {b0 : Nat} {r : Reach}

theorem int_of {n : Nat} {c : Value} {y : DataW H × List MemPlace} (h : DataW.trod enc Tryd.prog w base spare held n 3 [c] = some y) : ∃ a : Int, c = .int .i64 a ∧ I64 a := by
  obtain ⟨a, e, _, wa⟩ := DataW.trod_int Tryd.underlying3 h
  simp at e
  subst e
  have := bounds_i64 wa
  exact ⟨a, rfl, by omega, by omega⟩

theorem str_of {n : Nat} {c : Value} {y : DataW H × List MemPlace} (h : DataW.trod enc Tryd.prog w base spare held n 9 [c] = some y) : ∃ s : ByteArray, c = .string s := by
  obtain ⟨s, e, _, _⟩ := DataW.trod_string Tryd.underlying9 h
  simp at e
  exact ⟨s, e⟩

set_option maxRecDepth 100000 in
theorem open_shard {v : Value} {d : DataW H} {p : List MemPlace} (hv : Value.okWide Tryd.prog w r b0 25 v) (h : DataW.Trod enc Tryd.prog w base spare held 25 v d p) :
    ∃ (K N : Int) (dig : ByteArray) (idx : Int) (pay : ByteArray), v = .agg #[.int .i64 K, .int .i64 N, .string dig, .int .i64 idx, .string pay] ∧ I64 K ∧ I64 N ∧ I64 idx := by
  obtain ⟨cs, rfl, hsz⟩ := okWide_struct Tryd.underlying25 hv
  have hc : Tryd.prog.cellsOf 25 = 5 := by kernel_rfl
  have c23 : Tryd.prog.cellsOf 23 = 2 := by kernel_rfl
  have c9 : Tryd.prog.cellsOf 9 = 1 := by kernel_rfl
  have c3 : Tryd.prog.cellsOf 3 = 1 := by kernel_rfl
  rw [hc] at hsz
  obtain ⟨fuel, hf⟩ := h
  obtain ⟨xs, n, _, _, _, hxl, hx⟩ := DataW.trod_struct Tryd.underlying25 hf
  obtain ⟨l⟩ := cs
  match l, hsz with
  | [a0, a1, a2, a3, a4], _ =>
    match xs, hxl with
    | [x0, x1, x2, x3], _ =>
      have h0 : DataW.trod enc Tryd.prog w base spare held n 23 ((([a0, a1, a2, a3, a4] : List Value).drop 0).take (Tryd.prog.cellsOf 23)) = some x0 := hx 0 _ rfl
      rw [c23] at h0
      have h1 : DataW.trod enc Tryd.prog w base spare held n 9 ((([a0, a1, a2, a3, a4] : List Value).drop 2).take (Tryd.prog.cellsOf 9)) = some x1 := hx 1 _ rfl
      rw [c9] at h1
      have h2 : DataW.trod enc Tryd.prog w base spare held n 3 ((([a0, a1, a2, a3, a4] : List Value).drop 3).take (Tryd.prog.cellsOf 3)) = some x2 := hx 2 _ rfl
      rw [c3] at h2
      have h3 : DataW.trod enc Tryd.prog w base spare held n 9 ((([a0, a1, a2, a3, a4] : List Value).drop 4).take (Tryd.prog.cellsOf 9)) = some x3 := hx 3 _ rfl
      rw [c9] at h3
      have h0' : DataW.trod enc Tryd.prog w base spare held n 23 [a0, a1] = some x0 := h0
      obtain ⟨ys, m, _, _, _, hyl, hy⟩ := DataW.trod_struct Tryd.underlying23 h0'
      match ys, hyl with
      | [y0, y1], _ =>
        have g0 : DataW.trod enc Tryd.prog w base spare held m 3 ((([a0, a1] : List Value).drop 0).take (Tryd.prog.cellsOf 3)) = some y0 := hy 0 _ rfl
        rw [c3] at g0
        have g1 : DataW.trod enc Tryd.prog w base spare held m 3 ((([a0, a1] : List Value).drop 1).take (Tryd.prog.cellsOf 3)) = some y1 := hy 1 _ rfl
        rw [c3] at g1
        obtain ⟨K, rfl, hK⟩ := int_of (show DataW.trod enc Tryd.prog w base spare held m 3 [a0] = some y0 from g0)
        obtain ⟨N, rfl, hN⟩ := int_of (show DataW.trod enc Tryd.prog w base spare held m 3 [a1] = some y1 from g1)
        obtain ⟨dig, rfl⟩ := str_of (show DataW.trod enc Tryd.prog w base spare held n 9 [a2] = some x1 from h1)
        obtain ⟨idx, rfl, hI⟩ := int_of (show DataW.trod enc Tryd.prog w base spare held n 3 [a3] = some x2 from h2)
        obtain ⟨pay, rfl⟩ := str_of (show DataW.trod enc Tryd.prog w base spare held n 9 [a4] = some x3 from h3)
        exact ⟨K, N, dig, idx, pay, rfl, hK, hN, hI⟩

set_option maxRecDepth 100000 in
theorem open_object {v : Value} {d : DataW H} {p : List MemPlace} (hv : Value.okWide Tryd.prog w r b0 27 v) (h : DataW.Trod enc Tryd.prog w base spare held 27 v d p) :
    ∃ (name data : ByteArray), v = .agg #[.string name, .string data] := by
  obtain ⟨v0, v1, y0, y1, n, rfl, _, _, h0, h1⟩ := open_agg2 Tryd.underlying27 (by kernel_rfl) (by kernel_rfl) hv h
  obtain ⟨a, rfl⟩ := str_of h0
  obtain ⟨b, rfl⟩ := str_of h1
  exact ⟨a, b, rfl⟩
end

set_option maxRecDepth 100000 in
theorem open_i64 {H : Type} {enc : TypeId × Value → H} {w : World} {base : Nat} {spare : Nat → Bool} {held : Bool} {b0 : Nat} {r : Reach} {v : Value} {d : DataW H} {p : List MemPlace}
    (hv : Value.okWide Tryd.prog w r b0 3 v) (h : DataW.Trod enc Tryd.prog w base spare held 3 v d p) : ∃ a : Int, v = .int .i64 a ∧ I64 a := by
  obtain ⟨x, rfl, _, _, wx⟩ := open_int Tryd.underlying3 hv h
  have := bounds_i64 wx
  exact ⟨x, rfl, by omega, by omega⟩

set_option maxRecDepth 100000 in
theorem open_u8 {H : Type} {enc : TypeId × Value → H} {w : World} {base : Nat} {spare : Nat → Bool} {held : Bool} {b0 : Nat} {r : Reach} {v : Value} {d : DataW H} {p : List MemPlace}
    (hv : Value.okWide Tryd.prog w r b0 5 v) (h : DataW.Trod enc Tryd.prog w base spare held 5 v d p) : ∃ b : UInt8, v = .int .u8 (b.toNat : Int) := by
  obtain ⟨x, rfl, _, _, wx⟩ := open_int Tryd.underlying5 hv h
  have := bounds_u8 wx
  refine ⟨UInt8.ofNat x.toNat, ?_⟩
  rw [UInt8.toNat_ofNat', Nat.mod_eq_of_lt (by omega), Int.toNat_of_nonneg (by omega)]

set_option maxRecDepth 100000 in
theorem open_str {H : Type} {enc : TypeId × Value → H} {w : World} {base : Nat} {spare : Nat → Bool} {held : Bool} {b0 : Nat} {r : Reach} {v : Value} {d : DataW H} {p : List MemPlace}
    (hv : Value.okWide Tryd.prog w r b0 9 v) (h : DataW.Trod enc Tryd.prog w base spare held 9 v d p) : ∃ s : ByteArray, v = .string s := by
  obtain ⟨s, rfl, _, _, _⟩ := Go.ChangeMaps.open_string Tryd.underlying9 hv h
  exact ⟨s, rfl⟩

theorem gSyn : Tryd.prog.globalNamed "strconv.ErrSyntax" = some 1 := by kernel_rfl
theorem gRng : Tryd.prog.globalNamed "strconv.ErrRange" = some 2 := by kernel_rfl
theorem tSyn : (Tryd.prog.globals[(1 : Nat)]?).map (·.type) = some 54 := by kernel_rfl
theorem tRng : (Tryd.prog.globals[(2 : Nat)]?).map (·.type) = some 54 := by kernel_rfl
theorem tPow : (Tryd.prog.globals[(3 : Nat)]?).map (·.type) = some 129 := by kernel_rfl
theorem star : "*" ++ "errors.errorString" = "*errors.errorString" := by decide
theorem rowES (u : TypeId) (h : Tryd.prog.typeName? 3 u = some "*errors.errorString") : u = 125 :=
  typeName_ptr_named (nm := "errors.errorString") (by rw [star]; kernel_rfl) (by kernel_rfl) (by decide) u (by rw [star]; exact h)

theorem cell_of_var {W : World} {n : String} {g : Nat} {v : Value} (hg : Tryd.prog.globalNamed n = some g) (h : W.var? Tryd.prog n = some #[v]) : W.cell? ⟨g, 0, none⟩ = some v := by
  have := World.var?_cell hg h 0
  simpa using this

set_option maxRecDepth 100000 in
theorem vars_of {W : World} (hs : W.ShapedOpen Tryd.prog)
    (hL : laidMet Tryd.prog [("math/bits.deBruijn32tab", Rows.laid_math_bits_deBruijn32tab), ("math/bits.deBruijn64tab", Rows.laid_math_bits_deBruijn64tab), ("internal/strconv.uint64pow10", Rows.laid_internal_strconv_uint64pow10), ("strconv.ErrRange", Rows.laid_strconv_ErrRange), ("strconv.ErrSyntax", Rows.laid_strconv_ErrSyntax)] W) : Vars W := by
  have h3 := hL.tail.tail
  have h4 := h3.tail
  have h5 := h4.tail
  have hp : Lib.TabIs Tryd.prog W "internal/strconv.uint64pow10" .u64 Lib.pow10Tab := Lib.tabIs_of_head gPow tPow Tryd.underlying129 Tryd.underlying82 (by kernel_rfl) (by kernel_rfl) h3
  obtain ⟨a0, _, hr, _, _, _⟩ := laid_sentinel h4 gRng tRng Tryd.underlying54 rowES Tryd.underlying125 Tryd.underlying127 rfl rfl Tryd.underlying9 (by kernel_rfl) (by kernel_rfl)
  obtain ⟨a1, _, hy, _, _, _⟩ := laid_sentinel h5 gSyn tSyn Tryd.underlying54 rowES Tryd.underlying125 Tryd.underlying127 rfl rfl Tryd.underlying9 (by kernel_rfl) (by kernel_rfl)
  obtain ⟨m, hm⟩ := Tryd.laysM145.s1_3 W hs
  exact ⟨⟨m, hm⟩, ⟨_, _, cell_of_var gSyn hy⟩, ⟨_, _, cell_of_var gRng hr⟩, hp⟩

/-- the builder of a row that lists variables, and hands on the world's shape -/
theorem handed {H : Type} {enc : TypeId × Value → H} {a : Assume} {C : Checked} {os : Os} {f : FuncId} {fn : Func} {s : ChangeSpec} {conds : List PathCond} {apart fresh handsOn again : Bool} {X : World → Array Value → Prop}
    (hX : ∀ (w w' : World) (args : Array Value), w.heap = w'.heap → X w args → X w' args)
    (own : ownKnob C.prog.godebug = none) (started : os.Started) (noInit : C.prog.inits.idxOf? f = none) (hfn : C.prog.funcs[f]? = some fn)
    (witness : ∃ (w : World) (tape : Tape) (i : Input), w.os = os ∧ (w.forCall tape i).Shaped C.prog ∧ i.vars = [] ∧ Input.okWide C.prog (w.forCall tape i) .any w.heap.size f i ∧
      ((s.pre enc C.prog fn conds apart (w.forCall tape i).memory i.args ∧ X (w.forCall tape i).memory i.args) ∧ sizedMet enc C.prog fn (OpenSpec.ofChange s) apart (w.forCall tape i).memory i.args) ∧ a.holds C.prog (lone (Frame.enter C.prog f i.args .normal) [] (w.forCall tape i)))
    (contract : ∀ (W : World) (base : Nat) (args : Array Value) (ds gs : List (DataW H)) (before : List MemPlace),
      (∀ (j : Nat) t v, fn.params[j]? = some t → args[j]? = some v → Value.okWide C.prog W .any base t v) →
      DataW.Whole enc C.prog fn.params.toList s.vars apart W args.toList ds gs before →
      W.ShapedOpen C.prog → X W args →
      Calls C.prog f args W fun e W' => ∃ v, e = .returned v ∧ s.post enc C.prog fn apart fresh handsOn again W args v W') :
    ReturnsInHanded a C os f .any (fun w args => (s.pre enc C.prog fn conds apart w args ∧ X w args) ∧ sizedMet enc C.prog fn (OpenSpec.ofChange s) apart w args) (s.post enc C.prog fn apart fresh handsOn again) := by
  refine returnsInHanded_of_calls own started noInit witness ?_
  intro w tape i _ hsh _ hok hpre hholds
  obtain ⟨_, _, _, fn', hfn', _, _, _, _, hval⟩ := hok
  have e : fn' = fn := Option.some.inj (hfn'.symm.trans hfn)
  subst e
  obtain ⟨⟨⟨ds, gs, before, hw, hc⟩, hx⟩, hz⟩ := hpre
  have hw' := DataW.Whole.of_heap (w' := w.forCall tape i) (by rfl) hw
  refine (contract (w.forCall tape i) w.heap.size i.args ds gs before hval hw' hsh (hX _ _ _ (by rfl) hx)).mono fun e W' ⟨v, he, hp⟩ => ?_
  subst he
  exact ChangeSpec.post_blind hp

end Shd
end Go.Proofs.YtbcokpnehengfaaDoor
