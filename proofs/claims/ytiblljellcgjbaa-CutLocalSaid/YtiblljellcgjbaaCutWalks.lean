/-
  The walks of package cut: the iterator's contract, the two callers.
-/
import Derived.Test.YtiblljellcgjbaaGearWalks
import Derived.Test.YtiblljellcgjbaaCutPlain
import Derived.Test.YtiblljellcgjbaaMem
import Derived.Test.YtiblljellcgjbaaRange
namespace Go.Proofs.Ytiblljellcgjbaa
open Go.RowKit Go.Shelf
attribute [local go_sem] Oper.semAt_some
namespace Cut
open Gear (roll roll_lt M roll_any)

/-- what a round keeps: the block of the boxed text -/
def Keeps (B : Nat) (W W' : World) : Prop := W'.heap[B]? = W.heap[B]?

theorem more_true {size h : Nat} (hm : more size h = true) : size < 1024 ∧ (size < 64 ∨ h / 72057594037927936 ≠ 0) := by simpa [more] using hm
theorem more_false {size h : Nat} (hm : more size h = false) : size ≥ 1024 ∨ (size ≥ 64 ∧ h / 72057594037927936 = 0) := by
  simp only [more, Bool.and_eq_false_iff, Bool.or_eq_false_iff, decide_eq_false_iff_not] at hm
  omega

theorem drop_cons (s : ByteArray) (k : Nat) (h : k < s.size) : s.data.toList.drop k = s[k] :: s.data.toList.drop (k + 1) := by
  rw [List.drop_eq_getElem_cons (by simpa using h)]; rfl

set_option maxRecDepth 100000 in
set_option maxHeartbeats 2000000 in
theorem ends1_in (n : Nat) (hn : 2 ≤ n) (l Bn : Nat) (s : ByteArray) (hs : s.size ≤ 140737488351232) (J Jx : List Nat → World → Prop)
    (hY : ∀ pre x W, J pre W → pre ++ [x] <+: E s.data.toList → YieldAt Fence.wide (n - 1) Try.prog l #[.int .i64 (x : Nat)] W fun e W' =>
      (e = .returned (.bool true) ∧ J (pre ++ [x]) W' ∧ Keeps Bn W W') ∨ (e = .returned (.bool false) ∧ Jx (pre ++ [x]) W'))
    (W : World) (hB : Blk W Bn 9 #[.string s]) (h0 : J [] W) :
    CallsIn Fence.wide n Try.prog 34 #[.func (.yield l) #[] #[], .pointer (some ⟨Bn, 0, none⟩)] W fun e W' => (∃ v, e = .returned v) ∧
      ((∃ ys, ys = E s.data.toList ∧ J ys W') ∨ (∃ pre, pre <+: E s.data.toList ∧ Jx pre W')) := by
  have h1 : 1 ≤ n := by omega
  have hwR : Fence.wide.fn 16 := trivial
  have hc0 := hB.cell 0
  simp only [List.getElem?_toArray, List.getElem?_cons_zero] at hc0
  refine callsIn_of_wp Try.func34 rfl trivial ?_ rfl
  simp only [Try.ntmps34, List.size_toArray, List.length_cons, List.length_nil, Nat.reduceAdd, Nat.reduceSub, Array.replicate_succ, Array.replicate_zero, List.push_toArray, List.append_toArray, List.nil_append, List.cons_append]
  gi_wp2
  gi_loopw [3, 4, 9] (fun f h i wr => ∃ (k fr hh : Nat) (pre : List Nat), k ≤ s.size ∧ fr ≤ k ∧ hh < M ∧ f = .int .i64 fr ∧ h = .int .u64 hh ∧ i = .int .i64 k ∧ pre ++ ends k fr hh (s.data.toList.drop k) = E s.data.toList ∧ J pre wr ∧ Blk wr Bn 9 #[.string s])
    (fun _ _ i _ => s.size - (intOf i).toNat)
  case atStart => exact ⟨0, 0, 0, [], Nat.zero_le _, Nat.le_refl _, Gear.M_pos, rfl, rfl, rfl, rfl, h0, hB⟩
  case round =>
    obtain ⟨k, fr, hh, pre, hk, hfk, hhM, rfl, rfl, rfl, hpre, hJ, hBr⟩ := hrel
    have hc := hBr.cell 0
    simp only [List.getElem?_toArray, List.getElem?_cons_zero] at hc
    by_cases hlt : k < s.size
    · have hbk : ((s[k].toNat : Nat) : Int) < 256 := by have := s[k].toNat_lt; omega
      have hb0 : (0 : Int) ≤ ((s[k].toNat : Nat) : Int) := by omega
      have hh0 : (0 : Int) ≤ ((hh : Nat) : Int) := by omega
      have HR := callsIn_wide (n := n - 1).2 (roll_any (hh : Int) (s[k].toNat : Int) hh0 hb0 hbk wr)
      rw [Int.toNat_natCast, Int.toNat_natCast] at HR
      have hrl := roll_lt hh s[k].toNat
      rw [drop_cons s k hlt] at hpre
      generalize hrr : roll hh s[k].toNat = r at *
      by_cases hm : more (k + 1 - fr) r = true
      · rw [ends_more (by rw [hrr]; exact hm), hrr] at hpre
        have HP := Lib.hid hpre
        have hmt := more_true hm
        have HRR := Lib.hid HR
        have h1024 : (k : Int) + 1 - (fr : Int) < 1024 := by omega
        clear hpre hm hrr HR hY hc0 hhM
        by_cases h64 : k + 1 - fr < 64
        · have h64' : (k : Int) + 1 - (fr : Int) < 64 := by omega
          gi_wp2_with (gi_at_call 16; refine HRR.out.mono ?_; rintro e w' ⟨rfl, rfl⟩)
          go_roundw
          case rel => exact ⟨k + 1, fr, r, pre, by omega, by omega, hrl, rfl, rfl, by go_num, HP.out, hJ, hBr⟩
          case measure => simp [intOf]; omega
        · have h64' : ¬ (k : Int) + 1 - (fr : Int) < 64 := by omega
          have hsh : r / 72057594037927936 ≠ 0 := by omega
          have hsi : (((r : Int) / 72057594037927936) != 0) = true := by
            rw [bne_iff_ne]; omega
          clear hmt hsh
          gi_wp2_with (gi_at_call 16; refine HRR.out.mono ?_; rintro e w' ⟨rfl, rfl⟩)
          go_roundw
          case rel => exact ⟨k + 1, fr, r, pre, by omega, by omega, hrl, rfl, rfl, by go_num, HP.out, hJ, hBr⟩
          case measure => simp [intOf]; omega
      · have hmf := more_false (show more (k + 1 - fr) r = false by simpa using hm)
        rw [ends_stop (by rw [hrr]; simpa using hm)] at hpre
        have hlen : pre ++ [k + 1] <+: E s.data.toList := ⟨_, by rw [← hpre, List.append_assoc]; rfl⟩
        obtain ⟨fn, tmps, assign, body, hy, hRd⟩ := hY pre (k + 1) wr hJ hlen
        rw [show pre ++ (k + 1) :: ends (k + 1) (k + 1) 0 (s.data.toList.drop (k + 1)) = (pre ++ [k + 1]) ++ ends (k + 1) (k + 1) 0 (s.data.toList.drop (k + 1)) by simp] at hpre
        have HP := Lib.hid hpre
        have HRR := Lib.hid HR
        have ek : (((k + 1 : Nat) : Nat) : Int) = (k : Int) + 1 := by omega
        rw [ek] at hy
        clear hpre hm hrr HR hY hc0 hhM hlen ek
        by_cases h1024 : k + 1 - fr < 1024
        all_goals first
          | (have hin : k + 1 - fr < 1024 := h1024
             have h1024' : (k : Int) + 1 - (fr : Int) < 1024 := by omega
             have h64' : ¬ (k : Int) + 1 - (fr : Int) < 64 := by omega
             have hsi : (((r : Int) / 72057594037927936) != 0) = false := by
               rw [bne_eq_false_iff_eq]; omega
             clear hmf hin
             gi_wp2_with (gi_at_call 16; refine HRR.out.mono ?_; rintro e w' ⟨rfl, rfl⟩))
          | (have h1024' : ¬ (k : Int) + 1 - (fr : Int) < 1024 := by omega
             clear hmf
             gi_wp2_with (gi_at_call 16; refine HRR.out.mono ?_; rintro e w' ⟨rfl, rfl⟩))
        all_goals
          refine hRd.mono ?_
          rintro e W3 (⟨rfl, hJ3, hk3⟩ | ⟨rfl, hJx3⟩)
          · have hB3 : Blk W3 Bn 9 #[.string s] := hk3.trans hBr
            gi_wp2
            go_roundw
            case rel => exact ⟨k + 1, k + 1, 0, pre ++ [k + 1], by omega, Nat.le_refl _, Gear.M_pos, by go_num, rfl, by go_num, HP.out, hJ3, hB3⟩
            case measure => simp [intOf]; omega
          · gi_wp2
            refine bodyPost_ret (results_none rfl _ _ _) rfl ?_
            exact ⟨⟨_, rfl⟩, .inr ⟨pre ++ [k + 1], ⟨_, HP.out⟩, hJx3⟩⟩
    · obtain rfl : k = s.size := by omega
      rw [List.drop_of_length_le (by simp)] at hpre
      by_cases hfs : fr < s.size
      · rw [ends_nil_lt hfs] at hpre
        have hlen : pre ++ [s.size] <+: E s.data.toList := by rw [hpre]; exact List.prefix_refl _
        obtain ⟨fn, tmps, assign, body, hy, hRd⟩ := hY pre s.size wr hJ hlen
        have HP := Lib.hid hpre
        clear hpre hlen hlt hk hY
        gi_wp2
        refine hRd.mono ?_
        rintro e W3 (⟨rfl, hJ3, hk3⟩ | ⟨rfl, hJx3⟩)
        · gi_wp2
          go_end0
          exact ⟨⟨_, rfl⟩, .inl ⟨_, HP.out, hJ3⟩⟩
        · gi_wp2
          go_end0
          exact ⟨⟨_, rfl⟩, .inr ⟨_, by rw [HP.out]; exact List.prefix_refl _, hJx3⟩⟩
      · rw [ends_nil_ge hfs, List.append_nil] at hpre
        have HP := Lib.hid hpre
        clear hpre hY
        gi_wp2
        go_end0
        exact ⟨⟨_, rfl⟩, .inl ⟨_, HP.out, hJ⟩⟩

set_option maxHeartbeats 1000000 in
/-- cut.ends: the text is boxed; the function value captures the box -/
theorem ends_any (s : ByteArray) (w : World) :
    Calls Try.prog 32 #[.string s] w fun e w' => e = .returned (.func (.func 34) #[] #[.pointer (some ⟨w.heap.size, 0, none⟩)]) ∧ w.alloc (.cells #[.string s] 9) = w' := by
  go_enter Try.func32, Try.ntmps32
  go_wp2
  go_ret
  exact ⟨rfl, rfl⟩

/-- the contract of the iterator -/
theorem ends_stops (n : Nat) (hn : 2 ≤ n) (Bn : Nat) (s : ByteArray) (hs : s.size ≤ 140737488351232) (w : World) (hB : Blk w Bn 9 #[.string s]) :
    SeqOk n Try.prog 34 #[.pointer (some ⟨Bn, 0, none⟩)] (fun x : Nat => #[Value.int .i64 (x : Nat)]) (Keeps Bn) (fun ys => ys = E s.data.toList) (fun pre => pre <+: E s.data.toList) (fun pre x => pre ++ [x] <+: E s.data.toList) w := fun l J Jx W hW _ _ hY h0 =>
  ends1_in n hn l Bn s hs J Jx hY W (hB.below hW hB.lt) h0

end Cut
end Go.Proofs.Ytiblljellcgjbaa
