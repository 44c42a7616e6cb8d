/-
 DERIVED: THE SHELF's CONTRACTS AT THIS DUMP, IN PLAIN WORDS (tools/lay-plain.mjs out of 'TryzShelf.lean', which tools/lay-shelf.mjs wrote): THE SAME DECLARATIONS UNDER THE SAME NAMES: 'import', 'namespace', 'open', 'def', 'theorem' AND NOTHING ELSE: no command of the shelf's: FOR A HAND-IN. Each laying: the table of numbers ('.._ren') and one theorem, a field a fact of the dump's own or the kernel's comparison; each contract: ONE APPLICATION. Contracts of a strings.Builder's writers, in this seat's numbers. (The kit's own do not fit a dump in which copyCheck's panic is refused.) The walk of package sha: Hex. The walks of package shard: Name, Parse; what the package-level variables hold that they read.
-/
import Derived.Shelf.Strings.Builder1
import Derived.Shelf.Strings.Trim
import Derived.Shelf.Strings.BuilderF
import Derived.Shelf.Strings.BuilderK
import Derived.Shelf.Strconv.Itoa0
import Derived.Shelf.Strconv.Itoa1
import Derived.Shelf.LaysM
import Derived.Shelf.Strconv.Itoa2
import Derived.Shelf.Strconv.Itoa3
import Derived.Shelf.Strings.Search1
import Derived.Shelf.Bits.Mul64
import Derived.Ground.SlgmProg
import Derived.Shelf.SortM.Plain
import Derived.Shelf.SortM.SortNone
import Derived.Test.YtnbkhdbligjifaaGreatDoorProg
import Derived.Test.YtnbkhdbligjifaaGreatDoorMem
import Derived.Lib.FrozenHead2
import Derived.Lib.OthersKept
import Derived.Lib.MakeNoZero
import Derived.Laws.Externs
import Derived.Test.YtnbkhdbligjifaaGreatDoorShdObj
import Derived.Deep.QuietTactic
import Derived.BigQuiet
import Derived.IntWalk
import Derived.WalkSmall
import Derived.Lib.AppendIntMem
import Derived.Lib.AtoiErrMem
set_option linter.unusedVariables false
set_option linter.unusedSimpArgs false
set_option maxRecDepth 100000
set_option maxHeartbeats 40000000
namespace Go.Proofs
open Go.Shelf
def Tryz.lays169_ren : Go.Shelf.Ren := ⟨fun | 169 => 77 | n => n, fun | 70 => 135 | 9 => 9 | 0 => 0 | 72 => 138 | 37 => 136 | 127 => 183 | 3 => 3 | 5 => 5 | n => n, fun | n => n⟩
theorem Tryz.lays169 : Go.Proofs.Lays.n169 Tryz.prog Tryz.lays169_ren := {
 mixed := by kernel_rfl
 f169 := Tryz.func77.trans (congrArg some (by kernel_rfl))
 t0 := Tryz.underlying0
 a0 := Tryz.isAgg0
 z0 := Tryz.sizeOf0
 v0 := Tryz.zeroValue0
 t3 := Tryz.underlying3
 a3 := Tryz.isAgg3
 z3 := Tryz.sizeOf3
 v3 := Tryz.zeroValue3
 t9 := Tryz.underlying9
 a9 := Tryz.isAgg9
 z9 := Tryz.sizeOf9
 v9 := Tryz.zeroValue9
 t37 := Tryz.underlying136
 a37 := Tryz.isAgg136
 z37 := Tryz.sizeOf136
 v37 := Tryz.zeroValue136
 t70 := Tryz.underlying135
 a70 := Tryz.isAgg135
 z70 := Tryz.sizeOf135
 v70 := Tryz.zeroValue135
 t72 := Tryz.underlying138
 a72 := Tryz.isAgg138
 z72 := Tryz.sizeOf138
 v72 := Tryz.zeroValue138
 t127 := Tryz.underlying183
 a127 := Tryz.isAgg183
 z127 := Tryz.sizeOf183
 v127 := Tryz.zeroValue183 }
theorem Tryz.Builder_Extra_169 : Builder.Extra Tryz.prog Tryz.lays169_ren := {
 sizeBuilder := by kernel_rfl
 liesBuilder := by kernel_rfl
 t5 := Tryz.underlying5
 a5 := Tryz.isAgg5
 z5 := Tryz.sizeOf5
 v5 := Tryz.zeroValue5
 infoByte := by kernel_rfl
 cellsByte := by kernel_rfl
 sizeByte := by kernel_rfl
 neB5 := by decide }
def Tryz.lays160_ren : Go.Shelf.Ren := ⟨fun | 160 => 150 | 232 => 183 | 231 => 182 | 227 => 184 | 234 => 186 | 233 => 185 | 236 => 188 | 235 => 187 | 228 => 209 | 271 => 212 | 151 => 211 | 197 => 210 | 120 => 228 | 152 => 227 | 260 => 226 | 137 => 233 | 119 => 234 | 224 => 235 | 225 => 236 | 217 => 238 | 266 => 239 | n => n, fun | 9 => 9 | 4 => 4 | 3 => 3 | 5 => 5 | 117 => 260 | 116 => 259 | 0 => 0 | 124 => 263 | 21 => 21 | 105 => 283 | 46 => 48 | 119 => 301 | 139 => 304 | 138 => 303 | n => n, fun | 3 => 3 | 4 => 4 | n => n⟩
theorem Tryz.lays160 : Go.Proofs.Lays.n160 Tryz.prog Tryz.lays160_ren := {
 mixed := by kernel_rfl
 f119 := Tryz.func234.trans (congrArg some (by kernel_rfl))
 f120 := Tryz.func228.trans (congrArg some (by kernel_rfl))
 f137 := Tryz.func233.trans (congrArg some (by kernel_rfl))
 f151 := Tryz.func211.trans (congrArg some (by kernel_rfl))
 f152 := Tryz.func227.trans (congrArg some (by kernel_rfl))
 f160 := Tryz.func150.trans (congrArg some (by kernel_rfl))
 f197 := Tryz.func210.trans (congrArg some (by kernel_rfl))
 f217 := Tryz.func238.trans (congrArg some (by kernel_rfl))
 f224 := Tryz.func235.trans (congrArg some (by kernel_rfl))
 f225 := Tryz.func236.trans (congrArg some (by kernel_rfl))
 f227 := Tryz.func184.trans (congrArg some (by kernel_rfl))
 f228 := Tryz.func209.trans (congrArg some (by kernel_rfl))
 f231 := Tryz.func182.trans (congrArg some (by kernel_rfl))
 f232 := Tryz.func183.trans (congrArg some (by kernel_rfl))
 f233 := Tryz.func185.trans (congrArg some (by kernel_rfl))
 f234 := Tryz.func186.trans (congrArg some (by kernel_rfl))
 f235 := Tryz.func187.trans (congrArg some (by kernel_rfl))
 f236 := Tryz.func188.trans (congrArg some (by kernel_rfl))
 f260 := Tryz.func226.trans (congrArg some (by kernel_rfl))
 f266 := Tryz.func239.trans (congrArg some (by kernel_rfl))
 f271 := Tryz.func212.trans (congrArg some (by kernel_rfl))
 t0 := Tryz.underlying0
 a0 := Tryz.isAgg0
 z0 := Tryz.sizeOf0
 v0 := Tryz.zeroValue0
 t3 := Tryz.underlying3
 a3 := Tryz.isAgg3
 z3 := Tryz.sizeOf3
 v3 := Tryz.zeroValue3
 t4 := Tryz.underlying4
 a4 := Tryz.isAgg4
 z4 := Tryz.sizeOf4
 v4 := Tryz.zeroValue4
 t5 := Tryz.underlying5
 a5 := Tryz.isAgg5
 z5 := Tryz.sizeOf5
 v5 := Tryz.zeroValue5
 t9 := Tryz.underlying9
 a9 := Tryz.isAgg9
 z9 := Tryz.sizeOf9
 v9 := Tryz.zeroValue9
 t21 := Tryz.underlying21
 a21 := Tryz.isAgg21
 z21 := Tryz.sizeOf21
 v21 := Tryz.zeroValue21
 t46 := Tryz.underlying48
 a46 := Tryz.isAgg48
 z46 := Tryz.sizeOf48
 v46 := Tryz.zeroValue48
 t105 := Tryz.underlying283
 a105 := Tryz.isAgg283
 z105 := Tryz.sizeOf283
 v105 := Tryz.zeroValue283
 t116 := Tryz.underlying259
 a116 := Tryz.isAgg259
 z116 := Tryz.sizeOf259
 t117 := Tryz.underlying260
 a117 := Tryz.isAgg260
 z117 := Tryz.sizeOf260
 v117 := Tryz.zeroValue260
 t119 := Tryz.underlying301
 a119 := Tryz.isAgg301
 z119 := Tryz.sizeOf301
 t124 := Tryz.underlying263
 a124 := Tryz.isAgg263
 z124 := Tryz.sizeOf263
 v124 := Tryz.zeroValue263
 t138 := Tryz.underlying303
 a138 := Tryz.isAgg303
 z138 := Tryz.sizeOf303
 v138 := Tryz.zeroValue303
 t139 := Tryz.underlying304
 a139 := Tryz.isAgg304
 z139 := Tryz.sizeOf304
 v139 := Tryz.zeroValue304
 g3 := by kernel_rfl
 g4 := by kernel_rfl }
open Go.RowKit in
theorem Tryz.strings_Trim_one (s : ByteArray) (c : UInt8) (hc : c.toNat < 128) (w : World) (hs : s.size ≤ 9223372036854775807) :
 Calls Tryz.prog 150 #[.string s, .string ⟨#[c]⟩] w fun e w' => e = .returned (.string ⟨(Lib.trimB s.data.toList c).toArray⟩) ∧ (w' = w ∨ w' = w.drew) := Any.strings_Trim_one Tryz.lays160 s c hc w hs
open Go.RowKit in
theorem Tryz.Builder_String_any_k (B b : Nat) (l : List UInt8) (w : World) (h : Lib.IsBuilderF 138 5 B b (Lib.byteCells l) w) (hBw : B ≤ w.heap.size) :
 Calls Tryz.prog 77 #[.pointer (some ⟨b, 0, none⟩)] w fun e w' => e = .returned (.string ⟨l.toArray⟩) ∧ (Lib.IsBuilderF 138 5 B b (Lib.byteCells l) w' ∧ Below B w w' ∧ Lib.OthersKept 5 (some b) w w') := Any.Builder_String_any_k Tryz.lays169 Tryz.Builder_Extra_169 B b l w h hBw
def Tryz.laysM171_ren : Go.Shelf.Ren := ⟨fun | 171 => 52 | 243 => 91 | 246 => 128 | 283 => 154 | 284 => 155 | 285 => 156 | 286 => 157 | 129 => 170 | 317 => 191 | 318 => 192 | 319 => 193 | 320 => 194 | 337 => 222 | 338 => 223 | n => n, fun | 3 => 3 | 9 => 9 | 2 => 2 | 4 => 4 | 171 => 227 | 0 => 0 | 53 => 177 | 37 => 136 | 5 => 5 | 173 => 230 | 212 => 268 | 51 => 171 | 20 => 20 | 213 => 269 | 46 => 48 | 232 => 299 | 233 => 300 | n => n, fun | 17 => 0 | 18 => 1 | 19 => 2 | n => n⟩
theorem Tryz.laysM171 : Go.Proofs.LaysM.n171 Tryz.prog Tryz.laysM171_ren := {
 mixed := by kernel_rfl
 f129 := Tryz.func170.trans (congrArg some (by kernel_rfl))
 f171 := Tryz.func52.trans (congrArg some (by kernel_rfl))
 f243 := Tryz.func91.trans (congrArg some (by kernel_rfl))
 f246 := Tryz.func128.trans (congrArg some (by kernel_rfl))
 f283 := Tryz.func154.trans (congrArg some (by kernel_rfl))
 f284 := Tryz.func155.trans (congrArg some (by kernel_rfl))
 f285 := Tryz.func156.trans (congrArg some (by kernel_rfl))
 f286 := Tryz.func157.trans (congrArg some (by kernel_rfl))
 f317 := Tryz.func191.trans (congrArg some (by kernel_rfl))
 f318 := Tryz.func192.trans (congrArg some (by kernel_rfl))
 f319 := Tryz.func193.trans (congrArg some (by kernel_rfl))
 f320 := Tryz.func194.trans (congrArg some (by kernel_rfl))
 f337 := Tryz.func222.trans (congrArg some (by kernel_rfl))
 f338 := Tryz.func223.trans (congrArg some (by kernel_rfl))
 t0 := Tryz.underlying0
 a0 := Tryz.isAgg0
 z0 := Tryz.sizeOf0
 v0 := Tryz.zeroValue0
 t2 := Tryz.underlying2
 a2 := Tryz.isAgg2
 z2 := Tryz.sizeOf2
 v2 := Tryz.zeroValue2
 t3 := Tryz.underlying3
 a3 := Tryz.isAgg3
 z3 := Tryz.sizeOf3
 v3 := Tryz.zeroValue3
 t4 := Tryz.underlying4
 a4 := Tryz.isAgg4
 z4 := Tryz.sizeOf4
 v4 := Tryz.zeroValue4
 t5 := Tryz.underlying5
 a5 := Tryz.isAgg5
 z5 := Tryz.sizeOf5
 v5 := Tryz.zeroValue5
 t9 := Tryz.underlying9
 a9 := Tryz.isAgg9
 z9 := Tryz.sizeOf9
 v9 := Tryz.zeroValue9
 t20 := Tryz.underlying20
 a20 := Tryz.isAgg20
 z20 := Tryz.sizeOf20
 v20 := Tryz.zeroValue20
 t37 := Tryz.underlying136
 a37 := Tryz.isAgg136
 z37 := Tryz.sizeOf136
 v37 := Tryz.zeroValue136
 t46 := Tryz.underlying48
 a46 := Tryz.isAgg48
 z46 := Tryz.sizeOf48
 v46 := Tryz.zeroValue48
 t51 := Tryz.underlying171
 a51 := Tryz.isAgg171
 z51 := Tryz.sizeOf171
 v51 := Tryz.zeroValue171
 t53 := Tryz.underlying177
 a53 := Tryz.isAgg177
 z53 := Tryz.sizeOf177
 v53 := Tryz.zeroValue177
 t171 := Tryz.underlying227
 a171 := Tryz.isAgg227
 z171 := Tryz.sizeOf227
 v171 := Tryz.zeroValue227
 t173 := Tryz.underlying230
 a173 := Tryz.isAgg230
 z173 := Tryz.sizeOf230
 v173 := Tryz.zeroValue230
 t212 := Tryz.underlying268
 a212 := Tryz.isAgg268
 z212 := Tryz.sizeOf268
 v212 := Tryz.zeroValue268
 t213 := Tryz.underlying269
 a213 := Tryz.isAgg269
 z213 := Tryz.sizeOf269
 t232 := Tryz.underlying299
 a232 := Tryz.isAgg299
 z232 := Tryz.sizeOf299
 v232 := Tryz.zeroValue299
 t233 := Tryz.underlying300
 a233 := Tryz.isAgg300
 z233 := Tryz.sizeOf300
 v233 := Tryz.zeroValue300
 g17 := by kernel_rfl
 g18 := by kernel_rfl
 g19 := by kernel_rfl
 i0 := by kernel_rfl
 i2 := by kernel_rfl
 i3 := by kernel_rfl
 i4 := by kernel_rfl
 i5 := by kernel_rfl
 i9 := by kernel_rfl
 i20 := by kernel_rfl
 i37 := by kernel_rfl
 i46 := by kernel_rfl
 i51 := by kernel_rfl
 i53 := by kernel_rfl
 i171 := by kernel_rfl
 i173 := by kernel_rfl
 i212 := by kernel_rfl
 i232 := by kernel_rfl
 i233 := by kernel_rfl
 m17 := by kernel_rfl
 m18 := by kernel_rfl
 m19 := by kernel_rfl }
open Go.RowKit Go.Sort Go.Lib in
theorem Tryz.strconv_Itoa (n : Int) (h0 : -9223372036854775808 ≤ n) (h1 : n ≤ 9223372036854775807) (w : World) (htab : Lib.TabIs Tryz.prog w "internal/strconv.uint64pow10" .u64 Lib.pow10Tab) :
 Calls Tryz.prog 52 #[.int .i64 n] w fun e w' => e = .returned (.string ⟨(Lib.itoa n).toArray⟩) ∧ ∃ k os, w' = grow (w.drewN k) os := Any.strconv_Itoa Tryz.laysM171 n h0 h1 w htab
def Tryz.lays264_ren : Go.Shelf.Ren := ⟨fun | 264 => 174 | n => n, fun | 53 => 177 | 46 => 48 | n => n, fun | n => n⟩
theorem Tryz.lays264 : Go.Proofs.Lays.n264 Tryz.prog Tryz.lays264_ren := {
 mixed := by kernel_rfl
 f264 := Tryz.func174.trans (congrArg some (by kernel_rfl))
 t46 := Tryz.underlying48
 a46 := Tryz.isAgg48
 z46 := Tryz.sizeOf48
 v46 := Tryz.zeroValue48
 t53 := Tryz.underlying177
 a53 := Tryz.isAgg177
 z53 := Tryz.sizeOf177
 v53 := Tryz.zeroValue177 }
open Go.RowKit Go.Lib in
theorem Tryz.bits_Mul64 (x y : Nat) (hx : x < 18446744073709551616) (hy : y < 18446744073709551616) (w : World) :
 Calls Tryz.prog 174 #[.int .u64 x, .int .u64 y] w fun e w' => e = .returned (.tuple #[.int .u64 ((x * y / 18446744073709551616 : Nat) : Int), .int .u64 ((x * y % 18446744073709551616 : Nat) : Int)]) ∧ w' = w := Any.bits_Mul64 Tryz.lays264 x y hx hy w
def Tryz.laysSlM5_f94_ren : Go.Shelf.Ren := ⟨fun | 5 => 94 | 8 => 133 | 7 => 132 | 19 => 169 | 20 => 170 | 10 => 160 | 11 => 161 | 12 => 162 | 13 => 163 | 14 => 164 | 15 => 165 | 16 => 166 | 17 => 167 | 18 => 168 | 30 => 196 | 31 => 197 | 32 => 198 | 33 => 199 | 34 => 200 | 35 => 201 | 40 => 224 | n => n, fun | 23 => 54 | 25 => 3 | 3 => 3 | 32 => 48 | 22 => 54 | 0 => 0 | 44 => 171 | 46 => 177 | 4 => 4 | 36 => 234 | 35 => 233 | 41 => 239 | 5 => 5 | 9 => 9 | 53 => 271 | 57 => 275 | 63 => 292 | 64 => 293 | n => n, fun | n => n⟩
theorem Tryz.laysSlM5_f94 : Go.Proofs.SlLaysM.n5 Tryz.prog Tryz.laysSlM5_f94_ren := {
 mixed := by kernel_rfl
 f5 := ⟨Tryz.f94.name, by decide, Tryz.func94.trans (congrArg some (by kernel_rfl))⟩
 f7 := ⟨Tryz.f132.name, by decide, Tryz.func132.trans (congrArg some (by kernel_rfl))⟩
 f8 := Tryz.func133.trans (congrArg some (by kernel_rfl))
 f10 := ⟨Tryz.f160.name, by decide, Tryz.func160.trans (congrArg some (by kernel_rfl))⟩
 f11 := ⟨Tryz.f161.name, by decide, Tryz.func161.trans (congrArg some (by kernel_rfl))⟩
 f12 := ⟨Tryz.f162.name, by decide, Tryz.func162.trans (congrArg some (by kernel_rfl))⟩
 f13 := ⟨Tryz.f163.name, by decide, Tryz.func163.trans (congrArg some (by kernel_rfl))⟩
 f14 := ⟨Tryz.f164.name, by decide, Tryz.func164.trans (congrArg some (by kernel_rfl))⟩
 f15 := ⟨Tryz.f165.name, by decide, Tryz.func165.trans (congrArg some (by kernel_rfl))⟩
 f16 := ⟨Tryz.f166.name, by decide, Tryz.func166.trans (congrArg some (by kernel_rfl))⟩
 f17 := ⟨Tryz.f167.name, by decide, Tryz.func167.trans (congrArg some (by kernel_rfl))⟩
 f18 := ⟨Tryz.f168.name, by decide, Tryz.func168.trans (congrArg some (by kernel_rfl))⟩
 f19 := Tryz.func169.trans (congrArg some (by kernel_rfl))
 f20 := Tryz.func170.trans (congrArg some (by kernel_rfl))
 f30 := ⟨Tryz.f196.name, by decide, Tryz.func196.trans (congrArg some (by kernel_rfl))⟩
 f31 := Tryz.func197.trans (congrArg some (by kernel_rfl))
 f32 := Tryz.func198.trans (congrArg some (by kernel_rfl))
 f33 := ⟨Tryz.f199.name, by decide, Tryz.func199.trans (congrArg some (by kernel_rfl))⟩
 f34 := ⟨Tryz.f200.name, by decide, Tryz.func200.trans (congrArg some (by kernel_rfl))⟩
 f35 := ⟨Tryz.f201.name, by decide, Tryz.func201.trans (congrArg some (by kernel_rfl))⟩
 f40 := ⟨Tryz.f224.name, by decide, Tryz.func224.trans (congrArg some (by kernel_rfl))⟩
 t0 := Tryz.underlying0
 a0 := Tryz.isAgg0
 z0 := Tryz.sizeOf0
 v0 := Tryz.zeroValue0
 t3 := Tryz.underlying3
 a3 := Tryz.isAgg3
 z3 := Tryz.sizeOf3
 v3 := Tryz.zeroValue3
 t4 := Tryz.underlying4
 a4 := Tryz.isAgg4
 z4 := Tryz.sizeOf4
 v4 := Tryz.zeroValue4
 t5 := Tryz.underlying5
 a5 := Tryz.isAgg5
 z5 := Tryz.sizeOf5
 v5 := Tryz.zeroValue5
 t9 := Tryz.underlying9
 a9 := Tryz.isAgg9
 z9 := Tryz.sizeOf9
 v9 := Tryz.zeroValue9
 t22 := Tryz.underlying54
 a22 := Tryz.isAgg54
 z22 := Tryz.sizeOf54
 v22 := Tryz.zeroValue54
 t23 := Tryz.underlying54
 a23 := Tryz.isAgg54
 z23 := Tryz.sizeOf54
 v23 := Tryz.zeroValue54
 t25 := Tryz.underlying3
 a25 := Tryz.isAgg3
 z25 := Tryz.sizeOf3
 v25 := Tryz.zeroValue3
 t32 := Tryz.underlying48
 a32 := Tryz.isAgg48
 z32 := Tryz.sizeOf48
 v32 := Tryz.zeroValue48
 t35 := Tryz.underlying233
 a35 := Tryz.isAgg233
 z35 := Tryz.sizeOf233
 v35 := Tryz.zeroValue233
 t36 := Tryz.underlying234
 a36 := Tryz.isAgg234
 z36 := Tryz.sizeOf234
 v36 := Tryz.zeroValue234
 t41 := Tryz.underlying239
 a41 := Tryz.isAgg239
 z41 := Tryz.sizeOf239
 v41 := Tryz.zeroValue239
 t44 := Tryz.underlying171
 a44 := Tryz.isAgg171
 z44 := Tryz.sizeOf171
 v44 := Tryz.zeroValue171
 t46 := Tryz.underlying177
 a46 := Tryz.isAgg177
 z46 := Tryz.sizeOf177
 v46 := Tryz.zeroValue177
 t53 := Tryz.underlying271
 a53 := Tryz.isAgg271
 z53 := Tryz.sizeOf271
 v53 := Tryz.zeroValue271
 t57 := Tryz.underlying275
 a57 := Tryz.isAgg275
 z57 := Tryz.sizeOf275
 v57 := Tryz.zeroValue275
 t63 := Tryz.underlying292
 a63 := Tryz.isAgg292
 z63 := Tryz.sizeOf292
 v63 := Tryz.zeroValue292
 t64 := Tryz.underlying293
 a64 := Tryz.isAgg293
 z64 := Tryz.sizeOf293
 v64 := Tryz.zeroValue293 }
open Go.Sort Go.RowKit in
theorem Tryz.slices_Sort_int (blk off cap : Nat) (zs : List Int) (w : World) (hH : Holds (Value.int .i64) w blk off zs.toArray) (hblk : blk < w.heap.size) (hsz : zs.length < 4611686018427387904) :
 Calls Tryz.prog 94 #[.slice (some ⟨blk, off, none⟩) zs.length cap] w fun e w' =>
  e = .returned (.tuple #[]) ∧ ∃ n os, w' = grow (putRow (Value.int .i64) (Sort.ahead w n) blk off (zs.mergeSort fun x y => decide (x ≤ y)).toArray) os := AnyM.slices_Sort_int Tryz.laysSlM5_f94 blk off cap zs w hH hblk hsz
def Tryz.laysSlM6_f152_ren : Go.Shelf.Ren := ⟨fun | 6 => 152 | 8 => 133 | 9 => 190 | 19 => 169 | 20 => 170 | 21 => 213 | 22 => 214 | 23 => 215 | 24 => 216 | 25 => 217 | 26 => 218 | 27 => 219 | 28 => 220 | 29 => 221 | 36 => 229 | 31 => 197 | 32 => 198 | 37 => 230 | 38 => 231 | 39 => 232 | 41 => 237 | n => n, fun | 27 => 60 | 29 => 9 | 3 => 3 | 32 => 48 | 26 => 60 | 0 => 0 | 44 => 171 | 46 => 177 | 4 => 4 | 36 => 234 | 35 => 233 | 41 => 239 | 5 => 5 | 9 => 9 | 53 => 271 | 57 => 275 | 63 => 292 | 64 => 293 | n => n, fun | n => n⟩
theorem Tryz.laysSlM6_f152 : Go.Proofs.SlLaysM.n6 Tryz.prog Tryz.laysSlM6_f152_ren := {
 mixed := by kernel_rfl
 f6 := ⟨Tryz.f152.name, by decide, Tryz.func152.trans (congrArg some (by kernel_rfl))⟩
 f8 := Tryz.func133.trans (congrArg some (by kernel_rfl))
 f9 := ⟨Tryz.f190.name, by decide, Tryz.func190.trans (congrArg some (by kernel_rfl))⟩
 f19 := Tryz.func169.trans (congrArg some (by kernel_rfl))
 f20 := Tryz.func170.trans (congrArg some (by kernel_rfl))
 f21 := ⟨Tryz.f213.name, by decide, Tryz.func213.trans (congrArg some (by kernel_rfl))⟩
 f22 := ⟨Tryz.f214.name, by decide, Tryz.func214.trans (congrArg some (by kernel_rfl))⟩
 f23 := ⟨Tryz.f215.name, by decide, Tryz.func215.trans (congrArg some (by kernel_rfl))⟩
 f24 := ⟨Tryz.f216.name, by decide, Tryz.func216.trans (congrArg some (by kernel_rfl))⟩
 f25 := ⟨Tryz.f217.name, by decide, Tryz.func217.trans (congrArg some (by kernel_rfl))⟩
 f26 := ⟨Tryz.f218.name, by decide, Tryz.func218.trans (congrArg some (by kernel_rfl))⟩
 f27 := ⟨Tryz.f219.name, by decide, Tryz.func219.trans (congrArg some (by kernel_rfl))⟩
 f28 := ⟨Tryz.f220.name, by decide, Tryz.func220.trans (congrArg some (by kernel_rfl))⟩
 f29 := ⟨Tryz.f221.name, by decide, Tryz.func221.trans (congrArg some (by kernel_rfl))⟩
 f31 := Tryz.func197.trans (congrArg some (by kernel_rfl))
 f32 := Tryz.func198.trans (congrArg some (by kernel_rfl))
 f36 := ⟨Tryz.f229.name, by decide, Tryz.func229.trans (congrArg some (by kernel_rfl))⟩
 f37 := ⟨Tryz.f230.name, by decide, Tryz.func230.trans (congrArg some (by kernel_rfl))⟩
 f38 := ⟨Tryz.f231.name, by decide, Tryz.func231.trans (congrArg some (by kernel_rfl))⟩
 f39 := ⟨Tryz.f232.name, by decide, Tryz.func232.trans (congrArg some (by kernel_rfl))⟩
 f41 := ⟨Tryz.f237.name, by decide, Tryz.func237.trans (congrArg some (by kernel_rfl))⟩
 t0 := Tryz.underlying0
 a0 := Tryz.isAgg0
 z0 := Tryz.sizeOf0
 v0 := Tryz.zeroValue0
 t3 := Tryz.underlying3
 a3 := Tryz.isAgg3
 z3 := Tryz.sizeOf3
 v3 := Tryz.zeroValue3
 t4 := Tryz.underlying4
 a4 := Tryz.isAgg4
 z4 := Tryz.sizeOf4
 v4 := Tryz.zeroValue4
 t5 := Tryz.underlying5
 a5 := Tryz.isAgg5
 z5 := Tryz.sizeOf5
 v5 := Tryz.zeroValue5
 t9 := Tryz.underlying9
 a9 := Tryz.isAgg9
 z9 := Tryz.sizeOf9
 v9 := Tryz.zeroValue9
 t26 := Tryz.underlying60
 a26 := Tryz.isAgg60
 z26 := Tryz.sizeOf60
 v26 := Tryz.zeroValue60
 t27 := Tryz.underlying60
 a27 := Tryz.isAgg60
 z27 := Tryz.sizeOf60
 v27 := Tryz.zeroValue60
 t29 := Tryz.underlying9
 a29 := Tryz.isAgg9
 z29 := Tryz.sizeOf9
 v29 := Tryz.zeroValue9
 t32 := Tryz.underlying48
 a32 := Tryz.isAgg48
 z32 := Tryz.sizeOf48
 v32 := Tryz.zeroValue48
 t35 := Tryz.underlying233
 a35 := Tryz.isAgg233
 z35 := Tryz.sizeOf233
 v35 := Tryz.zeroValue233
 t36 := Tryz.underlying234
 a36 := Tryz.isAgg234
 z36 := Tryz.sizeOf234
 v36 := Tryz.zeroValue234
 t41 := Tryz.underlying239
 a41 := Tryz.isAgg239
 z41 := Tryz.sizeOf239
 v41 := Tryz.zeroValue239
 t44 := Tryz.underlying171
 a44 := Tryz.isAgg171
 z44 := Tryz.sizeOf171
 v44 := Tryz.zeroValue171
 t46 := Tryz.underlying177
 a46 := Tryz.isAgg177
 z46 := Tryz.sizeOf177
 v46 := Tryz.zeroValue177
 t53 := Tryz.underlying271
 a53 := Tryz.isAgg271
 z53 := Tryz.sizeOf271
 v53 := Tryz.zeroValue271
 t57 := Tryz.underlying275
 a57 := Tryz.isAgg275
 z57 := Tryz.sizeOf275
 v57 := Tryz.zeroValue275
 t63 := Tryz.underlying292
 a63 := Tryz.isAgg292
 z63 := Tryz.sizeOf292
 v63 := Tryz.zeroValue292
 t64 := Tryz.underlying293
 a64 := Tryz.isAgg293
 z64 := Tryz.sizeOf293
 v64 := Tryz.zeroValue293 }
open Go.Sort Go.RowKit in
theorem Tryz.slices_Sort_string (blk off cap : Nat) (ss : List (List UInt8)) (w : World) (hH : Holds encStr w blk off ss.toArray) (hblk : blk < w.heap.size) (hsz : ss.length < 4611686018427387904) :
 Calls Tryz.prog 152 #[.slice (some ⟨blk, off, none⟩) ss.length cap] w fun e w' =>
  e = .returned (.tuple #[]) ∧ ∃ n os, w' = grow (putRow encStr (Sort.ahead w n) blk off (ss.mergeSort fun x y => decide (x ≤ y)).toArray) os := AnyM.slices_Sort_string Tryz.laysSlM6_f152 blk off cap ss w hH hblk hsz
open Go.RowKit Go.Sort in
theorem Tryz.slices_Sort_string_none (p : Option Addr) (cap : Nat) (w : World) :
 Calls Tryz.prog 152 #[.slice p 0 cap] w fun e w' => e = .returned (.tuple #[]) ∧ w' = w := AnyM.slices_Sort_string_none Tryz.laysSlM6_f152 p cap w
end Go.Proofs
namespace Go.Proofs.YtnbkhdbligjifaaGreatDoor
open Go.RowKit
def Bld (B b : Nat) (l : List UInt8) (w : World) : Prop := Lib.IsBuilderF 138 5 B b (Lib.byteCells l) w
def BKept (b : Nat) (w w' : World) : Prop := Lib.OthersKept 5 (some b) w w'
theorem info5 : (Tryz.prog.info? 5).map (fun i => (i.zero, i.size, i.bytes)) = some (some (.int .u8 0), 1, 1) := by kernel_rfl
theorem bsize : (Tryz.prog.info? 138).map (·.size) = some 2 := by kernel_rfl
theorem blies : liesAt Tryz.prog Tryz.prog.depth 138 (2 / Tryz.prog.cellsOf 138) 0 138 1 = true := by kernel_rfl
theorem bne : (138 : TypeId) ≠ 5 := by decide
theorem check_any (B b : Nat) (bs : List Value) (w : World) (h : Lib.IsBuilderF 138 5 B b bs w) :
 Calls Tryz.prog 105 #[.pointer (some ⟨b, 0, none⟩)] w fun e w' =>
  e = .returned (.tuple #[]) ∧ Lib.BuilderAtF 138 5 B b (.pointer (some ⟨b, 0, none⟩)) bs w' ∧ Below B w w' ∧ BKept b w w' ∧ ∀ k, k ≠ b → w'.heap[k]? = w.heap[k]? := by
 obtain ⟨j, hj, hjs⟩ := Option.map_eq_some_iff.1 bsize
 rcases h with h | h
 ·have h0 := h.cell0
  have hf := h.frozen0
  go_enter Tryz.func105, Tryz.ntmps105
  go_wp2
  rw [Lib.run_to_unsafe w ⟨b, 0, none⟩ Tryz.underlying135 Tryz.underlying219 hj (by rw [hjs]; decide) h.shape (Nat.zero_lt_succ 1)]
  simp only [Result.andThen]
  rw [Oper.upon_value]
  go_wp2
  rw [run_callFunc_extern Tryz.func146 (by kernel_rfl) (by kernel_rfl) (by kernel_rfl) (e := Extern.AbiNoEscape.same) (by kernel_rfl), Lib.run_noEscape]
  simp only [Result.andThen]
  rw [Oper.upon_value]
  go_wp2
  rw [Lib.run_from_unsafe w ⟨b, 0, none⟩ Tryz.underlying219 Tryz.underlying135 hj h.shape blies]
  simp only [Result.andThen]
  rw [Oper.upon_value]
  go_wp2
  go_end0
  exact ⟨rfl, h.used _, (Below.refl B w).setCell (p := ⟨b, 0, none⟩) h.1 _, (Lib.OthersKept.refl _ _ w).setCell ⟨b, 0, none⟩ rfl _, fun k hk => Below.heap_setCell _ _ _ _ hk⟩
 ·have h0 := h.cell0
  go_enter Tryz.func105, Tryz.ntmps105
  go_wp2
  rw [Lib.run_neq_ptr_same w _ Tryz.underlying135 hj]
  go_wp2
  go_end0
  exact ⟨rfl, h, Below.refl B _, Lib.OthersKept.refl _ _ _, fun _ _ => rfl⟩
theorem bput {B b : Nat} {w w1 w2 : World} {v v' : Value} {bs bs' : List Value} (hBw : B ≤ w.heap.size) (hB : B ≤ b) (hb1 : Below B w w1) (hk1 : BKept b w w1)
 (hbk : w1.heap[b]? = some (.cells #[.pointer (some ⟨b, 0, none⟩), v] 138 (0, 0))) (hown : w1.ownsRowF B 5 1 v bs.length bs) (hg : w1.grownBy w2 v.ownBlock) (hown' : w2.ownsRowF B 5 1 v' bs'.length bs') :
 Lib.IsBuilderF 138 5 B b bs' (w2.setCell ⟨b, 1, none⟩ v') ∧ Below B w (w2.setCell ⟨b, 1, none⟩ v') ∧ BKept b w (w2.setCell ⟨b, 1, none⟩ v') := by
 have hlt : b < w1.heap.size := by
  rcases Nat.lt_or_ge b w1.heap.size with h | h
  ·exact h
  ·rw [Array.getElem?_eq_none h] at hbk; cases hbk
 have hb2 : w2.heap[b]? = some (.cells #[.pointer (some ⟨b, 0, none⟩), v] 138 (0, 0)) :=
  (hg.block b hlt (fun e => Lib.ownBlock_neF hown hbk bne e.symm)).trans hbk
 refine ⟨.inr (Lib.BuilderAtF.put hB hb2 hown' bne), ?_, ?_⟩
 ·exact (hb1.grown hg (by have := hb1.size; omega) (fun k hk => (hown.lt k hk).1)).setCell (p := ⟨b, 1, none⟩) hB _
 ·exact (Lib.OthersKept.grown hk1 hg (Lib.ownsRowF_kind hown)).setCell ⟨b, 1, none⟩ rfl _
theorem ownF_slice {w : World} {base n : Nat} {e : TypeId} {v : Value} {xs : List Value} (h : w.ownsRowF base e 1 v n xs) : ∃ A c, v = .slice A n c := by
 rcases h.2 with ⟨rfl, rfl⟩ | ⟨g, c, _, _, rfl, _⟩
 ·exact ⟨_, _, rfl⟩
 ·exact ⟨_, _, rfl⟩
theorem wstring_any (B b : Nat) (l : List UInt8) (s : ByteArray) (w : World) (h : Bld B b l w) (hlen : l.length + s.size ≤ 140737488355328) (hBw : B ≤ w.heap.size) :
 Calls Tryz.prog 74 #[.pointer (some ⟨b, 0, none⟩), .string s] w fun e w' =>
  (∃ v, e = .returned v) ∧ Bld B b (l ++ s.data.toList) w' ∧ Below B w w' ∧ BKept b w w' := by
 obtain ⟨i0, hi, hz0, hz1, hz2⟩ := info_parts info5
 have hl := Lib.byteCells_length l
 go_enter Tryz.func74, Tryz.ntmps74
 go_wp2_with (go_at_call 105; refine (check_any B b _ _ h).mono ?_)
 rintro e w1 ⟨rfl, ⟨hB, v, hbk, hown, hne⟩, hb1, hk1, _⟩
 have c0 : w1.cell? ⟨b, 0, none⟩ = some (.pointer (some ⟨b, 0, none⟩)) := by rw [Lib.cell_of_heap hbk]; rfl
 have c1 : w1.cell? ⟨b, 1, none⟩ = some v := by rw [Lib.cell_of_heap hbk]; rfl
 go_wp2_with (at_builtin; refine Lib.wpList_append_own_stringF _ rfl _ _ 136 9 rfl B 5 i0 Tryz.underlying136 Tryz.underlying9 hi hz0 hz1 hz2 _ _ _ rfl hown s rfl ?c3 ?c4 ?c5 ?_)
 case c3 => rw [hl]; unfold maxLen; omega
 case c4 => rw [hl]; omega
 case c5 => have := hb1.size; omega
 intro v' w2 hown' hgrow _
 have hlt : b < w1.heap.size := by
  rcases Nat.lt_or_ge b w1.heap.size with h | h
  ·exact h
  ·rw [Array.getElem?_eq_none h] at hbk; cases hbk
 have hb2 := (hgrow.block b hlt (fun e => hne e.symm)).trans hbk
 have d1 : w2.cell? ⟨b, 1, none⟩ = some v := by rw [Lib.cell_of_heap hb2]; rfl
 have f1 : w2.frozen? ⟨b, 1, none⟩ = false := Lib.frozen_of_heap hb2 1
 have hP := bput (bs' := Lib.byteCells (l ++ s.data.toList)) hBw hB hb1 hk1 hbk hown hgrow (by rw [Lib.byteCells_append]; simpa [Lib.strCells_eq, Lib.byteCells_length] using hown')
 obtain ⟨ao, cap, rfl⟩ := ownF_slice hown'
 go_wp2
 go_ret2
 exact ⟨⟨_, rfl⟩, hP⟩
theorem wbyte_any (B b : Nat) (l : List UInt8) (c : UInt8) (w : World) (h : Bld B b l w) (hlen : l.length + 1 ≤ 140737488355328) (hBw : B ≤ w.heap.size) :
 Calls Tryz.prog 90 #[.pointer (some ⟨b, 0, none⟩), .int .u8 (c.toNat : Int)] w fun e w' =>
  e = .returned .nilIface ∧ Bld B b (l ++ [c]) w' ∧ Below B w w' ∧ BKept b w w' := by
 obtain ⟨i0, hi, hz0, hz1, hz2⟩ := info_parts info5
 have hl := Lib.byteCells_length l
 go_enter Tryz.func90, Tryz.ntmps90
 go_wp2_with (go_at_call 105; refine (check_any B b _ _ h).mono ?_)
 rintro e w1 ⟨rfl, ⟨hB, v, hbk, hown, hne⟩, hb1, hk1, _⟩
 have hlt : b < w1.heap.size := by
  rcases Nat.lt_or_ge b w1.heap.size with h | h
  ·exact h
  ·rw [Array.getElem?_eq_none h] at hbk; cases hbk
 have c0 : w1.cell? ⟨b, 0, none⟩ = some (.pointer (some ⟨b, 0, none⟩)) := by rw [Lib.cell_of_heap hbk]; rfl
 have c1 : w1.cell? ⟨b, 1, none⟩ = some v := by rw [Lib.cell_of_heap hbk]; rfl
 go_wp2_with (at_builtin; refine wpList_append_ownF _ rfl _ _ 136 rfl B 5 i0 (.int .u8 0) 1 1 Tryz.underlying136 hi hz0 hz1 hz2 rfl (by decide) _ _ _ rfl (hown.alloc _) ⟨w1.heap.size, 0, none⟩ 1 1 [.int .u8 (c.toNat : Int)] rfl rfl (cell_one_new _ _ _) (by simp [Value.oneCell']) (by rw [hl]; unfold maxLen; omega) (by rw [hl]; omega) (by have := hb1.size; simp; omega) ?_)
 intro v' w2 hown' hgrow _
 have hb3 := (Lib.alloc_old w1 (.cells #[.int .u8 (c.toNat : Int)] 5) b hlt).trans hbk
 have hb2 := (hgrow.block b (by simp; omega) (fun e => hne e.symm)).trans hb3
 have d1 : w2.cell? ⟨b, 1, none⟩ = some v := by rw [Lib.cell_of_heap hb2]; rfl
 have f1 : w2.frozen? ⟨b, 1, none⟩ = false := Lib.frozen_of_heap hb2 1
 have hP := bput (bs' := Lib.byteCells (l ++ [c])) hBw hB (hb1.alloc (by have := hb1.size; omega) _) (Lib.OthersKept.alloc hk1 _) hb3 (hown.alloc _) hgrow (by rw [Lib.byteCells_append]; simpa [Lib.byteCells] using hown')
 obtain ⟨ao, cap, rfl⟩ := ownF_slice hown'
 go_wp2
 go_ret
 exact ⟨rfl, hP⟩
theorem text_any (B b : Nat) (l : List UInt8) (w : World) (h : Bld B b l w) (hBw : B ≤ w.heap.size) :
 Calls Tryz.prog 77 #[.pointer (some ⟨b, 0, none⟩)] w fun e w' =>
  e = .returned (.string ⟨l.toArray⟩) ∧ Bld B b l w' ∧ Below B w w' ∧ BKept b w w' :=
 Tryz.Builder_String_any_k B b l w h hBw
theorem Bld.new (w : World) : Bld w.heap.size w.heap.size [] (w.alloc (.cells #[.pointer none, .slice none 0 0] 138)) :=
 Lib.IsBuilderF.of (Lib.fresh_isBuilder _ _ w)
end Go.Proofs.YtnbkhdbligjifaaGreatDoor
namespace Go.Proofs.YtnbkhdbligjifaaGreatDoor
open Go.RowKit
namespace Shd
theorem digits_at (x : Nat) (h : x < 16) (h' : x < (⟨#[48, 49, 50, 51, 52, 53, 54, 55, 56, 57, 97, 98, 99, 100, 101, 102]⟩ : ByteArray).size) : (⟨#[48, 49, 50, 51, 52, 53, 54, 55, 56, 57, 97, 98, 99, 100, 101, 102]⟩ : ByteArray)[x] = hexd x := by
 have hc : x = 0 ∨ x = 1 ∨ x = 2 ∨ x = 3 ∨ x = 4 ∨ x = 5 ∨ x = 6 ∨ x = 7 ∨ x = 8 ∨ x = 9 ∨ x = 10 ∨ x = 11 ∨ x = 12 ∨ x = 13 ∨ x = 14 ∨ x = 15 := by omega
 rcases hc with rfl | rfl | rfl | rfl | rfl | rfl | rfl | rfl | rfl | rfl | rfl | rfl | rfl | rfl | rfl | rfl <;> rfl
theorem hex_any (s : ByteArray) (hs : s.size ≤ 70368744177664) (w : World) :
 Calls Tryz.prog 51 #[.string s] w fun e w' => e = .returned (.string ⟨(hexL s.data.toList).toArray⟩) ∧ Below w.heap.size w w' := by
 go_enter Tryz.func51, Tryz.ntmps51
 go_wp2_with fail
 have hB0 := Bld.new w
 have hb0 : Below w.heap.size w (w.alloc (.cells #[.pointer none, .slice none 0 0] 138)) := (Below.refl _ _).alloc (Nat.le_refl _) _
 obtain ⟨b, hb⟩ : ∃ b, b = w.heap.size := ⟨_, rfl⟩
 rw [← hb] at hB0 hb0 ⊢
 have hs0 : b < (w.alloc (.cells #[.pointer none, .slice none 0 0] 138)).heap.size := by simp; omega
 generalize (w.alloc (.cells #[.pointer none, .slice none 0 0] 138)) = w0 at *
 have HB := Lib.hid hb
 have hwb : w.heap.size ≤ b := by omega
 clear hb
 go_loopw [4, 7] (fun _ i wr => ∃ k : Nat, k ≤ s.size ∧ i = .int .i64 (k : Int) ∧ Bld b b (hexL (s.data.toList.take k)) wr ∧ Below b w wr ∧ b < wr.heap.size) (fun _ i _ => s.size - (intOf i).toNat)
 case atStart => exact ⟨0, by omega, rfl, hB0, hb0, hs0⟩
 case round =>
  obtain ⟨k, hk, rfl, hB, hbl, hsz⟩ := hrel
  clear hB0 hb0
  by_cases hlt : k < s.size
  ·have hd : (k : Int) < (s.size : Int) := by omega
   have h1 : (0 : Int) ≤ (s[k].toNat : Int) / 16 := by omega
   have h2 : (s[k].toNat : Int) / 16 < 16 := by have := s[k].toNat_lt; omega
   have h3 : (0 : Int) ≤ (s[k].toNat : Int) % 16 := by omega
   have h4 : (s[k].toNat : Int) % 16 < 16 := by omega
   have hL : (hexL (s.data.toList.take k)).length ≤ 140737488355326 := by
    rw [hex_len]
    have := List.length_take_le k s.data.toList
    omega
   have hT : hexL (s.data.toList.take (k + 1)) = (hexL (s.data.toList.take k) ++ [hexd (s[k].toNat / 16)]) ++ [hexd (s[k].toNat % 16)] := by
    have e : s.data.toList.take (k + 1) = s.data.toList.take k ++ [s[k]] := by
     rw [List.take_succ_eq_append_getElem (by simpa using hlt)]; rfl
    rw [e, hex_append, List.append_assoc]; rfl
   have HT := Lib.hid hT
   clear hT
   have hs2 := s[k].toNat_lt
   go_wp2_with fail
   rw [digits_at _ (by omega)]
   generalize hexL (s.data.toList.take k) = L at *
   go_wp2_with (go_at_call 90; refine (wbyte_any b b L _ wr hB (by omega) (by omega)).mono ?_)
   rintro e w1 ⟨rfl, hB1, hb1, _⟩
   have hs1 := hb1.size
   go_wp2_with fail
   rw [digits_at _ (by omega)]
   go_wp2_with (go_at_call 90; refine (wbyte_any b b _ _ w1 hB1 (by simp; omega) (by omega)).mono ?_)
   rintro e w2 ⟨rfl, hB2, hb2, _⟩
   have hs2 := hb2.size
   go_wp2_with fail
   go_roundw
   case rel => exact ⟨k + 1, by omega, by go_num, by rw [HT.out]; exact hB2, hbl.trans (hb1.trans hb2), by omega⟩
   case measure => simp [intOf]; omega
  ·have hk' : k = s.size := by omega
   subst hk'
   rw [List.take_of_length_le (by simp)] at hB
   have hT := text_any b b (hexL s.data.toList) wr hB (by omega)
   have HT := Lib.hid hT
   clear hT hB
   go_wp2_with (go_at_call 77; refine HT.out.mono ?_)
   rintro e w6 ⟨rfl, _, hb6, _⟩
   go_wp2_with fail
   go_ret
   have hh := HB.out
   exact ⟨rfl, by rw [← hh]; exact hbl.trans hb6⟩
end Shd
end Go.Proofs.YtnbkhdbligjifaaGreatDoor
namespace Go.Proofs.YtnbkhdbligjifaaGreatDoor
open Go.RowKit
namespace Shd
def Vars (w : World) : Prop :=
 (∃ m, w.cell? ⟨5, 0, none⟩ = some (.int .i64 m)) ∧
 (∃ tp : Int, ∃ p : Int, tp = p) ∧ (∃ tp : Int, ∃ p : Int, tp = p) ∧
 Lib.TabIs Tryz.prog w "internal/strconv.uint64pow10" .u64 Lib.pow10Tab
theorem gPow : Tryz.prog.globalNamed "internal/strconv.uint64pow10" = some 0 := by kernel_rfl
theorem tab_lt {w : World} (h : Lib.TabIs Tryz.prog w "internal/strconv.uint64pow10" .u64 Lib.pow10Tab) : 0 < w.heap.size :=
 Lib.lt_of_cell (w := w) (h.cell gPow 0 (by decide))
theorem Vars.below {w w' : World} (h : Vars w) (hb : Below w.heap.size w w') : Vars w' := by
 obtain ⟨⟨m, h1⟩, ⟨t2, p2, h2⟩, ⟨t3, p3, h3⟩, h4⟩ := h
 refine ⟨⟨m, ?_⟩, ⟨t2, p2, ?_⟩, ⟨t3, p3, ?_⟩, ?_⟩
 ·exact (hb.cell (show (⟨5, 0, none⟩ : Addr).block < w.heap.size from Lib.lt_of_cell h1)).trans h1
 ·exact h2
 ·exact h3
 ·exact var?_below hb gPow (tab_lt h4) h4
theorem Vars.drewN {w : World} (h : Vars w) (n : Nat) : Vars (w.drewN n) := h.below (below_drewN (Below.refl _ _) n)
theorem Vars.alloc {w : World} (h : Vars w) (o : Obj) : Vars (w.alloc o) := h.below ((Below.refl _ _).alloc (Nat.le_refl _) _)
def I64 (n : Int) : Prop := -9223372036854775808 ≤ n ∧ n ≤ 9223372036854775807
theorem itoa_any (n : Int) (hn : I64 n) (w : World) (hv : Vars w) :
 Calls Tryz.prog 52 #[.int .i64 n] w fun e w' => e = .returned (.string ⟨(Lib.itoa n).toArray⟩) ∧ Below w.heap.size w w' := by
 refine (Tryz.strconv_Itoa n hn.1 hn.2 w hv.2.2.2).mono ?_
 rintro e w' ⟨rfl, k, os, rfl⟩
 exact ⟨rfl, Lib.below_grow _ _ (Nat.le_refl _) _ _⟩
theorem ba_append (a b : List UInt8) : (⟨a.toArray⟩ : ByteArray) ++ ⟨b.toArray⟩ = ⟨(a ++ b).toArray⟩ := by
 apply ByteArray.ext
 simp
theorem name_any (d : ByteArray) (hd : d.size ≤ 1000000) (n : Int) (hn : I64 n) (w : World) (hv : Vars w) :
 Calls Tryz.prog 19 #[.string d, .int .i64 n] w fun e w' => e = .returned (.string ⟨(nameL d.data.toList n).toArray⟩) ∧ Below w.heap.size w w' := by
 have hdl : d.data.toList.length = d.size := by simp
 have hl1 := hex_len d.data.toList
 have hl2 := itoa_le n hn.1 hn.2
 have HV := Lib.hid hv
 have HN := Lib.hid hn
 clear hv hn
 go_enter Tryz.func19, Tryz.ntmps19
 go_wp2_with (go_at_call 51; refine (hex_any d (by omega) w).mono ?_)
 rintro e w1 ⟨rfl, hb1⟩
 have HV1 := Lib.hid (HV.out.below hb1)
 go_wp2_with (go_at_call 52; refine (itoa_any n HN.out _ HV1.out).mono ?_)
 rintro e w2 ⟨rfl, hb2⟩
 go_wp2_with fail
 go_ret
 exact ⟨by rw [ba_append, ba_append]; unfold nameL; simp, hb1.trans (hb2.mono hb1.size)⟩
theorem str_toList (s : ByteArray) : s.toList = s.data.toList := by
 rw [ByteArray.toList_eq]
end Shd
end Go.Proofs.YtnbkhdbligjifaaGreatDoor
