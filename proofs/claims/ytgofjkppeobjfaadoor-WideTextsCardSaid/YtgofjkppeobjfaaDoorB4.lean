/- The parts Shelf, WideN, WideO, WideP, WideQ, TextB, MemIn, TextC of the proof, in one text. -/
import Derived.Shelf.Strings.Builder1
import Derived.Shelf.Strings.Builder2
import Derived.Shelf.Small.Bits
import Derived.Shelf.Small.Wraps
import Derived.Shelf.Strings.BuilderF
import Derived.Shelf.Strconv.Atoi
import Derived.Shelf.Strconv.Itoa0
import Derived.Shelf.Strconv.Itoa1
import Derived.Shelf.LaysM
import Derived.Shelf.Strconv.Itoa2
import Derived.Shelf.Strconv.Itoa3
import Derived.Shelf.Strings.Prefix
import Derived.Shelf.Bits.Mul64
import Derived.Shelf.Strings.Repeat
import Derived.Test.YtgofjkppeobjfaaDoorProg
import Derived.Deep.LoopGhost
import Derived.Deep.RegionHeld3
import Derived.RangeFuncNested
import Derived.RangeFuncBound
import Derived.RangeFuncCalls
import Derived.RangeFuncLeaves
import Derived.Shelf.Abstract
import Derived.Shelf.RegionOpen
import Derived.WalkKit
import Derived.OwnWalkIn
import Derived.TacticsInMore
import Derived.LoopNIn
import Derived.LoopIn
import Derived.Lib.ConvBytes
import Derived.Test.YtgofjkppeobjfaaDoorB3
set_option linter.unusedSimpArgs false
set_option linter.unusedVariables false

namespace Go.Proofs
open Go.Shelf
def Tryd.lays169_ren : Go.Shelf.Ren := ⟨fun | 169 => 59 | n => n, fun | 70 => 86 | 9 => 9 | 0 => 0 | 72 => 88 | 37 => 29 | 127 => 121 | 3 => 3 | 5 => 5 | n => n, fun | n => n⟩
theorem Tryd.lays169 : Go.Proofs.Lays.n169 Tryd.prog Tryd.lays169_ren := {
  mixed := by kernel_rfl
  f169 := Tryd.func59.trans (congrArg some (by kernel_rfl))
  t0 := Tryd.underlying0
  a0 := Tryd.isAgg0
  z0 := Tryd.sizeOf0
  v0 := Tryd.zeroValue0
  t3 := Tryd.underlying3
  a3 := Tryd.isAgg3
  z3 := Tryd.sizeOf3
  v3 := Tryd.zeroValue3
  t9 := Tryd.underlying9
  a9 := Tryd.isAgg9
  z9 := Tryd.sizeOf9
  v9 := Tryd.zeroValue9
  t37 := Tryd.underlying29
  a37 := Tryd.isAgg29
  z37 := Tryd.sizeOf29
  v37 := Tryd.zeroValue29
  t70 := Tryd.underlying86
  a70 := Tryd.isAgg86
  z70 := Tryd.sizeOf86
  v70 := Tryd.zeroValue86
  t72 := Tryd.underlying88
  a72 := Tryd.isAgg88
  z72 := Tryd.sizeOf88
  v72 := Tryd.zeroValue88
  t127 := Tryd.underlying121
  a127 := Tryd.isAgg121
  z127 := Tryd.sizeOf121
  v127 := Tryd.zeroValue121 }
theorem Tryd.Builder_Extra_169 : Builder.Extra Tryd.prog Tryd.lays169_ren := {
  sizeBuilder := by kernel_rfl
  liesBuilder := by kernel_rfl
  t5 := Tryd.underlying5
  a5 := Tryd.isAgg5
  z5 := Tryd.sizeOf5
  v5 := Tryd.zeroValue5
  infoByte := by kernel_rfl
  cellsByte := by kernel_rfl
  sizeByte := by kernel_rfl
  neB5 := by decide }
open Go.RowKit in
/-- (*strings.Builder).String: "String returns the accumulated string.": WHATEVER THE BUILDER HOLDS. (LAID: no walk: one application.) -/
theorem Tryd.Builder_String_any (B b : Nat) (l : List UInt8) (w : World) (h : Lib.IsBuilder 88 5 B b (Lib.byteCells l) w) (hBw : B ≤ w.heap.size) :
    Calls Tryd.prog 59 #[.pointer (some ⟨b, 0, none⟩)] w fun e w' => e = .returned (.string ⟨l.toArray⟩) ∧ Below B w w' := Any.Builder_String_any Tryd.lays169 Tryd.Builder_Extra_169 B b l w h hBw
def Tryd.lays133_ren : Go.Shelf.Ren := ⟨fun | 133 => 87 | 128 => 109 | n => n, fun | 51 => 79 | 3 => 3 | 4 => 4 | 46 => 91 | 5 => 5 | 9 => 9 | n => n, fun | n => n⟩
theorem Tryd.lays133 : Go.Proofs.Lays.n133 Tryd.prog Tryd.lays133_ren := {
  mixed := by kernel_rfl
  f128 := Tryd.func109.trans (congrArg some (by kernel_rfl))
  f133 := Tryd.func87.trans (congrArg some (by kernel_rfl))
  t3 := Tryd.underlying3
  a3 := Tryd.isAgg3
  z3 := Tryd.sizeOf3
  v3 := Tryd.zeroValue3
  t4 := Tryd.underlying4
  a4 := Tryd.isAgg4
  z4 := Tryd.sizeOf4
  v4 := Tryd.zeroValue4
  t5 := Tryd.underlying5
  a5 := Tryd.isAgg5
  z5 := Tryd.sizeOf5
  v5 := Tryd.zeroValue5
  t9 := Tryd.underlying9
  a9 := Tryd.isAgg9
  z9 := Tryd.sizeOf9
  v9 := Tryd.zeroValue9
  t46 := Tryd.underlying91
  a46 := Tryd.isAgg91
  z46 := Tryd.sizeOf91
  v46 := Tryd.zeroValue91
  t51 := Tryd.underlying79
  a51 := Tryd.isAgg79
  z51 := Tryd.sizeOf79
  v51 := Tryd.zeroValue79 }
/-- bits.LeadingZeros32: "LeadingZeros32 returns the number of leading zero bits in x; the result is 32 for x == 0.": IT RETURNS '32 - Lib.bitLen x'; the world is as it was. ITS CALLEE bits.Len32 IS MET BY ITS OWN CONTRACT OFF THE SHELF (lay that first): entered in place it sends the kernel out of memory. (LAID: no walk: one application.) -/
theorem Tryd.bits_LeadingZeros32 (x : Int) (w : World) (h0 : 0 ≤ x) (h1 : x ≤ 4294967295) :
    Calls Tryd.prog 87 #[.int .u32 x] w fun e w' => e = .returned (.int .i64 (32 - (Lib.bitLen x.toNat : Int))) ∧ w' = w := Any.bits_LeadingZeros32 Tryd.lays133 x w h0 h1
def Tryd.lays103_ren : Go.Shelf.Ren := ⟨fun | 103 => 45 | 210 => 76 | 206 => 98 | n => n, fun | 9 => 9 | 4 => 4 | 24 => 71 | 3 => 3 | n => n, fun | n => n⟩
theorem Tryd.lays103 : Go.Proofs.Lays.n103 Tryd.prog Tryd.lays103_ren := {
  mixed := by kernel_rfl
  f103 := Tryd.func45.trans (congrArg some (by kernel_rfl))
  f206 := Tryd.func98.trans (congrArg some (by kernel_rfl))
  f210 := Tryd.func76.trans (congrArg some (by kernel_rfl))
  t3 := Tryd.underlying3
  a3 := Tryd.isAgg3
  z3 := Tryd.sizeOf3
  v3 := Tryd.zeroValue3
  t4 := Tryd.underlying4
  a4 := Tryd.isAgg4
  z4 := Tryd.sizeOf4
  v4 := Tryd.zeroValue4
  t9 := Tryd.underlying9
  a9 := Tryd.isAgg9
  z9 := Tryd.sizeOf9
  v9 := Tryd.zeroValue9
  t24 := Tryd.underlying71
  a24 := Tryd.isAgg71
  z24 := Tryd.sizeOf71
  v24 := Tryd.zeroValue71 }
open Go.RowKit in
/-- strings.CutPrefix: "CutPrefix returns s without the provided leading prefix string and reports whether it found the prefix. If s doesn't start with prefix, CutPrefix returns s, false. If prefix is the empty string, CutPrefix returns s, true.": IT RETURNS '(Lib.trimPrefix s p, Lib.hasPrefix s p)'; the world is as it was. (LAID: no walk: one application.) -/
theorem Tryd.strings_CutPrefix (s p : ByteArray) (w : World) :
    Calls Tryd.prog 45 #[.string s, .string p] w fun e w' => e = .returned (.tuple #[.string ⟨(Lib.trimPrefix s.data.toList p.data.toList).toArray⟩, .bool (Lib.hasPrefix s.data.toList p.data.toList)]) ∧ w' = w := Any.strings_CutPrefix Tryd.lays103 s p w
def Tryd.lays172_ren : Go.Shelf.Ren := ⟨fun | 172 => 47 | 244 => 77 | 245 => 78 | 247 => 99 | 279 => 100 | 280 => 101 | 281 => 102 | 282 => 103 | 287 => 117 | 316 => 118 | 171 => 55 | 205 => 119 | 321 => 129 | 322 => 130 | 243 => 80 | 246 => 104 | 283 => 120 | 284 => 121 | 285 => 122 | 286 => 123 | 129 => 132 | 317 => 131 | 318 => 133 | 319 => 134 | 320 => 135 | 337 => 137 | 338 => 138 | n => n, fun | 9 => 9 | 3 => 3 | 75 => 75 | 76 => 76 | 4 => 4 | 5 => 5 | 167 => 135 | 37 => 29 | 0 => 0 | 85 => 136 | 2 => 2 | 168 => 138 | 53 => 65 | 175 => 154 | 46 => 91 | 210 => 158 | 127 => 121 | 145 => 175 | 143 => 173 | 21 => 21 | 171 => 160 | 173 => 163 | 212 => 177 | 51 => 79 | 20 => 20 | 213 => 178 | 232 => 182 | 233 => 183 | 80 => 40 | n => n, fun | 15 => 0 | 16 => 1 | 17 => 2 | 18 => 4 | 19 => 5 | n => n⟩
theorem Tryd.lays172 : Go.Proofs.Lays.n172 Tryd.prog Tryd.lays172_ren := {
  mixed := by kernel_rfl
  f129 := Tryd.func132.trans (congrArg some (by kernel_rfl))
  f171 := Tryd.func55.trans (congrArg some (by kernel_rfl))
  f172 := Tryd.func47.trans (congrArg some (by kernel_rfl))
  f205 := Tryd.func119.trans (congrArg some (by kernel_rfl))
  f243 := Tryd.func80.trans (congrArg some (by kernel_rfl))
  f244 := Tryd.func77.trans (congrArg some (by kernel_rfl))
  f245 := Tryd.func78.trans (congrArg some (by kernel_rfl))
  f246 := Tryd.func104.trans (congrArg some (by kernel_rfl))
  f247 := Tryd.func99.trans (congrArg some (by kernel_rfl))
  f279 := Tryd.func100.trans (congrArg some (by kernel_rfl))
  f280 := Tryd.func101.trans (congrArg some (by kernel_rfl))
  f281 := Tryd.func102.trans (congrArg some (by kernel_rfl))
  f282 := Tryd.func103.trans (congrArg some (by kernel_rfl))
  f283 := Tryd.func120.trans (congrArg some (by kernel_rfl))
  f284 := Tryd.func121.trans (congrArg some (by kernel_rfl))
  f285 := Tryd.func122.trans (congrArg some (by kernel_rfl))
  f286 := Tryd.func123.trans (congrArg some (by kernel_rfl))
  f287 := Tryd.func117.trans (congrArg some (by kernel_rfl))
  f316 := Tryd.func118.trans (congrArg some (by kernel_rfl))
  f317 := Tryd.func131.trans (congrArg some (by kernel_rfl))
  f318 := Tryd.func133.trans (congrArg some (by kernel_rfl))
  f319 := Tryd.func134.trans (congrArg some (by kernel_rfl))
  f320 := Tryd.func135.trans (congrArg some (by kernel_rfl))
  f321 := Tryd.func129.trans (congrArg some (by kernel_rfl))
  f322 := Tryd.func130.trans (congrArg some (by kernel_rfl))
  f337 := Tryd.func137.trans (congrArg some (by kernel_rfl))
  f338 := Tryd.func138.trans (congrArg some (by kernel_rfl))
  t0 := Tryd.underlying0
  a0 := Tryd.isAgg0
  z0 := Tryd.sizeOf0
  v0 := Tryd.zeroValue0
  t2 := Tryd.underlying2
  a2 := Tryd.isAgg2
  z2 := Tryd.sizeOf2
  v2 := Tryd.zeroValue2
  t3 := Tryd.underlying3
  a3 := Tryd.isAgg3
  z3 := Tryd.sizeOf3
  v3 := Tryd.zeroValue3
  t4 := Tryd.underlying4
  a4 := Tryd.isAgg4
  z4 := Tryd.sizeOf4
  v4 := Tryd.zeroValue4
  t5 := Tryd.underlying5
  a5 := Tryd.isAgg5
  z5 := Tryd.sizeOf5
  v5 := Tryd.zeroValue5
  t9 := Tryd.underlying9
  a9 := Tryd.isAgg9
  z9 := Tryd.sizeOf9
  v9 := Tryd.zeroValue9
  t20 := Tryd.underlying20
  a20 := Tryd.isAgg20
  z20 := Tryd.sizeOf20
  v20 := Tryd.zeroValue20
  t21 := Tryd.underlying21
  a21 := Tryd.isAgg21
  z21 := Tryd.sizeOf21
  v21 := Tryd.zeroValue21
  t37 := Tryd.underlying29
  a37 := Tryd.isAgg29
  z37 := Tryd.sizeOf29
  v37 := Tryd.zeroValue29
  t46 := Tryd.underlying91
  a46 := Tryd.isAgg91
  z46 := Tryd.sizeOf91
  v46 := Tryd.zeroValue91
  t51 := Tryd.underlying79
  a51 := Tryd.isAgg79
  z51 := Tryd.sizeOf79
  v51 := Tryd.zeroValue79
  t53 := Tryd.underlying65
  a53 := Tryd.isAgg65
  z53 := Tryd.sizeOf65
  v53 := Tryd.zeroValue65
  t75 := Tryd.underlying75
  a75 := Tryd.isAgg75
  z75 := Tryd.sizeOf75
  v75 := Tryd.zeroValue75
  t76 := Tryd.underlying76
  a76 := Tryd.isAgg76
  z76 := Tryd.sizeOf76
  v76 := Tryd.zeroValue76
  t85 := Tryd.underlying136
  a85 := Tryd.isAgg136
  z85 := Tryd.sizeOf136
  v85 := Tryd.zeroValue136
  t127 := Tryd.underlying121
  a127 := Tryd.isAgg121
  z127 := Tryd.sizeOf121
  v127 := Tryd.zeroValue121
  t143 := Tryd.underlying173
  a143 := Tryd.isAgg173
  z143 := Tryd.sizeOf173
  v143 := Tryd.zeroValue173
  t145 := Tryd.underlying175
  a145 := Tryd.isAgg175
  z145 := Tryd.sizeOf175
  v145 := Tryd.zeroValue175
  t167 := Tryd.underlying135
  a167 := Tryd.isAgg135
  z167 := Tryd.sizeOf135
  v167 := Tryd.zeroValue135
  t168 := Tryd.underlying138
  a168 := Tryd.isAgg138
  z168 := Tryd.sizeOf138
  v168 := Tryd.zeroValue138
  t171 := Tryd.underlying160
  a171 := Tryd.isAgg160
  z171 := Tryd.sizeOf160
  v171 := Tryd.zeroValue160
  t173 := Tryd.underlying163
  a173 := Tryd.isAgg163
  z173 := Tryd.sizeOf163
  v173 := Tryd.zeroValue163
  t175 := Tryd.underlying154
  a175 := Tryd.isAgg154
  z175 := Tryd.sizeOf154
  v175 := Tryd.zeroValue154
  t210 := Tryd.underlying158
  a210 := Tryd.isAgg158
  z210 := Tryd.sizeOf158
  v210 := Tryd.zeroValue158
  t212 := Tryd.underlying177
  a212 := Tryd.isAgg177
  z212 := Tryd.sizeOf177
  v212 := Tryd.zeroValue177
  t213 := Tryd.underlying178
  a213 := Tryd.isAgg178
  z213 := Tryd.sizeOf178
  t232 := Tryd.underlying182
  a232 := Tryd.isAgg182
  z232 := Tryd.sizeOf182
  v232 := Tryd.zeroValue182
  t233 := Tryd.underlying183
  a233 := Tryd.isAgg183
  z233 := Tryd.sizeOf183
  v233 := Tryd.zeroValue183
  g15 := by kernel_rfl
  g16 := by kernel_rfl
  g17 := by kernel_rfl
  g18 := by kernel_rfl
  g19 := by kernel_rfl }
open Go.RowKit in
/-- strconv.Atoi: "Atoi is equivalent to ParseInt(s, 10, 0), converted to type int.": AT A DECIMAL NUMERAL OF AT MOST 18 BYTES: its value, and a nil error. The world behind the call: the one new row that the library's '[]byte(s)' lays. (LAID: no walk: one application.) -/
theorem Tryd.strconv_Atoi (s : ByteArray) (n : Int) (hl : s.size ≤ 18) (h : Lib.atoi s.data.toList = some n) (w : World) :
    Calls Tryd.prog 47 #[.string s] w fun e w' => e = .returned (.tuple #[.int .i64 n, .nilIface]) ∧ ∃ t, w' = Lib.bytesWorld w 5 t := Any.strconv_Atoi Tryd.lays172 s n hl h w
def Tryd.laysM171_ren : Go.Shelf.Ren := ⟨fun | 171 => 55 | 243 => 80 | 246 => 104 | 283 => 120 | 284 => 121 | 285 => 122 | 286 => 123 | 129 => 132 | 317 => 131 | 318 => 133 | 319 => 134 | 320 => 135 | 337 => 137 | 338 => 138 | n => n, fun | 3 => 3 | 9 => 9 | 2 => 2 | 4 => 4 | 171 => 160 | 0 => 0 | 53 => 65 | 37 => 29 | 5 => 5 | 173 => 163 | 212 => 177 | 51 => 79 | 20 => 20 | 213 => 178 | 46 => 91 | 232 => 182 | 233 => 183 | n => n, fun | 17 => 2 | 18 => 4 | 19 => 5 | n => n⟩
theorem Tryd.laysM171 : Go.Proofs.LaysM.n171 Tryd.prog Tryd.laysM171_ren := {
  mixed := by kernel_rfl
  f129 := Tryd.func132.trans (congrArg some (by kernel_rfl))
  f171 := Tryd.func55.trans (congrArg some (by kernel_rfl))
  f243 := Tryd.func80.trans (congrArg some (by kernel_rfl))
  f246 := Tryd.func104.trans (congrArg some (by kernel_rfl))
  f283 := Tryd.func120.trans (congrArg some (by kernel_rfl))
  f284 := Tryd.func121.trans (congrArg some (by kernel_rfl))
  f285 := Tryd.func122.trans (congrArg some (by kernel_rfl))
  f286 := Tryd.func123.trans (congrArg some (by kernel_rfl))
  f317 := Tryd.func131.trans (congrArg some (by kernel_rfl))
  f318 := Tryd.func133.trans (congrArg some (by kernel_rfl))
  f319 := Tryd.func134.trans (congrArg some (by kernel_rfl))
  f320 := Tryd.func135.trans (congrArg some (by kernel_rfl))
  f337 := Tryd.func137.trans (congrArg some (by kernel_rfl))
  f338 := Tryd.func138.trans (congrArg some (by kernel_rfl))
  t0 := Tryd.underlying0
  a0 := Tryd.isAgg0
  z0 := Tryd.sizeOf0
  v0 := Tryd.zeroValue0
  t2 := Tryd.underlying2
  a2 := Tryd.isAgg2
  z2 := Tryd.sizeOf2
  v2 := Tryd.zeroValue2
  t3 := Tryd.underlying3
  a3 := Tryd.isAgg3
  z3 := Tryd.sizeOf3
  v3 := Tryd.zeroValue3
  t4 := Tryd.underlying4
  a4 := Tryd.isAgg4
  z4 := Tryd.sizeOf4
  v4 := Tryd.zeroValue4
  t5 := Tryd.underlying5
  a5 := Tryd.isAgg5
  z5 := Tryd.sizeOf5
  v5 := Tryd.zeroValue5
  t9 := Tryd.underlying9
  a9 := Tryd.isAgg9
  z9 := Tryd.sizeOf9
  v9 := Tryd.zeroValue9
  t20 := Tryd.underlying20
  a20 := Tryd.isAgg20
  z20 := Tryd.sizeOf20
  v20 := Tryd.zeroValue20
  t37 := Tryd.underlying29
  a37 := Tryd.isAgg29
  z37 := Tryd.sizeOf29
  v37 := Tryd.zeroValue29
  t46 := Tryd.underlying91
  a46 := Tryd.isAgg91
  z46 := Tryd.sizeOf91
  v46 := Tryd.zeroValue91
  t51 := Tryd.underlying79
  a51 := Tryd.isAgg79
  z51 := Tryd.sizeOf79
  v51 := Tryd.zeroValue79
  t53 := Tryd.underlying65
  a53 := Tryd.isAgg65
  z53 := Tryd.sizeOf65
  v53 := Tryd.zeroValue65
  t171 := Tryd.underlying160
  a171 := Tryd.isAgg160
  z171 := Tryd.sizeOf160
  v171 := Tryd.zeroValue160
  t173 := Tryd.underlying163
  a173 := Tryd.isAgg163
  z173 := Tryd.sizeOf163
  v173 := Tryd.zeroValue163
  t212 := Tryd.underlying177
  a212 := Tryd.isAgg177
  z212 := Tryd.sizeOf177
  v212 := Tryd.zeroValue177
  t213 := Tryd.underlying178
  a213 := Tryd.isAgg178
  z213 := Tryd.sizeOf178
  t232 := Tryd.underlying182
  a232 := Tryd.isAgg182
  z232 := Tryd.sizeOf182
  v232 := Tryd.zeroValue182
  t233 := Tryd.underlying183
  a233 := Tryd.isAgg183
  z233 := Tryd.sizeOf183
  v233 := Tryd.zeroValue183
  g17 := by kernel_rfl
  g18 := by kernel_rfl
  g19 := by kernel_rfl
  i0 := by kernel_rfl
  i2 := by kernel_rfl
  i3 := by kernel_rfl
  i4 := by kernel_rfl
  i5 := by kernel_rfl
  i9 := by kernel_rfl
  i20 := by kernel_rfl
  i37 := by kernel_rfl
  i46 := by kernel_rfl
  i51 := by kernel_rfl
  i53 := by kernel_rfl
  i171 := by kernel_rfl
  i173 := by kernel_rfl
  i212 := by kernel_rfl
  i232 := by kernel_rfl
  i233 := by kernel_rfl
  m17 := by kernel_rfl
  m18 := by kernel_rfl
  m19 := by kernel_rfl }
open Go.RowKit Go.Sort Go.Lib in
/-- strconv.Itoa: "Itoa is equivalent to FormatInt(int64(i), 10).": i's DECIMAL NUMERAL ('Lib.itoa': a '-' where i is negative, then the digits), FOR EVERY int. The world behind the call: the world before it, new blocks behind the heap (the library's 'var a [24]byte'), draws. (LAID: no walk: one application.) -/
theorem Tryd.strconv_Itoa (n : Int) (h0 : -9223372036854775808 ≤ n) (h1 : n ≤ 9223372036854775807) (w : World) (htab : Lib.TabIs Tryd.prog w "internal/strconv.uint64pow10" .u64 Lib.pow10Tab) :
    Calls Tryd.prog 55 #[.int .i64 n] w fun e w' => e = .returned (.string ⟨(Lib.itoa n).toArray⟩) ∧ ∃ k os, w' = grow (w.drewN k) os := Any.strconv_Itoa Tryd.laysM171 n h0 h1 w htab
def Tryd.lays105_ren : Go.Shelf.Ren := ⟨fun | 105 => 56 | 212 => 81 | 99 => 82 | 165 => 83 | 166 => 58 | 170 => 84 | 169 => 59 | 263 => 105 | 264 => 106 | 206 => 98 | 240 => 85 | 241 => 107 | 276 => 108 | 277 => 124 | n => n, fun | 9 => 9 | 3 => 3 | 4 => 4 | 20 => 20 | 0 => 0 | 46 => 91 | 109 => 116 | 5 => 5 | 72 => 88 | 76 => 76 | 51 => 79 | 146 => 142 | 53 => 65 | 148 => 144 | 70 => 86 | 37 => 29 | 75 => 75 | 127 => 121 | 164 => 146 | 80 => 40 | n => n, fun | n => n⟩
theorem Tryd.lays105 : Go.Proofs.Lays.n105 Tryd.prog Tryd.lays105_ren := {
  mixed := by kernel_rfl
  f99 := Tryd.func82.trans (congrArg some (by kernel_rfl))
  f105 := Tryd.func56.trans (congrArg some (by kernel_rfl))
  f165 := Tryd.func83.trans (congrArg some (by kernel_rfl))
  f166 := Tryd.func58.trans (congrArg some (by kernel_rfl))
  f169 := Tryd.func59.trans (congrArg some (by kernel_rfl))
  f170 := Tryd.func84.trans (congrArg some (by kernel_rfl))
  f206 := Tryd.func98.trans (congrArg some (by kernel_rfl))
  f212 := Tryd.func81.trans (congrArg some (by kernel_rfl))
  f240 := Tryd.func85.trans (congrArg some (by kernel_rfl))
  f241 := Tryd.func107.trans (congrArg some (by kernel_rfl))
  f263 := Tryd.func105.trans (congrArg some (by kernel_rfl))
  f264 := Tryd.func106.trans (congrArg some (by kernel_rfl))
  f276 := Tryd.func108.trans (congrArg some (by kernel_rfl))
  f277 := Tryd.func124.trans (congrArg some (by kernel_rfl))
  t0 := Tryd.underlying0
  a0 := Tryd.isAgg0
  z0 := Tryd.sizeOf0
  v0 := Tryd.zeroValue0
  t3 := Tryd.underlying3
  a3 := Tryd.isAgg3
  z3 := Tryd.sizeOf3
  v3 := Tryd.zeroValue3
  t4 := Tryd.underlying4
  a4 := Tryd.isAgg4
  z4 := Tryd.sizeOf4
  v4 := Tryd.zeroValue4
  t5 := Tryd.underlying5
  a5 := Tryd.isAgg5
  z5 := Tryd.sizeOf5
  v5 := Tryd.zeroValue5
  t9 := Tryd.underlying9
  a9 := Tryd.isAgg9
  z9 := Tryd.sizeOf9
  v9 := Tryd.zeroValue9
  t20 := Tryd.underlying20
  a20 := Tryd.isAgg20
  z20 := Tryd.sizeOf20
  v20 := Tryd.zeroValue20
  t37 := Tryd.underlying29
  a37 := Tryd.isAgg29
  z37 := Tryd.sizeOf29
  v37 := Tryd.zeroValue29
  t46 := Tryd.underlying91
  a46 := Tryd.isAgg91
  z46 := Tryd.sizeOf91
  v46 := Tryd.zeroValue91
  t51 := Tryd.underlying79
  a51 := Tryd.isAgg79
  z51 := Tryd.sizeOf79
  v51 := Tryd.zeroValue79
  t53 := Tryd.underlying65
  a53 := Tryd.isAgg65
  z53 := Tryd.sizeOf65
  v53 := Tryd.zeroValue65
  t70 := Tryd.underlying86
  a70 := Tryd.isAgg86
  z70 := Tryd.sizeOf86
  v70 := Tryd.zeroValue86
  t72 := Tryd.underlying88
  a72 := Tryd.isAgg88
  z72 := Tryd.sizeOf88
  v72 := Tryd.zeroValue88
  t75 := Tryd.underlying75
  a75 := Tryd.isAgg75
  z75 := Tryd.sizeOf75
  v75 := Tryd.zeroValue75
  t76 := Tryd.underlying76
  a76 := Tryd.isAgg76
  z76 := Tryd.sizeOf76
  v76 := Tryd.zeroValue76
  t109 := Tryd.underlying116
  a109 := Tryd.isAgg116
  z109 := Tryd.sizeOf116
  v109 := Tryd.zeroValue116
  t127 := Tryd.underlying121
  a127 := Tryd.isAgg121
  z127 := Tryd.sizeOf121
  v127 := Tryd.zeroValue121
  t146 := Tryd.underlying142
  a146 := Tryd.isAgg142
  z146 := Tryd.sizeOf142
  v146 := Tryd.zeroValue142
  t148 := Tryd.underlying144
  a148 := Tryd.isAgg144
  z148 := Tryd.sizeOf144
  v148 := Tryd.zeroValue144
  t164 := Tryd.underlying146
  a164 := Tryd.isAgg146
  z164 := Tryd.sizeOf146
  v164 := Tryd.zeroValue146 }
theorem Tryd.Builder_Extra_105 : Builder.Extra Tryd.prog Tryd.lays105_ren := {
  sizeBuilder := by kernel_rfl
  liesBuilder := by kernel_rfl
  t5 := Tryd.underlying5
  a5 := Tryd.isAgg5
  z5 := Tryd.sizeOf5
  v5 := Tryd.zeroValue5
  infoByte := by kernel_rfl
  cellsByte := by kernel_rfl
  sizeByte := by kernel_rfl
  neB5 := by decide }
open Go.RowKit Go.Lib in
theorem Tryd.strings_Repeat_zero (s : ByteArray) (w : World) :
    Calls Tryd.prog 56 #[.string s, .int .i64 0] w fun e w' => e = .returned (.string ⟨#[]⟩) ∧ w' = w := Any.strings_Repeat_zero Tryd.lays105 s w
open Go.RowKit Go.Lib in
theorem Tryd.strings_Repeat_one (s : ByteArray) (w : World) :
    Calls Tryd.prog 56 #[.string s, .int .i64 1] w fun e w' => e = .returned (.string s) ∧ w' = w := Any.strings_Repeat_one Tryd.lays105 s w
open Go.RowKit Go.Lib in
/-- **strings.Repeat: count ≥ 0, the result within one allocation: count copies of s.** (LAID: no walk: one application.) -/
theorem Tryd.strings_Repeat (s : ByteArray) (c : Nat) (w : World) (hc : c ≤ 9223372036854775807) (hlen : s.size * c ≤ 140737488355328) :
    Calls Tryd.prog 56 #[.string s, .int .i64 c] w fun e w' => e = .returned (.string ⟨(Lib.repeatL s.data.toList c).toArray⟩) ∧ Below w.heap.size w w' := Any.strings_Repeat Tryd.lays105 Tryd.Builder_Extra_105 s c w hc hlen
def Tryd.lays166_ren : Go.Shelf.Ren := ⟨fun | 105 => 56 | 212 => 81 | 99 => 82 | 165 => 83 | 166 => 58 | 170 => 84 | 169 => 59 | 263 => 105 | 264 => 106 | 206 => 98 | 240 => 85 | 241 => 107 | 276 => 108 | 277 => 124 | n => n, fun | 9 => 9 | 3 => 3 | 4 => 4 | 20 => 20 | 0 => 0 | 46 => 91 | 109 => 116 | 5 => 5 | 72 => 88 | 76 => 76 | 51 => 79 | 146 => 142 | 53 => 65 | 148 => 144 | 70 => 86 | 37 => 29 | 75 => 75 | 127 => 121 | 164 => 146 | 80 => 40 | n => n, fun | n => n⟩
theorem Tryd.lays166 : Go.Proofs.Lays.n166 Tryd.prog Tryd.lays166_ren := {
  mixed := by kernel_rfl
  f166 := Tryd.func58.trans (congrArg some (by kernel_rfl))
  f240 := Tryd.func85.trans (congrArg some (by kernel_rfl))
  f276 := Tryd.func108.trans (congrArg some (by kernel_rfl))
  t0 := Tryd.underlying0
  a0 := Tryd.isAgg0
  z0 := Tryd.sizeOf0
  v0 := Tryd.zeroValue0
  t3 := Tryd.underlying3
  a3 := Tryd.isAgg3
  z3 := Tryd.sizeOf3
  v3 := Tryd.zeroValue3
  t4 := Tryd.underlying4
  a4 := Tryd.isAgg4
  z4 := Tryd.sizeOf4
  v4 := Tryd.zeroValue4
  t9 := Tryd.underlying9
  a9 := Tryd.isAgg9
  z9 := Tryd.sizeOf9
  v9 := Tryd.zeroValue9
  t20 := Tryd.underlying20
  a20 := Tryd.isAgg20
  z20 := Tryd.sizeOf20
  v20 := Tryd.zeroValue20
  t37 := Tryd.underlying29
  a37 := Tryd.isAgg29
  z37 := Tryd.sizeOf29
  v37 := Tryd.zeroValue29
  t70 := Tryd.underlying86
  a70 := Tryd.isAgg86
  z70 := Tryd.sizeOf86
  v70 := Tryd.zeroValue86
  t72 := Tryd.underlying88
  a72 := Tryd.isAgg88
  z72 := Tryd.sizeOf88
  v72 := Tryd.zeroValue88
  t75 := Tryd.underlying75
  a75 := Tryd.isAgg75
  z75 := Tryd.sizeOf75
  v75 := Tryd.zeroValue75
  t164 := Tryd.underlying146
  a164 := Tryd.isAgg146
  z164 := Tryd.sizeOf146
  v164 := Tryd.zeroValue146 }
theorem Tryd.Builder_Extra_166 : Builder.Extra Tryd.prog Tryd.lays166_ren := {
  sizeBuilder := by kernel_rfl
  liesBuilder := by kernel_rfl
  t5 := Tryd.underlying5
  a5 := Tryd.isAgg5
  z5 := Tryd.sizeOf5
  v5 := Tryd.zeroValue5
  infoByte := by kernel_rfl
  cellsByte := by kernel_rfl
  sizeByte := by kernel_rfl
  neB5 := by decide }
open Go.RowKit in
/-- (*strings.Builder).WriteString: "WriteString appends the contents of s to b's buffer. It returns the length of s and a nil error.": UNDER Go's OWN LIMIT: the new length takes at most 2^47 bytes. (LAID: no walk: one application.) -/
theorem Tryd.Builder_WriteString (B b : Nat) (bs : List Value) (s : ByteArray) (w : World) (h : Lib.IsBuilder 88 5 B b bs w) (hlen : bs.length + s.size ≤ 140737488355328) (hBw : B ≤ w.heap.size) :
    Calls Tryd.prog 58 #[.pointer (some ⟨b, 0, none⟩), .string s] w fun e w' => e = .returned (.tuple #[.int .i64 s.size, .nilIface]) ∧ (Lib.BuilderAt 88 5 B b (.pointer (some ⟨b, 0, none⟩)) (bs ++ Lib.strCells s) w' ∧ Below B w w') := Any.Builder_WriteString Tryd.lays166 Tryd.Builder_Extra_166 B b bs s w h hlen hBw
def Tryd.lays167_ren : Go.Shelf.Ren := ⟨fun | 105 => 56 | 212 => 81 | 99 => 82 | 165 => 83 | 166 => 58 | 170 => 84 | 169 => 59 | 263 => 105 | 264 => 106 | 206 => 98 | 240 => 85 | 241 => 107 | 276 => 108 | 277 => 124 | 167 => 57 | n => n, fun | 9 => 9 | 3 => 3 | 4 => 4 | 20 => 20 | 0 => 0 | 46 => 91 | 109 => 116 | 5 => 5 | 72 => 88 | 76 => 76 | 51 => 79 | 146 => 142 | 53 => 65 | 148 => 144 | 70 => 86 | 37 => 29 | 75 => 75 | 127 => 121 | 164 => 146 | 80 => 40 | n => n, fun | n => n⟩
theorem Tryd.lays167 : Go.Proofs.Lays.n167 Tryd.prog Tryd.lays167_ren := {
  mixed := by kernel_rfl
  f167 := Tryd.func57.trans (congrArg some (by kernel_rfl))
  f240 := Tryd.func85.trans (congrArg some (by kernel_rfl))
  f276 := Tryd.func108.trans (congrArg some (by kernel_rfl))
  t0 := Tryd.underlying0
  a0 := Tryd.isAgg0
  z0 := Tryd.sizeOf0
  v0 := Tryd.zeroValue0
  t4 := Tryd.underlying4
  a4 := Tryd.isAgg4
  z4 := Tryd.sizeOf4
  v4 := Tryd.zeroValue4
  t5 := Tryd.underlying5
  a5 := Tryd.isAgg5
  z5 := Tryd.sizeOf5
  v5 := Tryd.zeroValue5
  t9 := Tryd.underlying9
  a9 := Tryd.isAgg9
  z9 := Tryd.sizeOf9
  v9 := Tryd.zeroValue9
  t20 := Tryd.underlying20
  a20 := Tryd.isAgg20
  z20 := Tryd.sizeOf20
  v20 := Tryd.zeroValue20
  t37 := Tryd.underlying29
  a37 := Tryd.isAgg29
  z37 := Tryd.sizeOf29
  v37 := Tryd.zeroValue29
  t70 := Tryd.underlying86
  a70 := Tryd.isAgg86
  z70 := Tryd.sizeOf86
  v70 := Tryd.zeroValue86
  t72 := Tryd.underlying88
  a72 := Tryd.isAgg88
  z72 := Tryd.sizeOf88
  v72 := Tryd.zeroValue88
  t75 := Tryd.underlying75
  a75 := Tryd.isAgg75
  z75 := Tryd.sizeOf75
  v75 := Tryd.zeroValue75
  t164 := Tryd.underlying146
  a164 := Tryd.isAgg146
  z164 := Tryd.sizeOf146
  v164 := Tryd.zeroValue146 }
theorem Tryd.Builder_Extra_167 : Builder.Extra Tryd.prog Tryd.lays167_ren := {
  sizeBuilder := by kernel_rfl
  liesBuilder := by kernel_rfl
  t5 := Tryd.underlying5
  a5 := Tryd.isAgg5
  z5 := Tryd.sizeOf5
  v5 := Tryd.zeroValue5
  infoByte := by kernel_rfl
  cellsByte := by kernel_rfl
  sizeByte := by kernel_rfl
  neB5 := by decide }
open Go.RowKit in
/-- (*strings.Builder).WriteByte: "WriteByte appends the byte c to b's buffer. The returned error is always nil.": UNDER Go's OWN LIMIT: the new length takes at most 2^47 bytes. (LAID: no walk: one application.) -/
theorem Tryd.Builder_WriteByte (B b : Nat) (bs : List Value) (c : Int) (w : World) (h : Lib.IsBuilder 88 5 B b bs w) (hlen : bs.length + 1 ≤ 140737488355328) (hBw : B ≤ w.heap.size) :
    Calls Tryd.prog 57 #[.pointer (some ⟨b, 0, none⟩), .int .u8 c] w fun e w' => e = .returned .nilIface ∧ (Lib.BuilderAt 88 5 B b (.pointer (some ⟨b, 0, none⟩)) (bs ++ [.int .u8 c]) w' ∧ Below B w w') := Any.Builder_WriteByte Tryd.lays167 Tryd.Builder_Extra_167 B b bs c w h hlen hBw
end Go.Proofs

namespace Go.Proofs.YtgofjkppeobjfaaDoor
set_option linter.unusedVariables false
open Go.RowKit Go.Mem Go.Dig Go.Pure

theorem Blk.new' {w : World} {g : Nat} {t : TypeId} {cs : Array Value} (hg : g = w.heap.size) : Blk (w.alloc (.cells cs t)) g t cs := by subst hg; exact Blk.new _ _ _
theorem own_al {w : World} {g : Nat} {e : TypeId} {n c : Nat} {xs : List Value} (h : w.ownsRow g e 1 (.slice (some ⟨g, 0, none⟩) n c) n xs) (o : Obj) : (w.alloc o).ownsRow g e 1 (.slice (some ⟨g, 0, none⟩) n c) n xs := own_chg h ((Chg.refl (fun _ => False) w).alloc o) (fun _ _ h => h)
theorem own_nw {w w' : World} {g : Nat} {e : TypeId} {n c : Nat} {xs : List Value} (h : w.ownsRow g e 1 (.slice (some ⟨g, 0, none⟩) n c) n xs) (hn : New w w') : w'.ownsRow g e 1 (.slice (some ⟨g, 0, none⟩) n c) n xs := own_chg h hn (fun _ _ h => h)
theorem own_fr {w : World} {g : Nat} {e : TypeId} {n c : Nat} {xs : List Value} {p : Addr} (h : w.ownsRow g e 1 (.slice (some ⟨g, 0, none⟩) n c) n xs) (hne : g ≠ p.block) (u : Value) : (w.setCell p u).ownsRow g e 1 (.slice (some ⟨g, 0, none⟩) n c) n xs :=
  own_chg h ((Chg.refl (fun k => k = p.block) w).setCell (p := p) (fun _ => rfl) u) (fun k hk e => by simp [blk] at hk; omega)
theorem bcell {W w1 : World} (hb : Below W.heap.size W w1) : (∀ b o, b < W.heap.size → w1.cell? ⟨b, o, none⟩ = W.cell? ⟨b, o, none⟩) ∧ (∀ b o, b < W.heap.size → w1.frozen? ⟨b, o, none⟩ = W.frozen? ⟨b, o, none⟩) :=
  ⟨fun b o h => hb.cell (p := ⟨b, o, none⟩) h, fun b o h => hb.frozen (p := ⟨b, o, none⟩) h⟩
theorem bitLen32 {x : Nat} (h0 : 1 ≤ x) (h : x < 4294967296) : 1 ≤ Lib.bitLen x ∧ Lib.bitLen x ≤ 32 ∧ x < 2 ^ Lib.bitLen x := by
  have h1 := Lib.bitLenAux_bounds 64 x (by omega) (by omega)
  have h2 := Lib.bitLen_le x 32 (by omega) (by omega)
  exact ⟨h1.1, h2, h1.2.2⟩
theorem lz_any (x : Nat) (h0 : 1 ≤ x) (h : x < 4294967296) (w : World) :
    Calls Tryd.prog 87 #[.int .u32 (x : Int)] w fun e w' => ∃ s : Nat, e = .returned (.int .i64 (s : Int)) ∧ s < 32 ∧ Hid (x * 2 ^ s < 4294967296) ∧ w = w' := by
  refine (Tryd.bits_LeadingZeros32 (x : Int) w (by omega) (by omega)).mono ?_
  rintro e w' ⟨rfl, rfl⟩
  rw [Int.toNat_natCast]
  obtain ⟨h1, h2, h3⟩ := bitLen32 h0 h
  refine ⟨32 - Lib.bitLen x, ?_, by omega, ?_, rfl⟩
  · rw [show (32 : Int) - (Lib.bitLen x : Int) = ((32 - Lib.bitLen x : Nat) : Int) by omega]
  · show _ < _
    have e : (4294967296 : Nat) = 2 ^ Lib.bitLen x * 2 ^ (32 - Lib.bitLen x) := by rw [← Nat.pow_add, show Lib.bitLen x + (32 - Lib.bitLen x) = 32 by omega]
    rw [e]
    exact Nat.mul_lt_mul_of_pos_right h3 (Nat.pow_pos (by omega))
/-- The divisor, shifted: its digits without the last, which is 0. -/
theorem den_facts {lb : List Nat} {n s y : Nat} (hN : Num 4294967296 lb y) (hl : lb.length = n) (hn : 2 ≤ n) (hs : s < 32) (ht : dg lb (n - 1) * 2 ^ s < 4294967296) :
    Digs 4294967296 ((lst (n + 1) (shD 4294967296 (2 ^ s) (2 ^ (32 - s)) lb)).take n) ∧ val 4294967296 ((lst (n + 1) (shD 4294967296 (2 ^ s) (2 ^ (32 - s)) lb)).take n) = y * 2 ^ s := by
  have hPQ : 2 ^ s * 2 ^ (32 - s) = 4294967296 := by rw [← Nat.pow_add, show s + (32 - s) = 32 by omega]
  have hP : 1 ≤ 2 ^ s := Nat.one_le_two_pow
  have hQ : 1 ≤ 2 ^ (32 - s) := Nat.one_le_two_pow
  have hd : Digs 4294967296 (lst (n + 1) (shD 4294967296 (2 ^ s) (2 ^ (32 - s)) lb)) := lst_digs (fun j _ => shD_lt hQ hPQ hP hN.digs j)
  refine ⟨hd.take n, ?_⟩
  have hv := sh_val hQ hPQ hP lb
  rw [hl, hN.val] at hv
  rw [← hv, lst_succ, List.take_left' (by rw [lst_len]), val_snoc]
  have h0 : shD 4294967296 (2 ^ s) (2 ^ (32 - s)) lb n = 0 := by
    rw [shD, dg_none (by omega), Nat.zero_mul, Nat.zero_mod, if_neg (by omega), Nat.zero_add]
    apply Nat.div_eq_of_lt
    refine Nat.lt_of_mul_lt_mul_right (a := 2 ^ s) ?_
    rw [Nat.mul_comm (2 ^ (32 - s)), hPQ]
    exact ht
  rw [h0]; omega
theorem num_facts {la : List Nat} {n s x : Nat} (hN : Num 4294967296 la x) (hl : la.length = n) (hs : s < 32) :
    Digs 4294967296 (lst (n + 1) (shD 4294967296 (2 ^ s) (2 ^ (32 - s)) la)) ∧ val 4294967296 (lst (n + 1) (shD 4294967296 (2 ^ s) (2 ^ (32 - s)) la)) = x * 2 ^ s := by
  have hPQ : 2 ^ s * 2 ^ (32 - s) = 4294967296 := by rw [← Nat.pow_add, show s + (32 - s) = 32 by omega]
  have hP : 1 ≤ 2 ^ s := Nat.one_le_two_pow
  have hQ : 1 ≤ 2 ^ (32 - s) := Nat.one_le_two_pow
  refine ⟨lst_digs (fun j _ => shD_lt hQ hPQ hP hN.digs j), ?_⟩
  have hv := sh_val hQ hPQ hP la
  rwa [hl, hN.val] at hv
theorem kn_low {B x y n n' s : Nat} {L : List Nat} (hB : 1 ≤ B) (hx : x < B ^ n) (hy : B ^ (n' - 1) ≤ y) (h1 : 1 ≤ n') (hnn : n' ≤ n) (hL : L.length = n + 1) (hv : val B L = x * 2 ^ s) : val B (L.drop (n + 1 - n')) < y * 2 ^ s := by
  have h := val_split B L (n + 1 - n') (by omega)
  rw [hv] at h
  have hs : 1 ≤ 2 ^ s := Nat.one_le_two_pow
  rcases Nat.lt_or_ge (val B (L.drop (n + 1 - n'))) (y * 2 ^ s) with hlt | hge
  · exact hlt
  · exfalso
    have e1 : B ^ (n + 1 - n') * (y * 2 ^ s) ≤ B ^ (n + 1 - n') * val B (L.drop (n + 1 - n')) := Nat.mul_le_mul_left _ hge
    have e2 : B ^ n ≤ B ^ (n + 1 - n') * y := by
      have : B ^ n = B ^ (n + 1 - n') * B ^ (n' - 1) := by rw [← Nat.pow_add]; congr 1; omega
      rw [this]
      exact Nat.mul_le_mul_left _ hy
    have e3 : B ^ n * 2 ^ s ≤ B ^ (n + 1 - n') * y * 2 ^ s := Nat.mul_le_mul_right _ e2
    have e4 : x * 2 ^ s < B ^ n * 2 ^ s := Nat.mul_lt_mul_of_pos_right hx (by omega)
    rw [Nat.mul_assoc] at e3
    omega
theorem top_of_val {B : Nat} {l : List Nat} {m : Nat} (hd : Digs B l) (hl : l.length = m + 2) (hv : B ^ (m + 1) ≤ val B l) : 1 ≤ dg l (m + 1) := by
  rcases Nat.eq_zero_or_pos (dg l (m + 1)) with h0 | h0
  · exfalso
    have e : l = l.take (m + 1 + 1) := by rw [List.take_of_length_le (by omega)]
    have h1 : val B l = val B (l.take (m + 1)) := by
      have h2 := val_take_dg B l (m + 1)
      rw [h0, Nat.mul_zero, Nat.add_zero, ← e] at h2
      exact h2
    have h3 := val_lt (hd.take (m + 1))
    rw [List.length_take, Nat.min_eq_left (by omega)] at h3
    omega
  · exact h0
theorem dig_at {l : List Nat} {i : Nat} (h : i < l.length) : l[i]? = some (dg l i) := by
  rw [List.getElem?_eq_getElem h, dg_some (List.getElem?_eq_getElem h)]
theorem top_pos {B : Nat} {l : List Nat} {y n : Nat} (h : Num B l y) (hl : l.length = n) (hn : 1 ≤ n) : 1 ≤ dg l (n - 1) := by
  rcases Nat.eq_zero_or_pos (dg l (n - 1)) with h0 | h0
  · exfalso
    have ht := h.trim
    unfold Trim at ht
    apply ht
    rw [List.getLast?_eq_getElem?, hl, dig_at (by omega), h0]
  · exact h0

theorem WM.chg {S : Nat → Prop} {w w' : World} {A : Option Addr} {n c m : Nat} (h : WM w A n c m) (hc : Chg S w w') (hs : ∀ k, blk A = some k → ¬ S k) : WM w' A n c m := by
  obtain ⟨l, h1, h2⟩ := h
  exact ⟨l, h1.chg hc (fun k hk _ => hs k hk), h2⟩
theorem low_len' {s n : Nat} {L : List Nat} (hn : n ≤ L.length) : (lwL s n L n).take n = low 4294967296 (2 ^ s) (2 ^ (32 - s)) (L.take n) := by
  have hl : (low 4294967296 (2 ^ s) (2 ^ (32 - s)) (L.take n)).length = n := by rw [low_len]; simp; omega
  unfold lwL
  rw [List.take_of_length_le (l := low _ _ _ _) (by omega), List.take_left' hl]
theorem div_ends {x y s X D N n : Nat} {L q : List Nat} (hX : x * 2 ^ s = X) (hD : y * 2 ^ s = D) (h : KnI 4294967296 X D N n 0 L q) (hn : n ≤ N) (hDn : D ≤ 4294967296 ^ n) (hs : s < 32) :
    val 4294967296 q = x / y ∧ val 4294967296 (low 4294967296 (2 ^ s) (2 ^ (32 - s)) (L.take n)) = x % y := by
  obtain ⟨h1, h2⟩ := h.done
  have hp : 0 < 2 ^ s := Nat.pow_pos (by omega)
  have hlow := h.low
  rw [List.drop_zero] at hlow
  have hPQ : 2 ^ s * 2 ^ (32 - s) = 4294967296 := by rw [← Nat.pow_add, show s + (32 - s) = 32 by omega]
  refine ⟨by rw [h1, ← hX, ← hD, Nat.mul_div_mul_right _ _ hp], ?_⟩
  rw [low_val hPQ Nat.one_le_two_pow Nat.one_le_two_pow]
  have hsp := val_split 4294967296 L n (by rw [h.len]; exact hn)
  have h0 : val 4294967296 (L.drop n) = 0 := by
    rcases Nat.eq_zero_or_pos (val 4294967296 (L.drop n)) with h0 | h0
    · exact h0
    · have := Nat.le_mul_of_pos_right (4294967296 ^ n) h0
      omega
  rw [h0, Nat.mul_zero, Nat.add_zero] at hsp
  rw [← hsp, h2, ← hX, ← hD, Nat.mul_mod_mul_right, Nat.mul_div_cancel _ hp]

set_option maxRecDepth 100000 in
set_option maxHeartbeats 4000000 in
theorem divMag_long (A : Option Addr) (n c : Nat) (A' : Option Addr) (n' c' : Nat) (x y : Nat) (w : World) (hx : WM w A n c x) (hy : WM w A' n' c' y) (hn : n ≤ 900000) (hn' : 2 ≤ n') (hle : y ≤ x) :
    Calls Tryd.prog 64 #[.slice A n c, .slice A' n' c'] w fun e w' => ∃ Q nq cq R nr cr, e = .returned (.tuple #[.slice Q nq cq, .slice R nr cr]) ∧ Hid (WM w' Q nq cq (x / y) ∧ WM w' R nr cr (x % y) ∧ New w w') := by
  obtain ⟨la, ha, hc1, hc2, hNa⟩ := hx
  obtain ⟨lb, hb, hd1, hd2, hNb⟩ := hy
  have hla : la.length = n := by have := ha.len; rwa [nv_length] at this
  have hlb : lb.length = n' := by have := hb.len; rwa [nv_length] at this
  have hnn : n' ≤ n := by
    rcases Nat.lt_or_ge n n' with h | h
    · have := hNa.len_lt (by omega) hNb (by omega); omega
    · exact h
  obtain ⟨t, ht⟩ : ∃ t, dg lb (n' - 1) = t := ⟨_, rfl⟩
  have ht1 := top_pos hNb hlb (by omega)
  rw [ht] at ht1
  have htb : t < 4294967296 := by rw [← ht]; exact dg_lt hNb.digs (by omega) _
  obtain ⟨j1, hj1⟩ : ∃ j, n' - 1 = j := ⟨_, rfl⟩
  obtain ⟨bd, u, rfl, hu, hcu⟩ := hb.at_ (show j1 < n' by omega)
  obtain ⟨z, hz, rfl⟩ := nv_at hu
  obtain rfl : t = z := by rw [← ht, hj1, dg_some hz]
  have hji : (n' : Int) - 1 = (j1 : Int) := by omega
  have hjn : j1 < n' := by omega
  have H0 := Lib.hid (And.intro ha (And.intro hb (And.intro hNa (And.intro hNb (And.intro hla (And.intro hlb ht))))))
  have hcm : Calls Tryd.prog 67 #[.slice A n c, .slice (some bd) n' c'] w fun e w' => e = .returned (.int .i64 (cmpI x y)) ∧ ∃ q, w' = w.drewN q := cmpMag_any _ _ _ _ _ _ x y w ⟨la, ha, hc1, hc2, hNa⟩ ⟨lb, hb, hd1, hd2, hNb⟩
  have HC := Lib.hid hcm
  have hcv : decide (cmpI (x : Int) (y : Int) < 0) = false := by
    unfold cmpI
    rw [if_neg (by omega)]
    split <;> decide
  have hne1 : ((n' : Int) == 1) = false := by simp; omega
  clear hcm ha hb hNa hNb hla hlb ht hu hz hj1
  go_enter Tryd.func64, Tryd.ntmps64
  go_wp2_with fail
  go_step3
  go_wp2_with fail
  refine HC.out.mono ?_
  rintro e w1 ⟨rfl, q1, hq1⟩
  generalize cmpI (x : Int) (y : Int) = cv at *
  have hn1 : New w w1 := by rw [hq1]; exact (Chg.refl _ _).drewN q1
  have hcu1 := hn1.cell hcu (fun h => h)
  have HN1 := Lib.hid hn1
  clear hcu hn1 hq1 HC
  go_wp2_with fail
  refine (lz_any t ht1 htb w1).mono ?_
  rintro e w2 ⟨s, rfl, hs, HS, rfl⟩
  clear hcu1
  have hca : ∀ W', New w1 W' → Calls Tryd.prog 88 #[.slice A n c, .int .i64 s] W' fun e w' => ∃ g, e = .returned (.slice (some ⟨g, 0, none⟩) ((n + 1 : Nat)) ((n + 1 : Nat))) ∧ Hid (w'.ownsRow g 79 1 (.slice (some ⟨g, 0, none⟩) ((n + 1 : Nat)) ((n + 1 : Nat))) (n + 1) (nv .u32 (lst (n + 1) (shD 4294967296 (2 ^ s) (2 ^ (32 - s)) la)))) ∧ Hid (g = W'.heap.size) ∧ Hid (New W' w') := fun W' h =>
    (shifted_any A n c s W' la (H0.out.1.new (HN1.out.new h)) H0.out.2.2.1.digs hc1 (by unfold maxLen; omega) (by omega) hs).mono fun e w' ⟨g, h1, h2⟩ => ⟨g, h1, h2.out.1, h2.out.2.1, h2.out.2.2⟩
  have hcb : ∀ W', New w1 W' → Calls Tryd.prog 88 #[.slice (some bd) n' c', .int .i64 s] W' fun e w' => ∃ g, e = .returned (.slice (some ⟨g, 0, none⟩) ((n' + 1 : Nat)) ((n' + 1 : Nat))) ∧ Hid (w'.ownsRow g 79 1 (.slice (some ⟨g, 0, none⟩) ((n' + 1 : Nat)) ((n' + 1 : Nat))) (n' + 1) (nv .u32 (lst (n' + 1) (shD 4294967296 (2 ^ s) (2 ^ (32 - s)) lb)))) ∧ Hid (g = W'.heap.size) ∧ Hid (New W' w') := fun W' h =>
    (shifted_any (some bd) n' c' s W' lb (H0.out.2.1.new (HN1.out.new h)) H0.out.2.2.2.1.digs hd1 (by unfold maxLen; omega) (by omega) hs).mono fun e w' ⟨g, h1, h2⟩ => ⟨g, h1, h2.out.1, h2.out.2.1, h2.out.2.2⟩
  have HA := Lib.hid (And.intro hca hcb)
  clear hca hcb
  have hup := fun (W : World) (g : Nat) => run_upto elemU32 .i64 (some ⟨g, 0, none⟩) (n' + 1) (n' + 1) n' (n' : Int) rfl (by omega) W
  go_upto_region 7 with fail
  generalize hWb : w1 = Wb at *
  clear hWb
  go_cut [9, 10] from 48 to 56 (fun v u wc => ∃ g gd gN gD : Nat, v = .pointer (some ⟨gN, 0, none⟩) ∧ u = .pointer (some ⟨gD, 0, none⟩) ∧ Hid (Blk wc gN 31 #[.slice (some ⟨g, 0, none⟩) (n + 1) (n + 1)] ∧ Blk wc gD 31 #[.slice (some ⟨gd, 0, none⟩) n' (n' + 1)] ∧ gN ≠ gD ∧ g < gd ∧ wc.ownsRow g 79 1 (.slice (some ⟨g, 0, none⟩) ((n + 1 : Nat)) ((n + 1 : Nat))) (n + 1) (nv .u32 (lst (n + 1) (shD 4294967296 (2 ^ s) (2 ^ (32 - s)) la))) ∧ wc.ownsRow gd 79 1 (.slice (some ⟨gd, 0, none⟩) ((n' + 1 : Nat)) ((n' + 1 : Nat))) (n' + 1) (nv .u32 (lst (n' + 1) (shD 4294967296 (2 ^ s) (2 ^ (32 - s)) lb))) ∧ w.heap.size ≤ g ∧ w.heap.size ≤ gN ∧ w.heap.size ≤ gD ∧ New w wc))
  case first =>
    go_region_with (first
      | (go_at_call 88; (with_reducible refine (HA.out.1 _ ?_).mono ?_); (first | exact (Chg.refl _ _).drew | exact ((Chg.refl _ _).alloc _).drew | exact (((Chg.refl _ _).alloc _).alloc _).drew); rintro e w5 ⟨g, rfl, HO5, HG5, HN5⟩; (have HB5 : New Wb w5 := by (first | exact ((Chg.refl _ _).drew).new HN5.out | exact (((Chg.refl _ _).alloc _).drew).new HN5.out | exact ((((Chg.refl _ _).alloc _).alloc _).drew).new HN5.out)); obtain ⟨hc5, hf5⟩ := bcell (New.below HN5.out); (have hz5 := HN5.out.size); (try simp only [World.size_alloc, World.drew] at hz5); (try have hs51 : Wb.heap.size < w5.heap.size := by omega); (try have hs52 : Wb.heap.size + 1 < w5.heap.size := by omega))
      | (go_at_call 88; (with_reducible refine (HA.out.2 _ ?_).mono ?_); (first | exact HB5 | exact HB5.alloc _ | exact (HB5.alloc _).alloc _); rintro e w6 ⟨gd, rfl, HO6, HG6, HN6⟩; obtain ⟨hc6, hf6⟩ := bcell (New.below HN6.out); (have hz6 := HN6.out.size); (try simp only [World.size_alloc, World.drew] at hz6); (have HB6 : New Wb w6 := by (first | exact HB5.new HN6.out | exact (HB5.alloc _).new HN6.out | exact ((HB5.alloc _).alloc _).new HN6.out)); (try have hs61 : Wb.heap.size < w6.heap.size := by omega); (try have hs62 : Wb.heap.size + 1 < w6.heap.size := by omega); (try have hs63 : w5.heap.size < w6.heap.size := by omega); (try have hs64 : w5.heap.size + 1 < w6.heap.size := by omega)))
    all_goals
      clear hc5 hf5 hc6 hf6 hup
      go_wp2_with fail
      go_meet
      case rel =>
        have hg5 := HG5.out
        have hg6 := HG6.out
        (try simp only [World.size_alloc, World.drew] at hg5)
        (try simp only [World.size_alloc, World.drew] at hg6)
        have hg5b := (own_blk_le HO5.out (k := g) (by simp [blk])).2
        have hs0 := HN1.out.size
        have hz65 := HN6.out.size
        (try simp only [World.size_alloc] at hz65)
        have hw6 : New w w6 := HN1.out.new HB6
        refine ⟨g, gd, _, _, rfl, rfl, ?_, ?_, ?_, ?_, ?_, ?_, ?_, ?_, ?_, ?_⟩
        · repeat (first | (refine Blk.new' ?_; (first | rfl | (simp; done))) | refine Blk.alloc ?_ _ | refine Blk.set1 (x := .slice none 0 0) ?_ _ | (refine Blk.far (p := ⟨_, 0, none⟩) ?_ ?_ _; rotate_left; (dsimp only; omega)) | refine Blk.chg ?_ HN6.out (fun h => h) | refine Blk.chg ?_ HN5.out (fun h => h) | refine Blk.drew ?_)
        · repeat (first | (refine Blk.new' ?_; (first | rfl | (simp; done))) | refine Blk.alloc ?_ _ | refine Blk.set1 (x := .slice none 0 0) ?_ _ | (refine Blk.far (p := ⟨_, 0, none⟩) ?_ ?_ _; rotate_left; (dsimp only; omega)) | refine Blk.chg ?_ HN6.out (fun h => h) | refine Blk.chg ?_ HN5.out (fun h => h) | refine Blk.drew ?_)
        · omega
        · omega
        · repeat (first | exact HO5.out | refine own_al ?_ _ | (refine own_fr (p := ⟨_, 0, none⟩) ?_ ?_ _; rotate_left; (dsimp only; omega)) | refine own_nw ?_ HN6.out)
        · repeat (first | exact HO6.out | refine own_al ?_ _ | (refine own_fr (p := ⟨_, 0, none⟩) ?_ ?_ _; rotate_left; (dsimp only; omega)))
        · omega
        · omega
        · omega
        · repeat (first | exact hw6 | refine Chg.alloc ?_ _ | refine Chg.setCell ?_ (fun h => absurd h (by dsimp only; omega)) _)
  case rest =>
    obtain ⟨g, gd, gN, gD, rfl, rfl, HR⟩ := hcut
    clear HA hup
    obtain ⟨bN, bD, hND, hggd, ho, hod, hwg, hwN, hwD, hnw⟩ := HR.out
    obtain ⟨N, hN⟩ : ∃ N, n + 1 = N := ⟨_, rfl⟩
    obtain ⟨K, hK⟩ : ∃ K, N - n' = K := ⟨_, rfl⟩
    have hKi : (N : Int) - (n' : Int) = (K : Int) := by omega
    have hK1 : 1 ≤ K := by omega
    have hNb : N ≤ 900001 := by omega
    have hKN : K + n' = N := by omega
    have hkD := bD.cell 0 (u := .slice (some ⟨gd, 0, none⟩) n' (n' + 1)) rfl
    obtain ⟨hNaX, hNbX, hlaX, hlbX, htX⟩ := H0.out.2.2
    obtain ⟨hnumd, hnumv⟩ := num_facts hNaX hlaX hs
    obtain ⟨hdend, hdenv⟩ := den_facts hNbX hlbX hn' hs (by rw [htX]; exact HS.out)
    obtain ⟨L, hL⟩ : ∃ L, lst (n + 1) (shD 4294967296 (2 ^ s) (2 ^ (32 - s)) la) = L := ⟨_, rfl⟩
    obtain ⟨ld2, hld2⟩ : ∃ l, lst (n' + 1) (shD 4294967296 (2 ^ s) (2 ^ (32 - s)) lb) = l := ⟨_, rfl⟩
    obtain ⟨ld, hld⟩ : ∃ l, ld2.take n' = l := ⟨_, rfl⟩
    rw [hL] at hnumd hnumv ho
    have hLl : L.length = N := by rw [← hL, lst_len, hN]
    rw [hN] at ho bN
    have hkN := bN.cell 0 (u := .slice (some ⟨g, 0, none⟩) N N) rfl
    rw [hld2] at hod
    rw [hld2, hld] at hdend hdenv
    have hld2l : ld2.length = n' + 1 := by rw [← hld2, lst_len]
    have hldl : ld.length = n' := by rw [← hld]; simp [hld2l]
    have hrd : Rd wc (some ⟨gd, 0, none⟩) n' (nv .u32 ld) := by
      have := (Rd.of_own hod).take (k := n') (by omega)
      rwa [nv_take, hld] at this
    obtain ⟨m, hm⟩ : ∃ m, n' = m + 2 := ⟨n' - 2, by omega⟩
    have hj1m : j1 = m + 1 := by omega
    obtain ⟨ld1, hld1⟩ : ∃ d, dg ld j1 = d := ⟨_, rfl⟩
    obtain ⟨nx, hnx⟩ : ∃ d, dg ld m = d := ⟨_, rfl⟩
    have hk1 : wc.cell? ⟨gd, j1, none⟩ = some (.int .u32 (ld1 : Int)) := by
      have := hrd.at_ (k := j1) (by omega)
      obtain ⟨ad, u, hA, hu, hc⟩ := this
      injection hA with hA
      subst hA
      obtain ⟨z, hz, rfl⟩ := nv_at hu
      rw [Addr.add_lit, Nat.zero_add] at hc
      rw [hc, ← hld1, dg_some hz]
    have hk0 : wc.cell? ⟨gd, m, none⟩ = some (.int .u32 (nx : Int)) := by
      have := hrd.at_ (k := m) (by omega)
      obtain ⟨ad, u, hA, hu, hc⟩ := this
      injection hA with hA
      subst hA
      obtain ⟨z, hz, rfl⟩ := nv_at hu
      rw [Addr.add_lit, Nat.zero_add] at hc
      rw [hc, ← hnx, dg_some hz]
    have hld1b : ld1 < 4294967296 := by rw [← hld1]; exact dg_lt hdend (by omega) _
    have hnxb : nx < 4294967296 := by rw [← hnx]; exact dg_lt hdend (by omega) _
    have hmn : m < n' := by omega
    have hw1 : IntKind.i64.wrap ((n' : Int) - 1) = (j1 : Int) := by rw [IntWalk.i64_in _ (by omega)]; omega
    have hw2 : IntKind.i64.wrap ((n' : Int) - 2) = (m : Int) := by rw [IntWalk.i64_in _ (by omega)]; omega
    have HM := Lib.hid (And.intro hm (And.intro hj1m (And.intro hN (And.intro hK hKN))))
    have HD := Lib.hid (And.intro hnumd (And.intro hnumv (And.intro hdend (And.intro hdenv (And.intro hLl (And.intro hldl (And.intro hld1 (And.intro hnx (And.intro hrd (And.intro ho (And.intro bN (And.intro bD (And.intro hND (And.intro hggd (And.intro hwg (And.intro hwN (And.intro hwD hnw)))))))))))))))))
    clear hm hj1m hN hK hKN hnumd hnumv hdend hdenv hLl hldl hld1 hnx hrd ho bN bD hND hggd hwg hwN hwD hnw hL hld2 hld hld2l hod HR hNaX hNbX hlaX hlbX htX hji
    go_upto_region 9 with fail
    refine Code.new1 ?_
    intro W1 bn hnW1 hzW1
    obtain ⟨gn, hgn⟩ : ∃ k, wc.heap.size = k := ⟨_, rfl⟩
    rw [hgn] at bn
    simp only [hgn]
    have hkN1 := hnW1.cell hkN (fun h => h)
    have hkD1 := hnW1.cell hkD (fun h => h)
    have hk11 := hnW1.cell hk1 (fun h => h)
    have hk01 := hnW1.cell hk0 (fun h => h)
    have hkn1 := bn.cell 0 (u := .int .i64 n') rfl
    have H1 := Lib.hid (And.intro bn (And.intro hnW1 hgn))
    clear hkN hkD hk1 hk0 bn hnW1 hzW1 hgn
    go_quiet (fail)
    obtain ⟨W2, hW2⟩ : ∃ W2, W1.drewN nq = W2 := ⟨_, rfl⟩
    have hn12 : New W1 W2 := by rw [← hW2]; exact (Chg.refl _ _).drewN nq
    simp only [hW2]
    have hkN2 := hn12.cell hkN1 (fun h => h)
    have hkn2 := hn12.cell hkn1 (fun h => h)
    have HN2 := Lib.hid hn12
    clear hkN1 hkD1 hk11 hk01 hkn1 hW2 hn12 hw1 hw2
    go_wp2_with (at_make; refine wpList_mk elemU32 rfl rfl _ _ rfl (n := K) rfl rfl (by omega) (by omega) (by omega) (by simp only [maxLen]; omega) ?_; intro w3 hown3 hg3 hz3; have HMK := Lib.hid (And.intro hown3 (And.intro hg3 hz3)); have hkN3 := hg3.cell hkN2 (fun h => h); have hkn3 := hg3.cell hkn2 (fun h => h); clear hown3 hg3 hz3)
    refine Code.new1 ?_
    intro W bQ hnW hzW
    obtain ⟨gq, hgq⟩ : ∃ k, W2.heap.size = k := ⟨_, rfl⟩
    obtain ⟨gQ, hgQ⟩ : ∃ k, w3.heap.size = k := ⟨_, rfl⟩
    obtain ⟨hmk1, hmk2, hmk3⟩ := HMK.out
    obtain ⟨hm, hj1m, hN, hK, hKN⟩ := HM.out
    obtain ⟨hnumd, hnumv, hdend, hdenv, hLl, hldl, hld1, hnx, hrd, ho, bN, bD, hND, hggd, hwg, hwN, hwD, hnw⟩ := HD.out
    obtain ⟨bn, hnW1, hgn⟩ := H1.out
    obtain ⟨haX, hbX, hNaX, hNbX, hlaX, hlbX, htX⟩ := H0.out
    rw [hgq] at hmk1 bQ
    rw [hgQ] at bQ
    have hnc : New wc W := ((hnW1.new HN2.out).new hmk2).new hnW
    have hDpos : 1 ≤ y * 2 ^ s := by
      have h1 : 1 ≤ y := by
        have := hNbX.nil_iff (by omega)
        rcases Nat.eq_zero_or_pos y with h0 | h0
        · rw [this.2 h0] at hlbX; simp at hlbX; omega
        · exact h0
      exact Nat.mul_pos h1 (Nat.pow_pos (by omega))
    have hsz := hnW1.size
    have hsz2 := HN2.out.size
    have hgNl := bN.lt
    have hgDl := bD.lt
    have hgl := (own_blk_le ho (k := g) (by simp [blk])).2
    have hgnl := bn.lt
    have hgdl : gd < wc.heap.size := by
      obtain ⟨ad, u, hA, hu, hc⟩ := hrd.at_ (k := 0) (by omega)
      injection hA with hA
      subst hA
      exact World.block_lt_of_cell? _ _ (by rw [Addr.add_lit] at hc; exact hc)
    have hgNg : gN ≠ g := fun e => (bN.ne_own ho (by decide)) (by simp [blk, e])
    have hgDg : gD ≠ g := fun e => (bD.ne_own ho (by decide)) (by simp [blk, e])
    have hDC : DvC W g gd gq gN gn gD gQ N n' ld (y * 2 ^ s) := ⟨bN.chg hnc (fun h => h), bn.chg ((HN2.out.new hmk2).new hnW) (fun h => h), bD.chg hnc (fun h => h), by rw [hK]; exact bQ, hrd.new hnc, hdend, hdenv, hDpos, by omega, by omega, by omega⟩
    have hstart : DvW W g gq (x * 2 ^ s) (y * 2 ^ s) N n' K W := by
      refine ⟨L, List.replicate K 0, ?_, own_chg ho hnc (fun _ _ h => h), ?_, Chg.refl _ _⟩
      · have := KnI.start (B := 4294967296) (X := x * 2 ^ s) (D := y * 2 ^ s) (N := N) (n := n') (L := L) (by omega) hLl hnumd hnumv (by
          rw [← hN]
          refine kn_low (by omega) (hNaX.lt (by omega) (by omega)) ?_ (by omega) hnn (by omega) hnumv
          have := val_pos (B := 4294967296) (by omega) hNbX.trim (by intro e; rw [e] at hlbX; simp at hlbX; omega)
          rwa [hlbX, hNbX.val] at this)
        rwa [hK] at this
      · rw [hK]
        have := own_chg hmk1 hnW (fun _ _ h => h)
        rwa [show List.replicate K (Value.int .u32 0) = nv .u32 (List.replicate K 0) by simp [nv]] at this
    have HX := Lib.hid (And.intro hDC (And.intro hstart (And.intro (hnw.new hnc) (And.intro hwg (show w.heap.size ≤ gq by have := hnw.size; omega)))))
    have HTV : Hid (4294967296 ^ (m + 1) ≤ val 4294967296 ld) := by
      show _ ≤ _
      rw [hdenv]
      have := val_pos (B := 4294967296) (by omega) hNbX.trim (by intro e; rw [e] at hlbX; simp at hlbX; omega)
      rw [hlbX, hNbX.val, hm, show m + 2 - 1 = m + 1 by omega] at this
      exact Nat.le_trans this (Nat.le_mul_of_pos_right _ (Nat.pow_pos (by omega)))
    simp only [hgq]
    simp only [hgQ]
    clear hgq hgQ hmk1 hmk2 hmk3 hm hj1m hN hK hKN hnumd hnumv hdend hdenv hLl hldl hld1 hnx hrd ho bN bD hND hggd hwg hwN hwD hnw bn hnW1 hgn haX hbX hNaX hNbX hlaX hlbX htX bQ hnc hDpos hsz hsz2 hgNl hgDl hgl hgnl hgdl hgNg hgDg hDC hstart hnW hzW HMK hkN3 hkn3 hkN2 hkn2
    have hkNW := HX.out.1.bN.cell 0 (u := .slice (some ⟨g, 0, none⟩) N N) rfl
    have hknW := HX.out.1.bn.cell 0 (u := .int .i64 n') rfl
    obtain ⟨X, hX⟩ : ∃ X, x * 2 ^ s = X := ⟨_, rfl⟩
    obtain ⟨D, hD⟩ : ∃ D, y * 2 ^ s = D := ⟨_, rfl⟩
    rw [hX, hD] at HX
    have HXD := Lib.hid (And.intro hX hD)
    clear hX hD
    go_step3
    go_wp2_with fail
    clear hkNW hknW hKi
    go_loopg [16] K (fun k s16 wr => s16 = .int .i64 ((k : Int) - 1) ∧ k ≤ K ∧ Hid (DvW W g gq X D N n' k wr))
    case atStart => exact ⟨rfl, Nat.le_refl _, HX.out.2.1⟩
    case round =>
      obtain ⟨rfl, hkK, HV⟩ := hrel
      obtain ⟨wo, rfl⟩ : ∃ wo : World, wo = wr := ⟨_, rfl⟩
      have hCW := HX.out.1.chg HV.out.choose_spec.choose_spec.2.2.2
      have hkNo := hCW.bN.cell 0 (u := .slice (some ⟨g, 0, none⟩) N N) rfl
      have hkno := hCW.bn.cell 0 (u := .int .i64 n') rfl
      have hkQo := hCW.bQ.cell 0 (u := .slice (some ⟨gq, 0, none⟩) (N - n') (N - n')) rfl
      have HCW := Lib.hid hCW
      clear hCW
      cases gk with
      | zero =>
        obtain ⟨Lc, qc, hKn, hLo, hqo, hcho⟩ := HV.out
        obtain ⟨hm, hj1m, hN, hK, hKN⟩ := HM.out
        have hC0 := HX.out.1
        have hDn : D ≤ 4294967296 ^ n' := by
          have h1 := val_lt hC0.dd
          have h2 := hC0.rd.len
          rw [nv_length] at h2
          rw [hC0.vd, h2] at h1
          omega
        obtain ⟨hv1, hv2⟩ := div_ends HXD.out.1 HXD.out.2 hKn (by omega) hDn hs
        have hne := hC0.ne
        have hnN : n' ≤ N := by omega
        have hT1 : ∀ W', New wo W' → Calls Tryd.prog 54 #[.slice (some ⟨gq, 0, none⟩) (N - n') (N - n')] W' fun e w' => ∃ T, e = .returned (.slice (some ⟨gq, 0, none⟩) T (N - n')) ∧ Hid (WM W' (some ⟨gq, 0, none⟩) T (N - n') (x / y)) ∧ W' = w' := fun W' h =>
          (trim_wm _ _ _ qc W' ((Rd.of_own hqo).new h) hKn.qdigs (Nat.le_refl _) (by omega)).mono fun e w' ⟨T, h1, h2, h3⟩ => ⟨T, h1, by have := h2.out.1; rw [hv1] at this; exact this, h3⟩
        have hLw : ∀ W', New wo W' → Calls Tryd.prog 91 #[.slice (some ⟨g, 0, none⟩) n' N, .int .i64 s] W' fun e w' => e = .returned (.slice (some ⟨g, 0, none⟩) n' N) ∧ Hid (w'.ownsRow g 79 1 (.slice (some ⟨g, 0, none⟩) N N) N (nv .u32 (lwL s n' Lc n')) ∧ Chg (fun k => k = g) wo w') := fun W' h =>
          (lowered_any g n' N s Lc W' (own_chg hLo h (fun _ _ h => h)) hKn.digs hnN (by omega) hs).mono fun e w' ⟨h1, h2⟩ => ⟨h1, h2.out.1, (h.mono (fun _ _ h => h.elim)).trans h2.out.2 (fun _ _ h => h)⟩
        have hT2 : ∀ W', W'.ownsRow g 79 1 (.slice (some ⟨g, 0, none⟩) N N) N (nv .u32 (lwL s n' Lc n')) → Calls Tryd.prog 54 #[.slice (some ⟨g, 0, none⟩) n' N] W' fun e w' => ∃ T, e = .returned (.slice (some ⟨g, 0, none⟩) T N) ∧ Hid (WM W' (some ⟨g, 0, none⟩) T N (x % y)) ∧ W' = w' := fun W' h => by
          have hr := (Rd.of_own h).take (k := n') hnN
          rw [nv_take, low_len' (by rw [hKn.len]; exact hnN)] at hr
          exact (trim_wm _ _ _ _ W' hr (low_digs (by rw [← Nat.pow_add, show s + (32 - s) = 32 by omega]) Nat.one_le_two_pow Nat.one_le_two_pow (hKn.digs.take n')) hnN (by omega)).mono fun e w' ⟨T, h1, h2, h3⟩ => ⟨T, h1, by have := h2.out.1; rw [hv2] at this; exact this, h3⟩
        have HT := Lib.hid (And.intro hT1 (And.intro hLw hT2))
        have HEND := Lib.hid (And.intro hcho (And.intro HX.out.2.2 hne))
        have hup : ∀ W, (Instr.slice 31 (.slice (some ⟨g, 0, none⟩) N N) none (some (.int .i64 (n' : Int))) none).run Tryd.prog W = .ok (.slice (some ⟨g, 0, none⟩) n' N) W := fun W => run_upto elemU32 .i64 (some ⟨g, 0, none⟩) N N n' (n' : Int) rfl hnN W
        clear hKn hLo hqo hcho hm hj1m hN hK hKN hC0 hDn hv1 hv2 hne hT1 hLw hT2
        have hneg : decide ((0 : Int) ≤ ((0 : Nat) : Int) - 1) = false := by simp
        rw [show (((0 : Nat) : Int) - 1) = -1 by rfl]
        go_wp2_with fail
        go_region_held3 (fun w' => w'.cell? ⟨gQ, 0, none⟩ = some (.slice (some ⟨gq, 0, none⟩) (N - n') (N - n')) ∧ w'.cell? ⟨gN, 0, none⟩ = some (.slice (some ⟨g, 0, none⟩) N N) ∧ w'.cell? ⟨gn, 0, none⟩ = some (.int .i64 n')) (first | exact ⟨by assumption, by assumption, by assumption⟩)
          (first
            | (go_at_call 54; (with_reducible refine (HT.out.1 _ ?_).mono ?_); exact (Chg.refl _ _).drew; rintro e w4 ⟨T1, rfl, HW4, rfl⟩)
            | (go_at_call 91; (with_reducible refine (HT.out.2.1 _ ?_).mono ?_); exact (Chg.refl _ _).drew; rintro e w5 ⟨rfl, H5⟩; have hd1 := H5.out.2.cell hkQo (by have := HEND.out.2.2; dsimp only; omega); have hd2 := H5.out.2.cell hkNo (by have := HEND.out.2.2; dsimp only; omega); have hd3 := H5.out.2.cell hkno (by have := HEND.out.2.2; dsimp only; omega))
            | (go_at_call 54; (with_reducible refine (HT.out.2.2 _ H5.out.1).mono ?_); rintro e w6 ⟨T2, rfl, HW6, rfl⟩))
        all_goals
          clear hd1 hd2 hd3 hkNo hkno hkQo hup
          go_wp2_with fail
          (try rw [Exit.noGoto_ret])
          go_ret2
          obtain ⟨hcho, ⟨hnW, hg1, hg2⟩, hne⟩ := HEND.out
          have hc5 : Chg (fun k => k = g) wo.drew w5 := ⟨H5.out.2.os, H5.out.2.tape, H5.out.2.output, H5.out.2.size, H5.out.2.block⟩
          refine ⟨_, _, _, _, _, _, rfl, HW4.out.chg hc5 (fun k hk e => by simp [blk] at hk; omega), HW6.out, ?_⟩
          refine hnW.trans (T := fun k => k = g ∨ k = gq) (hcho.trans H5.out.2 (fun _ _ h => .inl h)) (fun k hk e => by omega)
      | succ j =>
        have hj0 : (((j + 1 : Nat) : Int) - 1) = (j : Int) := by omega
        rw [hj0]
        clear hj0
        obtain ⟨Lc, qc, hKn, hLo, hqo, hcho⟩ := HV.out
        obtain ⟨hm, hj1m, hN, hK, hKN⟩ := HM.out
        obtain ⟨hnumd, hnumv, hdend, hdenv, hLl, hldl, hld1, hnx, hrd, ho, bN, bD, hND, hggd, hwg, hwN, hwD, hnw⟩ := HD.out
        have hjn : j + (n' + 1) ≤ N := by omega
        obtain ⟨U, hU⟩ : ∃ U, val 4294967296 ((Lc.drop j).take (n' + 1)) = U := ⟨_, rfl⟩
        have hes := hKn.esb (m := m) (b := ld) (by omega) hm hdend hldl HX.out.1.vd (top_of_val hdend (by omega) HTV.out) hU
        have hu2 := own_cell hLo (i := j + n') (u := .int .u32 (dg Lc (j + n') : Nat)) (by rw [nv, List.getElem?_map, dig_at (by have := hKn.len; omega)]; rfl)
        have hu1 := own_cell hLo (i := j + j1) (u := .int .u32 (dg Lc (j + j1) : Nat)) (by rw [nv, List.getElem?_map, dig_at (by have := hKn.len; omega)]; rfl)
        have hu0 := own_cell hLo (i := j + m) (u := .int .u32 (dg Lc (j + m) : Nat)) (by rw [nv, List.getElem?_map, dig_at (by have := hKn.len; omega)]; rfl)
        have hb2 := dg_lt hKn.digs (by omega) (j + n')
        have hb1 := dg_lt hKn.digs (by omega) (j + j1)
        have hb0 := dg_lt hKn.digs (by omega) (j + m)
        rw [← hm, ← hj1m, hld1, hnx] at hes
        obtain ⟨u2, hu2e⟩ : ∃ d, dg Lc (j + n') = d := ⟨_, rfl⟩
        obtain ⟨u1, hu1e⟩ : ∃ d, dg Lc (j + j1) = d := ⟨_, rfl⟩
        obtain ⟨u0, hu0e⟩ : ∃ d, dg Lc (j + m) = d := ⟨_, rfl⟩
        obtain ⟨a2, ha2⟩ : ∃ a, j + n' = a := ⟨_, rfl⟩
        obtain ⟨a1, ha1⟩ : ∃ a, j + j1 = a := ⟨_, rfl⟩
        obtain ⟨a0, ha0⟩ : ∃ a, j + m = a := ⟨_, rfl⟩
        rw [hu2e] at hu2 hb2 hes
        rw [hu1e] at hu1 hb1 hes
        rw [hu0e] at hu0 hb0 hes
        rw [ha2] at hu2
        rw [ha1] at hu1
        rw [ha0] at hu0
        obtain ⟨T, hT⟩ : ∃ T, u2 * 4294967296 + u1 = T := ⟨_, rfl⟩
        rw [hT] at hes
        have hld11 : 1 ≤ ld1 := hes.ld1
        obtain ⟨Q, hQ⟩ : ∃ Q, U / D = Q := ⟨_, rfl⟩
        rw [hQ] at hes
        have hor : bits .or .u64 ((u2 : Int) * 4294967296) (u1 : Int) = (T : Int) := by rw [shl_or32 u2 u1 hb2 hb1, hT]
        have hTb : T < 18446744073709551616 := by omega
        have hi2 : (j : Int) + (n' : Int) = (a2 : Int) := by omega
        have hi1 : (a2 : Int) - 1 = (a1 : Int) := by omega
        have hi0 : (a2 : Int) - 2 = (a0 : Int) := by omega
        have haN : a2 < N ∧ a1 < N ∧ a0 < N := by omega
        have hw2 : IntKind.i64.wrap ((j : Int) + (n' : Int)) = (a2 : Int) := by rw [IntWalk.i64_in _ (by omega)]; omega
        have hw1 : IntKind.i64.wrap ((a2 : Int) - 1) = (a1 : Int) := by rw [IntWalk.i64_in _ (by omega)]; omega
        have HE := Lib.hid (And.intro hKn (And.intro hLo (And.intro hqo (And.intro hcho (And.intro hU (And.intro hQ (And.intro hes hT)))))))
        have HA2 := Lib.hid (And.intro hi2 hi0)
        clear hKn hLo hqo hcho hm hj1m hN hK hKN hnumd hnumv hdend hdenv hLl hldl hld1 hnx hrd ho bN bD hND hggd hwg hwN hwD hnw hU hes hu2e hu1e hu0e ha2 ha1 ha0 hT hQ hi2 hi1 hi0
        go_wp2_with fail
        go_quiet (fail)
        obtain ⟨wp, hwp⟩ : ∃ wp, wo.drewN nq = wp := ⟨_, rfl⟩
        have hnp : New wo wp := by rw [← hwp]; exact (Chg.refl _ _).drewN nq
        simp only [hwp]
        obtain ⟨dq, hdq⟩ : ∃ d, T / ld1 = d := ⟨_, rfl⟩
        obtain ⟨rq, hrq⟩ : ∃ d, T % ld1 = d := ⟨_, rfl⟩
        have hdv2 : (T : Int) / (ld1 : Int) = (dq : Int) := by rw [← hdq]; simp
        have hmd2 : (T : Int) % (ld1 : Int) = (rq : Int) := by rw [← hrq]; simp
        have hdv : (T : Int).tdiv (ld1 : Int) = (dq : Int) := by rw [Int.tdiv_eq_ediv_of_nonneg (by omega), hdv2]
        have hmd : (T : Int).tmod (ld1 : Int) = (rq : Int) := by rw [Int.tmod_eq_emod_of_nonneg (by omega), hmd2]
        have hdqb : dq < 18446744073709551616 := by rw [← hdq]; exact Nat.lt_of_le_of_lt (Nat.div_le_self _ _) hTb
        have hrqb : rq < 4294967296 := by rw [← hrq]; exact Nat.lt_trans (Nat.mod_lt _ (by omega)) hld1b
        have HQR := Lib.hid (And.intro hdq hrq)
        clear hdq hrq
        have hld0 : ((ld1 : Int) == 0) = false := by simp; omega
        have hld0' : ¬ (ld1 : Int) = 0 := by omega
        have HNP := Lib.hid hnp
        have HU0 := Lib.hid hu0
        clear hnp hwp hw2 hw1 hkNo hkno hkQo hu2 hu1 hu0 hor
        go_wp2_with fail
        go_quiet (fail)
        obtain ⟨wq, hwq⟩ : ∃ wq, wp.drewN nq = wq := ⟨_, rfl⟩
        have hnq : New wo wq := HNP.out.new (by rw [← hwq]; exact (Chg.refl _ _).drewN nq)
        simp only [hwq]
        have hset : ∀ dgt, dgt < 4294967296 → Q ≤ dgt → dgt ≤ Q + 1 → Calls Tryd.prog 89 #[.int .i64 j, .int .u64 dgt, .pointer (some ⟨gN, 0, none⟩), .pointer (some ⟨gn, 0, none⟩), .pointer (some ⟨gD, 0, none⟩), .pointer (some ⟨gQ, 0, none⟩)] wq fun e w' => (∃ v, e = .returned v) ∧ Hid (DvW W g gq X D N n' j w') := fun dgt h1 h2 h3 => by
          obtain ⟨hKn, hLo, hqo, hcho, hU, hQ, hes, hT⟩ := HE.out
          exact settle_any wq HX.out.1 hKn (own_chg hLo hnq (fun _ _ h => h)) (own_chg hqo hnq (fun _ _ h => h)) (hcho.new hnq) hjn hU hQ h1 h2 h3
        have hkNq := (HCW.out.bN.chg hnq (fun h => h)).cell 0 (u := .slice (some ⟨g, 0, none⟩) N N) rfl
        have hknq := (HCW.out.bn.chg hnq (fun h => h)).cell 0 (u := .int .i64 n') rfl
        have hu0q := hnq.cell HU0.out (fun h => h)
        have HSET := Lib.hid hset
        have HES := Lib.hid (EsI.start HE.out.2.2.2.2.2.2.1 (Nat.one_le_pow _ _ (by omega)))
        rw [HQR.out.1, HQR.out.2] at HES
        clear hwq hset hnq hdv2 hmd2 hdv hmd hld0 hld0'
        go_wp2_with fail
        go_loopg [18, 19] dq (fun d s18 s19 wi => ∃ r : Nat, s18 = .int .u64 (d : Int) ∧ s19 = .int .u64 (r : Int) ∧ r < 4294967296 ∧ d < 18446744073709551616 ∧ Hid (EsI 4294967296 T ld1 nx u0 Q d r) ∧ wi = wq)
        case atStart => exact ⟨rq, rfl, rfl, hrqb, hdqb, HES, rfl⟩
        case round =>
          obtain ⟨r, rfl, rfl, hrb, hdb, HI, rfl⟩ := hrel
          obtain ⟨M, hM⟩ : ∃ M, gk * nx = M := ⟨_, rfl⟩
          obtain ⟨R, hR⟩ : ∃ R, r * 4294967296 + u0 = R := ⟨_, rfl⟩
          have hRb : R < 18446744073709551616 := by omega
          have hor2 : bits .or .u64 ((r : Int) * 4294967296) (u0 : Int) = (R : Int) := by rw [shl_or32 r u0 hrb hb0, hR]
          have hw2 : (j : Int) + (n' : Int) = (a2 : Int) := HA2.out.1
          have hw0 : (a2 : Int) - 2 = (a0 : Int) := HA2.out.2
          by_cases hB : gk < 4294967296
          · have hsh : (gk : Int) / 4294967296 = 0 := by omega
            have hMb : M < 18446744073709551616 := by
              rw [← hM]
              exact Nat.lt_of_le_of_lt (Nat.mul_le_mul (show gk ≤ 4294967295 by omega) (show nx ≤ 4294967295 by omega)) (by decide)
            have hMi : (gk : Int) * (nx : Int) = (M : Int) := by rw [← hM]; simp
            by_cases hle : M ≤ R
            · have hfin := HI.out.exit HE.out.2.2.2.2.2.2.1 (.inl ⟨hB, by omega⟩)
              have hst := HSET.out gk hfin.1 hfin.2.1 hfin.2.2
              have HST := Lib.hid hst
              have hgt : decide ((R : Int) < (M : Int)) = false := by simp; omega
              have hgt' : decide (R < M) = false := by simp; omega
              clear hst hM hR hfin
              go_wp2_with fail
              refine HST.out.mono ?_
              rintro e w5 ⟨⟨ve, rfl⟩, H5⟩
              go_wp2_with fail
              go_roundg j
              case rel => exact ⟨rfl, by omega, H5⟩
              all_goals omega
            · obtain ⟨hd1, hIn⟩ := HI.out.down HE.out.2.2.2.2.2.2.1 (.inr (by omega))
              obtain ⟨d', hd'⟩ : ∃ d, gk - 1 = d := ⟨_, rfl⟩
              rw [hd'] at hIn
              obtain ⟨r2, hr2⟩ : ∃ d, r + ld1 = d := ⟨_, rfl⟩
              rw [hr2] at hIn
              have hdi : (gk : Int) - 1 = (d' : Int) := by omega
              have hri : (r : Int) + (ld1 : Int) = (r2 : Int) := by omega
              have hdlt : d' < gk := by omega
              have hr2b : r2 < 8589934592 := by omega
              have HIN := Lib.hid hIn
              have hgt : (R : Int) < (M : Int) := by omega
              have hgt' : R < M := by omega
              by_cases hover : r2 < 4294967296
              · have hs2 : (r2 : Int) / 4294967296 = 0 := by omega
                clear hIn hd' hr2 hM hR
                go_wp2_with fail
                go_roundg d'
                case rel => exact ⟨r2, rfl, rfl, hover, by omega, HIN, rfl⟩
                all_goals omega
              · have hs2 : (r2 : Int) / 4294967296 = 1 := by omega
                have hfin := hIn.exit HE.out.2.2.2.2.2.2.1 (.inr (by omega))
                have hst := HSET.out d' hfin.1 hfin.2.1 hfin.2.2
                have HST := Lib.hid hst
                clear hIn hd' hr2 hM hR hst hfin
                go_wp2_with fail
                refine HST.out.mono ?_
                rintro e w5 ⟨⟨ve, rfl⟩, H5⟩
                go_wp2_with fail
                go_roundg j
                case rel => exact ⟨rfl, by omega, H5⟩
                all_goals omega
          · obtain ⟨hd1, hIn⟩ := HI.out.down HE.out.2.2.2.2.2.2.1 (.inl (by omega))
            obtain ⟨d', hd'⟩ : ∃ d, gk - 1 = d := ⟨_, rfl⟩
            rw [hd'] at hIn
            obtain ⟨r2, hr2⟩ : ∃ d, r + ld1 = d := ⟨_, rfl⟩
            rw [hr2] at hIn
            have hdi : (gk : Int) - 1 = (d' : Int) := by omega
            have hri : (r : Int) + (ld1 : Int) = (r2 : Int) := by omega
            have hdlt : d' < gk := by omega
            have hr2b : r2 < 8589934592 := by omega
            have HIN := Lib.hid hIn
            obtain ⟨hq, hhq⟩ : ∃ d, gk / 4294967296 = d := ⟨_, rfl⟩
            have hsh : (gk : Int) / 4294967296 = (hq : Int) := by omega
            have hne : ((hq : Int) != 0) = true := by simp; omega
            have hq0 : ¬ hq = 0 := by omega
            clear hhq
            by_cases hover : r2 < 4294967296
            · have hs2 : (r2 : Int) / 4294967296 = 0 := by omega
              clear hIn hd' hr2 hM hR
              go_wp2_with fail
              go_roundg d'
              case rel => exact ⟨r2, rfl, rfl, hover, by omega, HIN, rfl⟩
              all_goals omega
            · have hs2 : (r2 : Int) / 4294967296 = 1 := by omega
              have hfin := hIn.exit HE.out.2.2.2.2.2.2.1 (.inr (by omega))
              have hst := HSET.out d' hfin.1 hfin.2.1 hfin.2.2
              have HST := Lib.hid hst
              clear hIn hd' hr2 hM hR hst hfin
              go_wp2_with fail
              refine HST.out.mono ?_
              rintro e w5 ⟨⟨ve, rfl⟩, H5⟩
              go_wp2_with fail
              go_roundg j
              case rel => exact ⟨rfl, by omega, H5⟩
              all_goals omega

end Go.Proofs.YtgofjkppeobjfaaDoor

namespace Go.Proofs.YtgofjkppeobjfaaDoor
set_option linter.unusedVariables false
open Go.RowKit Go.Mem Go.Dig Go.Pure

set_option maxRecDepth 100000 in
set_option maxHeartbeats 1000000 in
theorem divMag_lt (A : Option Addr) (n c : Nat) (A' : Option Addr) (n' c' : Nat) (x y : Nat) (w : World) (hx : WM w A n c x) (hy : WM w A' n' c' y) (hlt : x < y) :
    Calls Tryd.prog 64 #[.slice A n c, .slice A' n' c'] w fun e w' => ∃ Q nq cq R nr cr, e = .returned (.tuple #[.slice Q nq cq, .slice R nr cr]) ∧ Hid (WM w' Q nq cq (x / y) ∧ WM w' R nr cr (x % y) ∧ New w w') := by
  have hcm := cmpMag_any A n c A' n' c' x y w hx hy
  rw [cmpI_lt (by omega)] at hcm
  have HC := Lib.hid (And.intro hcm hx)
  clear hcm hx hy
  go_enter Tryd.func64, Tryd.ntmps64
  go_wp2_with fail
  go_step3
  go_wp2_with fail
  refine HC.out.1.mono ?_
  rintro e w1 ⟨rfl, q1, hq1⟩
  have HN : Hid (New w w1) := by rw [hq1]; exact (Chg.refl _ _).drewN q1
  clear hq1
  go_wp2_with fail
  (try rw [Exit.noGoto_ret])
  go_ret2
  exact ⟨_, _, _, _, _, _, rfl, by rw [Nat.div_eq_of_lt hlt]; exact WM.zero _, by rw [Nat.mod_eq_of_lt hlt]; exact HC.out.2.new HN.out, HN.out⟩

set_option maxRecDepth 100000 in
set_option maxHeartbeats 1000000 in
theorem divMag_one (A : Option Addr) (n c : Nat) (A' : Option Addr) (c' : Nat) (x y : Nat) (w : World) (hx : WM w A n c x) (hy : WM w A' 1 c' y) (hn : n ≤ 900000) (hle : y ≤ x) :
    Calls Tryd.prog 64 #[.slice A n c, .slice A' 1 c'] w fun e w' => ∃ Q nq cq R nr cr, e = .returned (.tuple #[.slice Q nq cq, .slice R nr cr]) ∧ Hid (WM w' Q nq cq (x / y) ∧ WM w' R nr cr (x % y) ∧ New w w') := by
  have hcm := cmpMag_any A n c A' 1 c' x y w hx hy
  obtain ⟨lb, hb, hd1, hd2, hNb⟩ := hy
  have hlb : lb.length = 1 := by have := hb.len; rwa [nv_length] at this
  obtain ⟨bd, u, rfl, hu, hcu⟩ := hb.at_ (show 0 < 1 by omega)
  obtain ⟨z, hz, rfl⟩ := nv_at hu
  have hzy : z = y := by
    obtain ⟨d, rfl⟩ := List.length_eq_one_iff.1 hlb
    have := hNb.val
    simp [val_cons, val_nil] at this hz
    omega
  subst hzy
  have hz1 : 1 ≤ z := by
    have := top_pos hNb hlb (by omega)
    rw [show 1 - 1 = 0 by rfl, dg_some hz] at this
    exact this
  have hzb : z < 4294967296 := hNb.digs.at_ hz
  have hcv : decide (cmpI (x : Int) (z : Int) < 0) = false := by
    unfold cmpI
    rw [if_neg (by omega)]
    split <;> decide
  generalize cmpI (x : Int) (z : Int) = cv at *
  have HC := Lib.hid (And.intro hcm hx)
  rw [show bd.add 0 = bd by simp [Addr.add]] at hcu
  clear hcm hx hb hNb hlb hu hz
  go_enter Tryd.func64, Tryd.ntmps64
  go_wp2_with fail
  go_step3
  go_wp2_with fail
  refine HC.out.1.mono ?_
  rintro e w1 ⟨rfl, q1, hq1⟩
  have hn1 : New w w1 := by rw [hq1]; exact (Chg.refl _ _).drewN q1
  have hcu1 := hn1.cell hcu (fun h => h)
  have HN := Lib.hid hn1
  clear hq1 hn1 hcu
  go_wp2_with fail
  refine (divWord_any A n c x z w1 (HC.out.2.new HN.out) (by omega) hz1 hzb).mono ?_
  rintro e w2 ⟨l, g, rfl, H2⟩
  clear hcu1
  obtain ⟨r, hr⟩ : ∃ r, x % z = r := ⟨_, rfl⟩
  rw [hr]
  have hrb : r < 4294967296 := by rw [← hr]; exact Nat.lt_trans (Nat.mod_lt _ (by omega)) hzb
  have HR := Lib.hid hr
  clear hr
  go_wp2_with fail
  refine (trim_wm _ _ _ l w2 H2.out.1 H2.out.2.1 (Nat.le_refl _) (by omega)).mono ?_
  rintro e w3 ⟨T1, rfl, HT1, rfl⟩
  go_wp2_with fail
  refine Calls.new1 ?_
  intro W3 b3 hn3 hz3
  have hr3 : Rd W3 (some ⟨w2.heap.size, 0, none⟩) 1 (nv .u32 [r]) := ⟨rfl, fun _ => ⟨_, rfl, fun j u hu => by
    match j, hu with
    | 0, hu =>
      simp [nv] at hu
      subst hu
      rw [Addr.add_lit]
      exact b3.cell 0 rfl⟩⟩
  refine (trim_wm _ _ _ [r] W3 hr3 (Digs.cons hrb (Digs.nil _)) (Nat.le_refl _) (by omega)).mono ?_
  rintro e w4 ⟨T2, rfl, HT2, rfl⟩
  have HF := Lib.hid hn3
  clear hr3 b3 hn3 hz3
  go_wp2_with fail
  (try rw [Exit.noGoto_ret])
  go_ret2
  refine ⟨_, _, _, _, _, _, rfl, ?_, ?_, ?_⟩
  · have := HT1.out.1.new HF.out
    rwa [H2.out.2.2.1] at this
  · have := HT2.out.1
    rw [show val 4294967296 [r] = r by simp [val_cons, val_nil]] at this
    rwa [← HR.out] at this
  · exact (HN.out.new H2.out.2.2.2.2).new HF.out

theorem divMag_any (A : Option Addr) (n c : Nat) (A' : Option Addr) (n' c' : Nat) (x y : Nat) (w : World) (hx : WM w A n c x) (hy : WM w A' n' c' y) (hn : n ≤ 900000) (hy1 : 1 ≤ y) :
    Calls Tryd.prog 64 #[.slice A n c, .slice A' n' c'] w fun e w' => ∃ Q nq cq R nr cr, e = .returned (.tuple #[.slice Q nq cq, .slice R nr cr]) ∧ Hid (WM w' Q nq cq (x / y) ∧ WM w' R nr cr (x % y) ∧ New w w') := by
  rcases Nat.lt_or_ge x y with h | h
  · exact divMag_lt A n c A' n' c' x y w hx hy h
  · rcases (show n' = 0 ∨ n' = 1 ∨ 2 ≤ n' by omega) with h0 | h0 | h0
    · have := (hy.pos).1 h0; omega
    · subst h0; exact divMag_one A n c A' c' x y w hx hy hn h
    · exact divMag_long A n c A' n' c' x y w hx hy hn h0 h
end Go.Proofs.YtgofjkppeobjfaaDoor

namespace Go.Proofs.YtgofjkppeobjfaaDoor
set_option linter.unusedVariables false
open Go.RowKit Go.Mem Go.Dig Go.Pure

theorem WI.store22 {W : World} {v : Value} {z : Int} {g g' : Nat} {t t' : TypeId} {a b c d : Value} (hm : WI W v z) (h : Blk W g t #[a, b]) (h' : Blk W g' t' #[c, d]) (hne : g ≠ g') (hi : NoInt [a, b]) (hi' : NoInt [c, d]) (p q r u : Value) : WI (set22 W g g' p q r u) v z := by
  have h1 : WI ((W.setCell ⟨g, 0, none⟩ p).setCell ⟨g, 1, none⟩ q) v z := hm.store h hi (Chg.at2 _ _ _ _)
  have h2 : Blk ((W.setCell ⟨g, 0, none⟩ p).setCell ⟨g, 1, none⟩ q) g' t' #[c, d] := (h'.far (p := ⟨g, 0, none⟩) (fun e => hne e.symm) _).far (p := ⟨g, 1, none⟩) (fun e => hne e.symm) _
  exact h1.store h2 hi' (Chg.at2 _ _ _ _)
theorem WM.len_mono {w w' : World} {A A' : Option Addr} {n c m n' c' m' : Nat} (h : WM w A n c m) (h' : WM w' A' n' c' m') (hm : m ≤ m') : n ≤ n' := by
  obtain ⟨l, h1, _, _, h2⟩ := h
  obtain ⟨l', h1', _, _, h2'⟩ := h'
  have e1 := h1.len
  have e2 := h1'.len
  rw [nv_length] at e1 e2
  rcases Nat.lt_or_ge n' n with hlt | hge
  · have := h2'.len_lt (by omega) h2 (by omega); omega
  · exact hge
theorem noInt2 (s : Bool) (A : Option Addr) (n c : Nat) : NoInt [Value.bool s, Value.slice A n c] := fun k z h => by simp at h

set_option maxRecDepth 100000 in
set_option maxHeartbeats 2000000 in
theorem wdiv_wm (s t : Bool) (A : Option Addr) (n c : Nat) (A' : Option Addr) (n' c' : Nat) (X Y : Nat) (w : World) (hx : WM w A n c X) (hy : WM w A' n' c' Y) (hn : n ≤ 900000) (hn' : n' ≤ 900000) (hY : 1 ≤ Y) :
    Calls Tryd.prog 29 #[.agg #[.bool s, .slice A n c], .agg #[.bool t, .slice A' n' c']] w fun e w' => ∃ s1 A1 n1 c1 s2 A2 n2 c2, e = .returned (.tuple #[.agg #[.bool s1, .slice A1 n1 c1], .agg #[.bool s2, .slice A2 n2 c2], .int .i64 0]) ∧ Hid (WI w' (.agg #[.bool s1, .slice A1 n1 c1]) (sg s X / sg t Y) ∧ WI w' (.agg #[.bool s2, .slice A2 n2 c2]) (sg s X % sg t Y) ∧ New w w') := by
  obtain ⟨ZQ, hZQ⟩ : ∃ Z, sg s X / sg t Y = Z := ⟨_, rfl⟩
  obtain ⟨ZR, hZR⟩ : ∃ Z, sg s X % sg t Y = Z := ⟨_, rfl⟩
  rw [hZQ, hZR]
  have hn0 : ¬ n' = 0 := fun h => by have := hy.pos.1 h; omega
  have hn0b : ((n' : Int) == 0) = false := by simp; omega
  have HZ := Lib.hid (And.intro hZQ hZR)
  have H0 := Lib.hid (And.intro hx hy)
  clear hx hy hZQ hZR
  go_enter Tryd.func29, Tryd.ntmps29
  go_wp2_with fail
  refine Calls.new4 ?_
  intro W hb1 hb2 hb3 hb4 hnW hzW
  refine (divMag_any A n c A' n' c' X Y W (H0.out.1.new hnW) (H0.out.2.new hnW) hn hY).mono ?_
  rintro e w1 ⟨Q, nq, cq, R, nr, cr, rfl, H1⟩
  obtain ⟨hwq, hwr, hn1⟩ := H1.out
  have hr0 := hwr.pos
  have hk1 := hb1.chg hn1 (fun h => h)
  have hk2 := hb2.chg hn1 (fun h => h)
  have hk3 := hb3.chg hn1 (fun h => h)
  have hk4 := hb4.chg hn1 (fun h => h)
  have ha0 := hk1.cell 0 (u := .bool s) rfl
  have hb0 := hk2.cell 0 (u := .bool t) rfl
  have hb1' := hk2.cell 1 (u := .slice A' n' c') rfl
  have HB := Lib.hid (And.intro hk1 (And.intro hk2 (And.intro hk3 (And.intro hk4 (hnW.new hn1)))))
  clear hb1 hb2 hb3 hb4 hnW hzW hn1 H1 hk1 hk2 hk3 hk4
  by_cases hcase : s = true ∧ X % Y ≠ 0
  · obtain ⟨hs, hrest⟩ := hcase
    subst hs
    have hnr : (0 : Int) < (nr : Int) := by
      rcases Nat.eq_zero_or_pos nr with h | h
      · exact absurd (hr0.1 h) hrest
      · omega
    have hnr' : 0 < nr := by omega
    have HWQ := Lib.hid (And.intro hwq hwr)
    have HRE := Lib.hid hrest
    clear hwq hwr hr0 hrest
    go_wp2_with fail
    refine Calls.new1 ?_
    intro W5 hb5 hn5 hz5
    have hone : WM W5 (some ⟨w1.heap.size, 0, none⟩) 1 1 1 := ⟨[1], ⟨rfl, fun _ => ⟨_, rfl, fun j u hu => by
      match j, hu with
      | 0, hu =>
        simp [nv] at hu
        subst hu
        rw [Addr.add_lit]
        exact hb5.cell 0 rfl⟩⟩, Nat.le_refl _, by omega, ⟨Digs.cons (by omega) (Digs.nil _), by simp [Trim], by simp [val_cons, val_nil]⟩⟩
    have hnq : nq ≤ 1000000 := Nat.le_trans (HWQ.out.1.len_mono H0.out.1 (Nat.div_le_self _ _)) (by omega)
    refine (addMag_any Q nq cq _ 1 1 (X / Y) 1 W5 (HWQ.out.1.new hn5) hone hnq (by omega)).mono ?_
    rintro e w2 ⟨Q2, nq2, cq2, rfl, H2⟩
    obtain ⟨hwq2, hn2⟩ := H2.out
    have hn12 := hn5.new hn2
    have hb1'' := hn12.cell hb1' (fun h => h)
    have ha0' := hn12.cell ha0 (fun h => h)
    have hb0' := hn12.cell hb0 (fun h => h)
    have HN2 := Lib.hid (And.intro hn12 hwq2)
    clear hb5 hn5 hz5 hone hnq H2 hwq2 hn2 hn12 ha0 hb0 hb1'
    go_wp2_with fail
    refine (subMag_any A' n' c' R nr cr Y (X % Y) w2 ((H0.out.2.new (HB.out.2.2.2.2)).new HN2.out.1) (HWQ.out.2.new HN2.out.1) (Nat.le_of_lt (Nat.mod_lt _ (by omega))) (by omega)).mono ?_
    rintro e w3 ⟨R2, nr2, cr2, rfl, H3⟩
    obtain ⟨hwr2, hn3⟩ := H3.out
    have ha3 := hn3.cell ha0' (fun h => h)
    have hb3 := hn3.cell hb0' (fun h => h)
    have HN3 := Lib.hid (And.intro (HN2.out.1.new hn3) (And.intro (HN2.out.2.new hn3) hwr2))
    clear H3 hwr2 hn3 ha0' hb0' hb1''
    go_wp2_with fail
    refine (made_h (!t) Q2 nq2 cq2 _ w3 HN3.out.2.1).mono ?_
    rintro e w4 ⟨s4, A4, n4, c4, rfl, HI4, HN4⟩
    clear ha3 hb3
    go_wp2_with fail
    refine (made_h false R2 nr2 cr2 _ w4 (HN3.out.2.2.new HN4.out)).mono ?_
    rintro e w5 ⟨s5, A5, n5, c5, rfl, HI5, HN5⟩
    have hn15 := (HN3.out.1.new HN4.out).new HN5.out
    have hk3 := HB.out.2.2.1.chg hn15 (fun h => h)
    have hk4 := HB.out.2.2.2.1.chg hn15 (fun h => h)
    have g30 := hk3.cell 0 rfl
    have g31 := hk3.cell 1 rfl
    have g40 := hk4.cell 0 rfl
    have g41 := hk4.cell 1 rfl
    have f30 := hk3.frozen 0
    have f31 := hk3.frozen 1
    have f40 := hk4.frozen 0
    have f41 := hk4.frozen 1
    have HK := Lib.hid (And.intro hk3 (And.intro hk4 hn15))
    clear hk3 hk4 hn15
    go_wp2
    obtain ⟨hk3, hk4, hn15⟩ := HK.out
    have hb22 := blk22 hk3 hk4 (by omega) (.bool s4) (.slice A4 n4 c4) (.bool s5) (.slice A5 n5 c5)
    obtain ⟨e1, e2⟩ := ediv_neg' t X Y hY HRE.out
    rw [e1] at HZ
    rw [e2] at HZ
    have i4 := HI4.out.new HN5.out
    have i5 := HI5.out
    rw [show sg (!t) (X / Y + 1) = sg (true != t) ((X / Y + 1 : Nat)) by cases t <;> rfl, HZ.out.1] at i4
    rw [show sg false (Y - X % Y) = ((Y - X % Y : Nat) : Int) by rfl, HZ.out.2] at i5
    refine bodyPost_ret (res_cct rfl _ rfl (aggInt.load hb22.1) rfl (aggInt.load hb22.2) rfl) rfl ⟨s4, A4, n4, c4, s5, A5, n5, c5, rfl, i4.store22 hk3 hk4 (by omega) (noInt2 _ _ _ _) (noInt2 _ _ _ _) _ _ _ _, i5.store22 hk3 hk4 (by omega) (noInt2 _ _ _ _) (noInt2 _ _ _ _) _ _ _ _, ?_⟩
    exact Chg.owned (HB.out.2.2.2.2.new hn15) (chg22 _ _ _ _ _ _ _) (fun k e => by omega)
  · have hor : s = false ∨ X % Y = 0 := by
      cases s
      · exact .inl rfl
      · right
        rcases Nat.eq_zero_or_pos (X % Y) with h | h
        · exact h
        · exact absurd ⟨rfl, by omega⟩ hcase
    obtain ⟨e1, e2⟩ := ediv_pos' s t X Y hY hor
    rw [e1, e2] at HZ
    have HWQ := Lib.hid (And.intro hwq hwr)
    have hsplit : s = false ∨ (s = true ∧ nr = 0) := by
      cases s
      · exact .inl rfl
      · exact .inr ⟨rfl, hr0.2 (hor.resolve_left (by simp))⟩
    clear hwq hwr hr0 hcase hor e1 e2 hb1'
    rcases hsplit with hs | ⟨hs, hnr⟩
    · subst hs
      go_wp2_with fail
      refine (made_h t Q nq cq _ w1 HWQ.out.1).mono ?_
      rintro e w4 ⟨s4, A4, n4, c4, rfl, HI4, HN4⟩
      clear ha0 hb0
      go_wp2_with fail
      refine (made_h false R nr cr _ w4 (HWQ.out.2.new HN4.out)).mono ?_
      rintro e w5 ⟨s5, A5, n5, c5, rfl, HI5, HN5⟩
      have hn15 := HN4.out.new HN5.out
      have hk3 := HB.out.2.2.1.chg hn15 (fun h => h)
      have hk4 := HB.out.2.2.2.1.chg hn15 (fun h => h)
      have g30 := hk3.cell 0 rfl
      have g31 := hk3.cell 1 rfl
      have g40 := hk4.cell 0 rfl
      have g41 := hk4.cell 1 rfl
      have f30 := hk3.frozen 0
      have f31 := hk3.frozen 1
      have f40 := hk4.frozen 0
      have f41 := hk4.frozen 1
      have HK := Lib.hid (And.intro hk3 (And.intro hk4 hn15))
      clear hk3 hk4 hn15
      go_wp2
      obtain ⟨hk3, hk4, hn15⟩ := HK.out
      have hb22 := blk22 hk3 hk4 (by omega) (.bool s4) (.slice A4 n4 c4) (.bool s5) (.slice A5 n5 c5)
      have i4 := HI4.out.new HN5.out
      have i5 := HI5.out
      rw [show sg t (X / Y) = sg (false != t) ((X / Y : Nat)) by cases t <;> rfl, HZ.out.1] at i4
      rw [show sg false (X % Y) = ((X % Y : Nat) : Int) by rfl, HZ.out.2] at i5
      refine bodyPost_ret (res_cct rfl _ rfl (aggInt.load hb22.1) rfl (aggInt.load hb22.2) rfl) rfl ⟨s4, A4, n4, c4, s5, A5, n5, c5, rfl, i4.store22 hk3 hk4 (by omega) (noInt2 _ _ _ _) (noInt2 _ _ _ _) _ _ _ _, i5.store22 hk3 hk4 (by omega) (noInt2 _ _ _ _) (noInt2 _ _ _ _) _ _ _ _, ?_⟩
      exact Chg.owned (HB.out.2.2.2.2.new hn15) (chg22 _ _ _ _ _ _ _) (fun k e => by omega)
    · subst hs
      subst hnr
      go_wp2_with fail
      refine (made_h (!t) Q nq cq _ w1 HWQ.out.1).mono ?_
      rintro e w4 ⟨s4, A4, n4, c4, rfl, HI4, HN4⟩
      clear ha0 hb0
      go_wp2_with fail
      refine (made_h false R 0 cr _ w4 (HWQ.out.2.new HN4.out)).mono ?_
      rintro e w5 ⟨s5, A5, n5, c5, rfl, HI5, HN5⟩
      have hn15 := HN4.out.new HN5.out
      have hk3 := HB.out.2.2.1.chg hn15 (fun h => h)
      have hk4 := HB.out.2.2.2.1.chg hn15 (fun h => h)
      have g30 := hk3.cell 0 rfl
      have g31 := hk3.cell 1 rfl
      have g40 := hk4.cell 0 rfl
      have g41 := hk4.cell 1 rfl
      have f30 := hk3.frozen 0
      have f31 := hk3.frozen 1
      have f40 := hk4.frozen 0
      have f41 := hk4.frozen 1
      have HK := Lib.hid (And.intro hk3 (And.intro hk4 hn15))
      clear hk3 hk4 hn15
      go_wp2
      obtain ⟨hk3, hk4, hn15⟩ := HK.out
      have hb22 := blk22 hk3 hk4 (by omega) (.bool s4) (.slice A4 n4 c4) (.bool s5) (.slice A5 n5 c5)
      have i4 := HI4.out.new HN5.out
      have i5 := HI5.out
      rw [show sg (!t) (X / Y) = sg (true != t) ((X / Y : Nat)) by cases t <;> rfl, HZ.out.1] at i4
      rw [show sg false (X % Y) = ((X % Y : Nat) : Int) by rfl, HZ.out.2] at i5
      refine bodyPost_ret (res_cct rfl _ rfl (aggInt.load hb22.1) rfl (aggInt.load hb22.2) rfl) rfl ⟨s4, A4, n4, c4, s5, A5, n5, c5, rfl, i4.store22 hk3 hk4 (by omega) (noInt2 _ _ _ _) (noInt2 _ _ _ _) _ _ _ _, i5.store22 hk3 hk4 (by omega) (noInt2 _ _ _ _) (noInt2 _ _ _ _) _ _ _ _, ?_⟩
      exact Chg.owned (HB.out.2.2.2.2.new hn15) (chg22 _ _ _ _ _ _ _) (fun k e => by omega)
end Go.Proofs.YtgofjkppeobjfaaDoor

namespace Go.Proofs.YtgofjkppeobjfaaDoor
set_option linter.unusedVariables false
open Go.RowKit Go.Mem Go.Dig Go.Pure

theorem wdiv_any (v v' : Value) (x y : Int) (w : World) (hx : WI w v x) (hy : WI w v' y) (bx : x.natAbs < 2 ^ 900000) (bY : y.natAbs < 2 ^ 900000) (hy0 : y ≠ 0) :
    Calls Tryd.prog 29 #[v, v'] w fun e w' => ∃ s1 A1 n1 c1 s2 A2 n2 c2, e = .returned (.tuple #[.agg #[.bool s1, .slice A1 n1 c1], .agg #[.bool s2, .slice A2 n2 c2], .int .i64 0]) ∧ Hid (WI w' (.agg #[.bool s1, .slice A1 n1 c1]) (x / y) ∧ WI w' (.agg #[.bool s2, .slice A2 n2 c2]) (x % y) ∧ New w w') := by
  obtain ⟨s, A, n, c, rfl, hs, hm⟩ := hx
  obtain ⟨t, A', n', c', rfl, ht, hm'⟩ := hy
  have h := wdiv_wm s t A n c A' n' c' x.natAbs y.natAbs w hm hm' (bz_wlen hm bx) (bz_wlen hm' bY) (by omega)
  rw [hs, ht, sg_of, sg_of] at h
  rw [hs, ht]
  exact h

set_option maxRecDepth 100000 in
set_option maxHeartbeats 1000000 in
theorem wdiv_zero (v v' : Value) (x : Int) (w : World) (hx : WI w v x) (hy : WI w v' 0) :
    Calls Tryd.prog 29 #[v, v'] w fun e w' => e = .returned (.tuple #[.agg #[.bool false, .slice none 0 0], .agg #[.bool false, .slice none 0 0], .int .i64 1]) ∧ New w w' := by
  obtain ⟨s, A, n, c, rfl, hs, hm⟩ := hx
  obtain ⟨t, A', n', c', rfl, ht, hm'⟩ := hy
  obtain rfl : n' = 0 := hm'.pos.2 rfl
  clear hs hm ht hm'
  go_enter Tryd.func29, Tryd.ntmps29
  go_wp2_with fail
  have hb4 : ∀ W : World, Blk W 0 0 #[] → True := fun _ _ => trivial
  clear hb4
  obtain ⟨W, hW⟩ : ∃ W, (((w.alloc (.cells #[.bool s, .slice A n c] 33)).alloc (.cells #[.bool t, .slice A' 0 c'] 33)).alloc (.cells #[.bool false, .slice none 0 0] 33)).alloc (.cells #[.bool false, .slice none 0 0] 33) = W := ⟨_, rfl⟩
  have hb3 : Blk W (w.heap.size + 1 + 1) 33 #[.bool false, .slice none 0 0] := by
    rw [← hW]
    have := Blk.new ((w.alloc (.cells #[.bool s, .slice A n c] 33)).alloc (.cells #[.bool t, .slice A' 0 c'] 33)) 33 #[.bool false, .slice none 0 0]
    rw [World.size_alloc, World.size_alloc] at this
    exact this.alloc _
  have hb4 : Blk W (w.heap.size + 1 + 1 + 1) 33 #[.bool false, .slice none 0 0] := by
    rw [← hW]
    have := Blk.new (((w.alloc (.cells #[.bool s, .slice A n c] 33)).alloc (.cells #[.bool t, .slice A' 0 c'] 33)).alloc (.cells #[.bool false, .slice none 0 0] 33)) 33 #[.bool false, .slice none 0 0]
    rw [World.size_alloc, World.size_alloc, World.size_alloc] at this
    exact this
  have hnW : New w W := by rw [← hW]; exact ((((Chg.refl _ w).alloc _).alloc _).alloc _).alloc _
  simp only [hW]
  exact bodyPost_ret (res_cct rfl _ rfl (aggInt.load hb3) rfl (aggInt.load hb4) rfl) rfl ⟨rfl, hnW⟩

theorem or0 (d : Nat) (h : d < 4294967296) : bits .or .u64 0 (d : Int) = (d : Int) := by
  have := shl_or32 0 d (by omega) h
  simpa using this
theorem orhi (a d : Nat) (ha : a < 4294967296) (h : d < 4294967296) : bits .or .u64 (a : Int) ((d : Int) * 4294967296) = ((a + d * 4294967296 : Nat) : Int) := by
  have e1 : ((d : Int) * 4294967296) = ((d * 4294967296 : Nat) : Int) := by simp
  have h1 := shl_or32 d a h ha
  rw [e1] at h1 ⊢
  rw [u64_or_nat _ _ (by omega) (by omega), Nat.or_comm, ← u64_or_nat _ _ (by omega) (by omega), h1]
  omega
/-- An int holds it. -/
def isInt (x : Int) : Bool := decide (-9223372036854775808 ≤ x ∧ x ≤ 9223372036854775807)
def intIf (x : Int) : Int := if isInt x then x else 0

set_option maxRecDepth 100000 in
set_option maxHeartbeats 1000000 in
theorem wsmall_any (v : Value) (x : Int) (w : World) (hx : WI w v x) :
    Calls Tryd.prog 21 #[v] w fun e w' => e = .returned (.tuple #[.int .i64 (intIf x), .bool (isInt x)]) ∧ New w w' := by
  obtain ⟨s, A, n, c, rfl, hs, l, hr, hnc, hc, hN⟩ := hx
  have hll : l.length = n := by have := hr.len; rwa [nv_length] at this
  obtain ⟨I, hI⟩ : ∃ I, intIf x = I := ⟨_, rfl⟩
  obtain ⟨b, hb⟩ : ∃ b, isInt x = b := ⟨_, rfl⟩
  rw [hI, hb]
  by_cases h2 : 2 < n
  · have hbig : 4294967296 ^ 2 ≤ x.natAbs := by
      have h3 := val_pos (B := 4294967296) (by omega) hN.trim (by intro e; subst e; simp at hll; omega)
      rw [hN.val, hll] at h3
      exact Nat.le_trans (Nat.pow_le_pow_right (by omega) (by omega)) h3
    have hb0 : b = false := by
      rw [← hb]; unfold isInt; simp; omega
    have hI0 : I = 0 := by rw [← hI]; unfold intIf; rw [hb, hb0]; rfl
    subst hb0 hI0
    clear hr hN hll hbig hI hb hs
    have hlt : (2 : Int) < (n : Int) := by omega
    go_enter Tryd.func21, Tryd.ntmps21
    go_wp2
    go_ret2
    exact ⟨rfl, (Chg.refl _ w).alloc _⟩
  · have hlt : decide ((2 : Int) < (n : Int)) = false := by simp; omega
    have hlt' : decide (2 < n) = false := by simp; omega
    have hn2 : n ≤ 2 := by omega
    obtain ⟨M, hM⟩ : ∃ M, val 4294967296 l = M := ⟨_, rfl⟩
    have hMx : x.natAbs = M := by rw [← hN.val, hM]
    have H0 := Lib.hid (And.intro hr (And.intro hN.digs (And.intro hll hM)))
    have HX := Lib.hid (And.intro hs (And.intro hMx (And.intro hI hb)))
    clear hr hN hll hM hMx hI hb hs h2
    go_enter Tryd.func21, Tryd.ntmps21
    go_wp2_with fail
    refine Code.new1 ?_
    intro W hb1 hnW hzW
    have hc0 := hb1.cell 0 (u := .bool s) rfl
    have HW := Lib.hid hnW
    clear hb1 hnW hzW
    go_loop [14, 4, 5, 6] (fun i m _ _ => ∃ k a : Nat, i = .int .i64 k ∧ m = .int .u64 a ∧ k ≤ n ∧ Hid (a = val 4294967296 (l.take k))) (fun i _ _ _ => n - (intOf i).toNat)
    case atStart => exact ⟨0, 0, rfl, rfl, by omega, rfl⟩
    case round =>
      obtain ⟨k, a, rfl, rfl, hk, HA⟩ := hrel
      by_cases hkn : k < n
      · obtain ⟨hr, hd, hll, hM⟩ := H0.out
        obtain ⟨ad, u, rfl, hu, hcu⟩ := (hr.new HW.out).at_ hkn
        obtain ⟨z, hz, rfl⟩ := nv_at hu
        have hzb := hd.at_ hz
        have hst := val_take (B := 4294967296) hz
        rcases (show k = 0 ∨ k = 1 by omega) with h | h
        · subst h
          have ha0 : a = 0 := by rw [HA.out]; simp
          subst ha0
          have hor := or0 z hzb
          have hst1 : val 4294967296 (l.take 1) = z := by simpa using hst
          have HS := Lib.hid hst1
          rw [show ad.add 0 = ad by simp [Addr.add]] at hcu
          clear hr hd hll hM hu hz hst hst1 HA
          go_wp2
          go_round
          case rel => exact ⟨1, z, rfl, rfl, by omega, HS.out.symm⟩
          case measure => simp [intOf]; omega
        · subst h
          have hab : a < 4294967296 := by
            rw [HA.out]
            have := val_lt (hd.take 1)
            rw [List.length_take, Nat.min_eq_left (by omega)] at this
            simpa using this
          obtain ⟨a2, ha2⟩ : ∃ a2, a + z * 4294967296 = a2 := ⟨_, rfl⟩
          have hor := orhi a z hab hzb
          rw [ha2] at hor
          rw [← HA.out, Nat.pow_one, Nat.mul_comm 4294967296 z, ha2] at hst
          have HS := Lib.hid hst
          have ha2b : a2 < 18446744073709551616 := by omega
          simp [Addr.add] at hcu
          clear hr hd hll hM hu hz hst HA ha2
          go_wp2
          go_round
          case rel => exact ⟨2, a2, rfl, rfl, by omega, HS.out.symm⟩
          case measure => simp [intOf]; omega
      · obtain rfl : n = k := by omega
        have haM : a = M := by
          obtain ⟨hr, hd, hll, hM⟩ := H0.out
          rw [HA.out, List.take_of_length_le (by omega), hM]
        subst haM
        have hMb : a < 18446744073709551616 := by
          obtain ⟨hr, hd, hll, hM⟩ := H0.out
          have := val_lt hd
          rw [hM, hll] at this
          have h3 : 4294967296 ^ n ≤ 4294967296 ^ 2 := Nat.pow_le_pow_right (by omega) hn2
          omega
        obtain ⟨hs, hMx, hI, hb⟩ := HX.out
        clear HA hkn
        cases s
        · have hx0 : ¬ x < 0 := by simpa using hs.symm
          by_cases hf : a < 9223372036854775808
          · have hb1 : b = true := by rw [← hb]; unfold isInt; simp; omega
            have hI1 : I = (a : Int) := by rw [← hI]; unfold intIf; rw [hb, hb1]; simp; omega
            subst hb1 hI1
            have hf1 : (a : Int) < 9223372036854775808 := by omega
            clear hs hMx hI hb hx0
            go_wp2
            go_ret2
            exact ⟨rfl, HW.out⟩
          · have hb1 : b = false := by rw [← hb]; unfold isInt; simp; omega
            have hI1 : I = 0 := by rw [← hI]; unfold intIf; rw [hb, hb1]; rfl
            subst hb1 hI1
            have hf1 : decide ((a : Int) < 9223372036854775808) = false := by simp; omega
            clear hs hMx hI hb hx0
            go_wp2
            go_ret2
            exact ⟨rfl, HW.out⟩
        · have hx0 : x < 0 := by simpa using hs.symm
          by_cases hf : a ≤ 9223372036854775808
          · have hb1 : b = true := by rw [← hb]; unfold isInt; simp; omega
            have hI1 : I = -(a : Int) := by rw [← hI]; unfold intIf; rw [hb, hb1]; simp; omega
            subst hb1 hI1
            have hf1 : (a : Int) ≤ 9223372036854775808 := by omega
            have hw1 : IntKind.i64.wrap (IntKind.u64.wrap (-(a : Int))) = -(a : Int) := by rw [IntKind.wrap_u64, IntKind.wrap_i64]; omega
            clear hs hMx hI hb hx0
            go_wp2
            go_ret2
            exact ⟨rfl, HW.out⟩
          · have hb1 : b = false := by rw [← hb]; unfold isInt; simp; omega
            have hI1 : I = 0 := by rw [← hI]; unfold intIf; rw [hb, hb1]; rfl
            subst hb1 hI1
            have hf1 : decide ((a : Int) ≤ 9223372036854775808) = false := by simp; omega
            clear hs hMx hI hb hx0
            go_wp2
            go_ret2
            exact ⟨rfl, HW.out⟩
end Go.Proofs.YtgofjkppeobjfaaDoor

namespace Go.Proofs.YtgofjkppeobjfaaDoor
set_option linter.unusedVariables false
open Go.RowKit Go.Mem Go.Dig
open Go.Lib (decDigits)

theorem str_at {b : ByteArray} {l : List UInt8} (h : b = St l) {k : Nat} (hk : k < b.size) : l[k]? = some b[k] := by
  subst h
  rw [St_size] at hk
  rw [List.getElem?_eq_getElem hk]
  rfl

set_option maxHeartbeats 1000000 in
theorem digits_wide (b : ByteArray) (l : List UInt8) (hb : b = St l) (hn : b.size ≤ 5000) (r : Bool) (hr : r = true ↔ Txt.Formed l) (w : World) :
    Calls Tryd.prog 46 #[.string b] w fun e w' => e = .returned (.bool r) ∧ w = w' := by
  have hl : l.length = b.size := by rw [hb, St_size]
  have H0 := Lib.hid (And.intro hb (And.intro hl hr))
  clear hb hl hr
  go_enter Tryd.func46, Tryd.ntmps46
  go_wp2
  go_loop [3] (fun i => ∃ k : Nat, i = .int .i64 (k : Int) ∧ k ≤ b.size ∧ Hid (Txt.AllDig (l.take k))) (fun i => b.size - (intOf i).toNat)
  case atStart => exact ⟨0, rfl, by omega, by show Txt.AllDig _; rw [List.take_zero]; exact Txt.AllDig.nil⟩
  case round =>
    obtain ⟨k, rfl, hk, HA⟩ := hrel
    by_cases hlt : k < b.size
    · obtain ⟨hb, hl, hr⟩ := H0.out
      have hc := str_at hb hlt
      obtain ⟨c, hcc⟩ : ∃ c, b[k] = c := ⟨_, rfl⟩
      rw [hcc] at hc
      by_cases hd : Txt.isDig c
      · have hd' := hd
        unfold Txt.isDig at hd
        have h1 : decide ((c.toNat : Int) < 48) = false := by simp; omega
        have h2 : decide (57 < (c.toNat : Int)) = false := by simp; omega
        have HN : Hid (Txt.AllDig (l.take (k + 1))) := by
          show Txt.AllDig _
          rw [List.take_add_one, hc]
          refine HA.out.append (fun x hx => ?_)
          rw [show (some c).toList = [c] by rfl, List.mem_singleton] at hx
          subst hx
          exact hd'
        clear hb hl hr hc hd hd' HA
        go_wp2
        go_round
        case rel => exact ⟨k + 1, by go_num, by omega, HN⟩
        case measure => simp [intOf]; omega
      · have hrf : r = false := by
          cases r
          · rfl
          · exfalso
            exact hd ((hr.1 rfl).1 c (List.mem_of_getElem? hc))
        subst hrf
        unfold Txt.isDig at hd
        by_cases h1 : c.toNat < 48
        · have h1' : (c.toNat : Int) < 48 := by omega
          clear hb hl hr hc hd HA
          go_wp2
          go_ret
          exact ⟨rfl, rfl⟩
        · have h1' : decide ((c.toNat : Int) < 48) = false := by simp; omega
          have h2' : 57 < (c.toNat : Int) := by omega
          clear hb hl hr hc hd HA
          go_wp2
          go_ret
          exact ⟨rfl, rfl⟩
    · obtain rfl : b.size = k := by omega
      obtain ⟨hb, hl, hr⟩ := H0.out
      have hall : Txt.AllDig l := by have := HA.out; rwa [List.take_of_length_le (by omega)] at this
      have hge : decide (((b.size : Nat) : Int) < ((b.size : Nat) : Int)) = false := by simp
      cases l with
      | nil =>
        have hrf : r = false := by
          cases r
          · rfl
          · exact absurd rfl ((hr.1 rfl).ne)
        subst hrf
        have hbe : b = ⟨#[]⟩ := hb
        subst hbe
        clear hb hl hr hall HA hge
        go_wp2
        go_ret
        exact ⟨rfl, rfl⟩
      | cons c0 t =>
        have hpos : 0 < b.size := by rw [← hl]; simp
        have hc := str_at hb hpos
        simp at hc
        have htl : b.toList = c0 :: t := by rw [Lib.toList_data, hb]; simp [St]
        have hne : b.toList.isEmpty = false := by rw [htl]; rfl
        have hne2 : ¬ b.toList = [] := by rw [htl]; simp
        have hne3 : (!b.toList.isEmpty) = true := by rw [hne]; rfl
        by_cases h0 : c0 :: t = [48]
        · have hrt : r = true := hr.2 ⟨hall, .inl h0⟩
          subst hrt
          have hbe : b = ⟨#[48]⟩ := by rw [hb, h0]; rfl
          subst hbe
          clear hb hl hr hall HA hge hne hne2 hne3 htl hc hpos
          go_wp2
          go_ret
          exact ⟨rfl, rfl⟩
        · have hbe : (b.toList == [48]) = false := by rw [htl]; simpa using h0
          have hbe2 : ¬ b.toList = [48] := by rw [htl]; exact h0
          obtain ⟨c, hcc⟩ : ∃ c, b[0] = c := ⟨_, rfl⟩
          rw [hcc] at hc
          subst hc
          by_cases h48 : c0 = 48
          · have hrf : r = false := by
              cases r
              · rfl
              · exfalso
                rcases (hr.1 rfl).2 with h | ⟨a, t', h, ha⟩
                · exact h0 h
                · injection h with h1 h2
                  exact ha (h1 ▸ h48)
            subst hrf
            subst h48
            clear hb hl hr hall HA h0 htl
            go_wp2
            go_ret
            exact ⟨rfl, rfl⟩
          · have hrt : r = true := hr.2 ⟨hall, .inr ⟨c0, t, rfl, h48⟩⟩
            subst hrt
            have hcn : ((c0.toNat : Int) != 48) = true := by
              simp
              intro e
              apply h48
              exact UInt8.toNat_inj.1 (by simpa using (by omega : c0.toNat = 48))
            clear hb hl hr hall HA h0 htl
            go_wp2
            go_ret
            exact ⟨rfl, rfl⟩
end Go.Proofs.YtgofjkppeobjfaaDoor

namespace Go.Mem
open Go.RowKit Go.Shelf

theorem wpListIn_app {F : Fence} {d : Nat} {P : Program} {w : World} {base : Nat} {t e : TypeId} {z : Value} {bytes : Nat} (hE : Elem P t e z bytes) {ops : Array Oper} {rest : List Oper} {o : Oper} {a : Act} {Q : Exit → Act → World → Prop} (hgd : o.guard = none) (s x : Operand)
    (ho : o.op = .call { callee := .builtin .append, args := #[s, x], argTypes := #[t, t] })
    {A0 : Option Addr} {n c0 : Nat} {xs : List Value} (hs : a.eval s = .slice A0 n c0) (hown : w.ownsRow base e 1 (.slice A0 n c0) n xs)
    {A : Option Addr} {m c : Nat} {news : List Value} (hx : a.eval x = .slice A m c) (hr : Rd w A m news) (h1 : ∀ u ∈ news, u.oneCell' = true)
    (h63 : n + m ≤ maxLen) (hbytes : (n + m) * bytes ≤ 140737488355328) (hbase : base ≤ w.heap.size)
    (h : ∀ A' c' w', w'.ownsRow base e 1 (.slice A' (n + m) c') (n + m) (xs ++ news) → w.grownBy w' (blk A0) → (blk A' = blk A0 ∨ blk A' = some w.heap.size) → wpListIn F d P ops Q rest (a.put o.dst (.slice A' (n + m) c')) w') :
    wpListIn F d P ops Q (o :: rest) a w := by
  refine wpListIn_plain hgd fun K hK => ?_
  obtain ⟨A', c', w', hrun, h2, h3, h4⟩ := run_app (P := P) hE o.type hown hr h1 h63 hbytes hbase
  unfold Oper.wpIn
  refine ⟨?_, ?_⟩
  · simp [Oper.about, ho, resolve, Target.leads, Sem.run_pure]
  · rw [Oper.semAt_plain F _ _ (by rw [ho]; intro c hc'; cases hc')]
    simp only [execOp, ho, resolve, invoke, builtin, Sem.run_bind, Sem.run_pure, Result.andThen_ok, List.map_toArray, List.map_cons, List.map_nil, hs, hx]
    rw [hrun]
    exact hK _ _ (h A' c' w' h2 h3 h4)

theorem blk_kept {W W' : World} {row : Option Nat} {g : Nat} {t : TypeId} {cs : Array Value} (hs : Blk W g t cs) (hg : W.grownBy W' row) (hr : ∀ r, row = some r → ∃ o : Obj, W.heap[r]? = some o ∧ o.isCells = false) : Blk W' g t cs :=
  hs.grown hg (fun e => by
    obtain ⟨o, ho, hc⟩ := hr g e
    unfold Blk at hs
    rw [hs] at ho
    cases ho
    simp [Obj.isCells] at hc)
theorem own_blk (g : Nat) (t : TypeId) {β : Type} (cs : β → Array Value) : Own (fun (x : β) W => Blk W g t (cs x)) := fun _ _ _ _ hs hg hr => blk_kept hs hg hr
theorem row_kept {W W' : World} {row : Option Nat} {base n c : Nat} {e : TypeId} {A : Option Addr} {xs : List Value} (hs : W.ownsRow base e 1 (.slice A n c) n xs) (hg : W.grownBy W' row) (hr : ∀ r, row = some r → ∃ o : Obj, W.heap[r]? = some o ∧ o.isCells = false) : W'.ownsRow base e 1 (.slice A n c) n xs := by
  refine ⟨hs.1, ?_⟩
  rcases hs.2 with h0 | ⟨g, cap, cur, hv, hb, hh, r⟩
  · exact .inl h0
  · refine .inr ⟨g, cap, cur, hv, hb, ?_, r⟩
    refine (hg.block g (Array.getElem?_eq_some_iff.1 hh).1 (fun e => ?_)).trans hh
    obtain ⟨o, ho, hc⟩ := hr g e.symm
    rw [hh] at ho
    cases ho
    simp [Obj.isCells] at hc
theorem rd_kept {W W' : World} {row : Option Nat} {n : Nat} {A : Option Addr} {xs : List Value} (hs : Rd W A n xs) (hg : W.grownBy W' row) (hr : ∀ r, row = some r → ∃ o : Obj, W.heap[r]? = some o ∧ o.isCells = false) : Rd W' A n xs :=
  ⟨hs.1, fun hn => by
    obtain ⟨ad, rfl, hc⟩ := hs.2 hn
    exact ⟨ad, rfl, fun j u hu => cell_kept (hc j u hu) hg hr⟩⟩

theorem conv_new (w : World) (e : TypeId) (s : ByteArray) : New w (Lib.bytesWorld w e s) :=
  ⟨rfl, rfl, rfl, by rw [Lib.bytesWorld_size]; omega, fun k hk _ => Lib.bytesWorld_at_old w e s k hk⟩
theorem conv_rd (w : World) (e : TypeId) (s : ByteArray) : Rd (Lib.bytesWorld w e s) (some ⟨w.heap.size, 0, none⟩) s.size (bs s.data.toList) := by
  refine ⟨by simp, fun _ => ⟨_, rfl, fun j u hu => ?_⟩⟩
  obtain ⟨c, hc, rfl⟩ := bs_at hu
  rw [Addr.add_lit, Nat.zero_add]
  have hj : j < s.size := by have := (List.getElem?_eq_some_iff.1 hc).1; simpa using this
  rw [Lib.bytesWorld_cell w e s j hj, List.getD_eq_getElem?_getD, hc]
  rfl

/-- The blocks of K are as they were. -/
def Keep (K : Nat → Prop) (W W' : World) : Prop := ∀ k, K k → W'.heap[k]? = W.heap[k]?
theorem Keep.refl (K : Nat → Prop) (W : World) : Keep K W W := fun _ _ => rfl
theorem Keep.trans {K : Nat → Prop} {A B C : World} (h : Keep K A B) (h' : Keep K B C) : Keep K A C := fun k hk => (h' k hk).trans (h k hk)
theorem Keep.cell {K : Nat → Prop} {W W' : World} (h : Keep K W W') {p : Addr} (hp : K p.block) : W'.cell? p = W.cell? p := World.cell?_of_block (h p.block hp)
theorem Keep.rd {K : Nat → Prop} {W W' : World} (h : Keep K W W') {A : Option Addr} {n : Nat} {xs : List Value} (hr : Rd W A n xs) (hA : ∀ k, blk A = some k → K k) : Rd W' A n xs :=
  ⟨hr.1, fun hn => by
    obtain ⟨ad, rfl, hc⟩ := hr.2 hn
    refine ⟨ad, rfl, fun j u hu => ?_⟩
    rw [h.cell (by rw [block_add]; exact hA _ rfl)]
    exact hc j u hu⟩
theorem Keep.of_chg {K S : Nat → Prop} {W W' : World} (h : Chg S W W') (hk : ∀ k, K k → k < W.heap.size ∧ ¬ S k) : Keep K W W' := fun k hK => h.block k (hk k hK).1 (hk k hK).2
/-- What only changes cells keeps everything else. -/
theorem KeepsOthers.of_grown {W W' : World} {row : Option Nat} {g : Nat} {t : TypeId} {cs : Array Value} {fz : Nat × Nat} (hg : W.grownBy W' row) (hrow : row = some g) (hb : W.heap[g]? = some (.cells cs t fz)) : KeepsOthers W W' :=
  ⟨hg.size, fun k o hk ho => (hg.block k (Array.getElem?_eq_some_iff.1 hk).1 (fun e => by
    rw [hrow] at e
    cases e
    rw [hb] at hk
    cases hk
    simp [Obj.isCells] at ho)).trans hk⟩
theorem KeepsOthers.of_app {W W' : World} {base n c : Nat} {e : TypeId} {A : Option Addr} {xs : List Value} (hs : W.ownsRow base e 1 (.slice A n c) n xs) (hg : W.grownBy W' (blk A)) : KeepsOthers W W' := by
  rcases hs.2 with ⟨hv, _⟩ | ⟨g, cap, cur, hv, hb, hh, r⟩
  · injection hv with hv
    subst hv
    exact ⟨hg.size, fun k o hk _ => (hg.block k (Array.getElem?_eq_some_iff.1 hk).1 (by simp [blk])).trans hk⟩
  · injection hv with hv
    subst hv
    exact KeepsOthers.of_grown hg rfl hh
end Go.Mem

namespace Go.Txt
set_option linter.unusedVariables false
theorem decFrom_val {l : List UInt8} (h : AllDig l) : ∀ a, Lib.decFrom a l = some (a * 10 ^ l.length + decVal l) := by
  induction l using snocRec with
  | nil => intro a; simp [Lib.decFrom, decVal_nil]
  | snoc l c ih =>
    intro a
    have hc := h.right c (by simp)
    have h1 := ih h.left a
    have h2 := Lib.decFrom_take (l ++ [c]) l.length a (a * 10 ^ l.length + decVal l) c (c.toNat - 48) (by rw [List.take_left' rfl]; exact h1) (by simp) (by unfold Lib.digitVal; unfold isDig at hc; rw [if_pos hc])
    rw [List.take_of_length_le (by simp)] at h2
    rw [h2, decVal_snoc, List.length_append, List.length_singleton, Nat.pow_succ]
    congr 1
    rw [Nat.add_mul, Nat.mul_assoc, Nat.add_assoc]
theorem atoi_val {l : List UInt8} (h : AllDig l) (hn : l ≠ []) : Lib.atoi l = some (decVal l : Int) := by
  cases l with
  | nil => exact absurd rfl hn
  | cons c t =>
    have hc := h c (by simp)
    unfold isDig at hc
    have h1 : (c == 45) = false := by simp; intro e; subst e; simp at hc
    have h2 : (c == 43) = false := by simp; intro e; subst e; simp at hc
    simp only [Lib.atoi, h1, h2, Bool.false_eq_true, if_false, Lib.decNat, List.isEmpty_cons]
    rw [decFrom_val h 0]
    simp
theorem hasPrefix45 (l : List UInt8) : Lib.hasPrefix l [45] = decide (l.head? = some 45) := by
  unfold Lib.hasPrefix
  cases l with
  | nil => simp [List.isPrefixOf]
  | cons a t =>
    simp only [List.isPrefixOf, Bool.and_true, List.head?_cons, Option.some.injEq]
    rw [Bool.eq_iff_iff, beq_iff_eq, decide_eq_true_iff]
    exact ⟨fun h => h.symm, fun h => h.symm⟩
theorem trimPrefix45 (l : List UInt8) : Lib.trimPrefix l [45] = body l := by
  unfold Lib.trimPrefix body
  rw [hasPrefix45]
  by_cases h : l.head? = some 45
  · simp [h]
  · simp [h]
end Go.Txt
namespace Go.Proofs.YtgofjkppeobjfaaDoor
set_option linter.unusedVariables false
open Go.RowKit Go.Mem Go.Dig
open Go.Lib (decDigits)

theorem St_dat (l : List UInt8) : (St l).data.toList = l := by simp [St]
theorem St_take (l : List UInt8) (k : Nat) : (St l).extract 0 k = St (l.take k) := by
  apply ByteArray.ext
  simp [St]
theorem St_drop (l : List UInt8) (k : Nat) : (St l).extract k (St l).size = St (l.drop k) := by
  apply ByteArray.ext
  simp [St, ByteArray.size]
  rw [List.take_of_length_le (by simp)]

theorem cut_any (b : ByteArray) (l : List UInt8) (hb : b = St l) (w : World) :
    Calls Tryd.prog 45 #[.string b, .string ⟨#[45]⟩] w fun e w' => e = .returned (.tuple #[.string (St (Txt.body l)), .bool (decide (l.head? = some 45))]) ∧ w = w' := by
  refine (Tryd.strings_CutPrefix b ⟨#[45]⟩ w).mono ?_
  rintro e w' ⟨rfl, rfl⟩
  subst hb
  rw [St_dat, show (⟨#[45]⟩ : ByteArray).data.toList = [45] by rfl, Txt.trimPrefix45, Txt.hasPrefix45]
  exact ⟨rfl, rfl⟩
theorem atoi_any (b : ByteArray) (l : List UInt8) (hb : b = St l) (h : Txt.AllDig l) (hn : l ≠ []) (h9 : l.length ≤ 9) (w : World) :
    Calls Tryd.prog 47 #[.string b] w fun e w' => e = .returned (.tuple #[.int .i64 (Txt.decVal l : Int), .nilIface]) ∧ New w w' := by
  subst hb
  refine (Tryd.strconv_Atoi (St l) (Txt.decVal l) (by rw [St_size]; omega) (by rw [St_dat]; exact Txt.atoi_val h hn) w).mono ?_
  rintro e w' ⟨rfl, t, rfl⟩
  exact ⟨rfl, conv_new _ _ _⟩

set_option maxHeartbeats 1000000 in
set_option maxRecDepth 100000 in
theorem wparse_long (b : ByteArray) (hn : 5000 < b.size) (w : World) :
    Calls Tryd.prog 15 #[.string b] w fun e w' => e = .returned (.tuple #[.agg #[.bool false, .slice none 0 0], .int .i64 4]) ∧ New w w' := by
  have h1 : (5000 : Int) < (b.size : Int) := by omega
  go_enter Tryd.func15, Tryd.ntmps15
  go_wp2
  exact bodyPost_ret (res_ct rfl _ rfl (aggInt.load (Blk.new _ _ _)) rfl) rfl ⟨rfl, (Chg.refl _ w).alloc _⟩

set_option maxHeartbeats 1000000 in
set_option maxRecDepth 100000 in
theorem wparse_bad (b : ByteArray) (l : List UInt8) (hb : b = St l) (hn : b.size ≤ 5000) (h : ∀ z, ¬ Txt.Reads l z) (w : World) :
    Calls Tryd.prog 15 #[.string b] w fun e w' => e = .returned (.tuple #[.agg #[.bool false, .slice none 0 0], .int .i64 2]) ∧ New w w' := by
  have h1 : decide ((5000 : Int) < (b.size : Int)) = false := by simp; omega
  have h1' : decide (5000 < b.size) = false := by simp; omega
  have hcut := cut_any b l hb
  obtain ⟨c, hc⟩ : ∃ c, St (Txt.body l) = c := ⟨_, rfl⟩
  have hcs : c.size ≤ 5000 := by rw [← hc, St_size]; have := Txt.Reads.body_len l; rw [hb, St_size] at hn; omega
  obtain ⟨g, hg⟩ : ∃ g, decide (l.head? = some 45) = g := ⟨_, rfl⟩
  rw [hc, hg] at hcut
  by_cases hf : Txt.Formed (Txt.body l)
  · have hdg := digits_wide c (Txt.body l) hc.symm hcs true ⟨fun _ => hf, fun _ => rfl⟩
    have hbad : l.head? = some 45 ∧ Txt.body l = [48] := by
      refine Classical.byContradiction (fun hx => h _ ⟨hf, hx, rfl⟩)
    obtain rfl : true = g := by rw [← hg]; simp [hbad.1]
    have hcc : c = ⟨#[48]⟩ := by rw [← hc, hbad.2]; rfl
    subst hcc
    have HC := Lib.hid (And.intro hcut hdg)
    clear hcut hdg hb h hc hg hf hbad hcs
    go_enter Tryd.func15, Tryd.ntmps15
    go_wp2_with fail
    refine (HC.out.1 _).mono ?_
    rintro e w1 ⟨rfl, rfl⟩
    go_wp2_with fail
    refine (HC.out.2 _).mono ?_
    rintro e w1 ⟨rfl, rfl⟩
    go_wp2
    exact bodyPost_ret (res_ct rfl _ rfl (aggInt.load (Blk.new _ _ _)) rfl) rfl ⟨rfl, (Chg.refl _ w).alloc _⟩
  · have hdg := digits_wide c (Txt.body l) hc.symm hcs false ⟨fun h => by simp at h, fun h => absurd h hf⟩
    have HC := Lib.hid (And.intro hcut hdg)
    clear hcut hdg hb h hc hg hf hcs
    go_enter Tryd.func15, Tryd.ntmps15
    go_wp2_with fail
    refine (HC.out.1 _).mono ?_
    rintro e w1 ⟨rfl, rfl⟩
    go_wp2_with fail
    refine (HC.out.2 _).mono ?_
    rintro e w1 ⟨rfl, rfl⟩
    go_wp2
    exact bodyPost_ret (res_ct rfl _ rfl (aggInt.load (Blk.new _ _ _)) rfl) rfl ⟨rfl, (Chg.refl _ w).alloc _⟩

theorem sg_reads {l : List UInt8} {z : Int} (h : Txt.Reads l z) : sg (decide (l.head? = some 45)) (Txt.decVal (Txt.body l)) = z := by
  rw [h.2.2]
  unfold sg
  by_cases hs : l.head? = some 45 <;> simp [hs]
theorem WD.lit1 {W : World} {g d : Nat} {t : TypeId} (hb : Blk W g t #[.int .u32 (d : Int)]) (hd : d < 4294967296) : WD W (some ⟨g, 0, none⟩) 1 1 d := by
  refine ⟨[d], ⟨rfl, fun _ => ⟨_, rfl, fun j u hu => ?_⟩⟩, Nat.le_refl _, by omega, ⟨Digs.cons hd (Digs.nil _), by simp [val_cons, val_nil]⟩⟩
  match j, hu with
  | 0, hu =>
    simp [nv] at hu
    subst hu
    rw [Addr.add_lit]
    exact hb.cell 0 rfl
theorem WM.lit1 {W : World} {g d : Nat} {t : TypeId} (hb : Blk W g t #[.int .u32 (d : Int)]) (hd : d < 4294967296) (h1 : 1 ≤ d) : WM W (some ⟨g, 0, none⟩) 1 1 d := by
  obtain ⟨l, h2, h3, h4, h5⟩ := WD.lit1 hb hd
  refine ⟨[d], ?_, h3, h4, ⟨Digs.cons hd (Digs.nil _), by simp [Trim]; omega, by simp [val_cons, val_nil]⟩⟩
  refine ⟨rfl, fun _ => ⟨_, rfl, fun j u hu => ?_⟩⟩
  match j, hu with
  | 0, hu =>
    simp [nv] at hu
    subst hu
    rw [Addr.add_lit]
    exact hb.cell 0 rfl
theorem val_bound {l : List UInt8} (h : Txt.AllDig l) {k : Nat} (hk : l.length ≤ k) : Txt.decVal l < 4294967296 ^ k :=
  Nat.lt_of_lt_of_le (Txt.decVal_lt h) (Nat.le_trans (Nat.pow_le_pow_left (by omega) _) (Nat.pow_le_pow_right (by omega) hk))
theorem chunk_len (m : Nat) (hm : 0 < m) : (m - 1) % 9 + 1 ≤ m ∧ (m - 1) % 9 + 1 ≤ 9 := by
  have := Nat.mod_le (m - 1) 9
  omega
theorem val_chunk (t : List UInt8) (k j : Nat) (hj : k + j ≤ t.length) (h9 : k = 0 ∨ j = 9) : Txt.decVal (t.take k) * 1000000000 + Txt.decVal ((t.drop k).take j) = Txt.decVal (t.take (k + j)) := by
  rw [List.take_add, Txt.decVal_append, List.length_take, Nat.min_eq_left (by simp; omega)]
  rcases h9 with h | h
  · subst h
    rw [List.take_zero, Txt.decVal_nil]
    omega
  · subst h; rfl

set_option maxHeartbeats 4000000 in
set_option maxRecDepth 100000 in
theorem wparse_ok (b : ByteArray) (l : List UInt8) (hb : b = St l) (hn : b.size ≤ 5000) (z : Int) (h : Txt.Reads l z) (w : World) :
    Calls Tryd.prog 15 #[.string b] w fun e w' => ∃ s A n c, e = .returned (.tuple #[.agg #[.bool s, .slice A n c], .int .i64 (rgE z)]) ∧ Hid (WI w' (.agg #[.bool s, .slice A n c]) (rg z) ∧ New w w') := by
  have h1 : decide ((5000 : Int) < (b.size : Int)) = false := by simp; omega
  have h1' : decide (5000 < b.size) = false := by simp; omega
  have hcut := cut_any b l hb
  obtain ⟨c, hc⟩ : ∃ c, St (Txt.body l) = c := ⟨_, rfl⟩
  have hbl := Txt.Reads.body_len l
  have hcs : c.size ≤ 5000 := by rw [← hc, St_size]; rw [hb, St_size] at hn; omega
  obtain ⟨g, hg⟩ : ∃ g, decide (l.head? = some 45) = g := ⟨_, rfl⟩
  rw [hc, hg] at hcut
  have hdg := digits_wide c (Txt.body l) hc.symm hcs true ⟨fun _ => h.1, fun _ => rfl⟩
  have hall := h.1.1
  have hsg := sg_reads h
  rw [hg] at hsg
  obtain ⟨t, ht⟩ : ∃ t, Txt.body l = t := ⟨_, rfl⟩
  rw [ht] at hc hall hsg
  have hneg : g = false ∨ (g = true ∧ (c.toList == [48]) = false) := by
    by_cases h45 : l.head? = some 45
    · right
      refine ⟨by rw [← hg]; simp [h45], ?_⟩
      have h2 := h.2.1
      have : t ≠ [48] := fun e => h2 ⟨h45, by rw [ht, e]⟩
      rw [Lib.toList_data, ← hc, St_dat]
      simpa using this
    · left; rw [← hg]; simp [h45]
  obtain ⟨E, hE⟩ : ∃ E, rgE z = E := ⟨_, rfl⟩
  rw [hE]
  have htl : t.length = c.size := by rw [← hc, St_size]
  have HC := Lib.hid (And.intro hcut hdg)
  have H0 := Lib.hid (And.intro hc (And.intro hall (And.intro hsg (And.intro hE htl))))
  clear hcut hdg hb h hc hg hbl hall hsg ht hE htl
  go_enter Tryd.func15, Tryd.ntmps15
  go_wp2_with fail
  refine Calls.new1 ?_
  intro W hbW hnW hzW
  refine (HC.out.1 W).mono ?_
  rintro e w1 ⟨rfl, rfl⟩
  go_wp2_with fail
  refine (HC.out.2 W).mono ?_
  rintro e w1 ⟨rfl, rfl⟩
  have HW := Lib.hid (And.intro hbW (And.intro hnW hzW))
  clear hbW hnW hzW HC
  have hneg2 : g = false ∨ (g = true ∧ (c.toList == [48]) = false ∧ ¬ c.toList = [48]) := by
    rcases hneg with h | ⟨h, h2⟩
    · exact .inl h
    · exact .inr ⟨h, h2, by simpa using h2⟩
  clear hneg
  have hran : ∀ R m d wo, WM wo R m d (Txt.decVal t) → Calls Tryd.prog 50 #[.bool g, .slice R m d] wo fun e w' => ∃ s' A' n' c', e = .returned (.tuple #[.agg #[.bool s', .slice A' n' c'], .int .i64 E]) ∧ Hid (WI w' (.agg #[.bool s', .slice A' n' c']) (rg z) ∧ New wo w') := fun R m d wo hwm => by
    have := ranged_wm g R m d _ wo hwm
    rw [H0.out.2.2.1, H0.out.2.2.2.1] at this
    exact this
  have HRAN := Lib.hid hran
  clear hran
  rcases hneg2 with h | ⟨h, h48, h48'⟩ <;> subst h
  all_goals
    go_wp2_with fail
    (try clear h48 h48')
    go_loopw [4, 6, 7, 8, 9] (fun s4 s6 _ _ _ wr => ∃ (k : Nat) (b' : ByteArray) (R : Option Addr) (m d : Nat), s4 = .string b' ∧ s6 = .slice R m d ∧ k + b'.size = c.size ∧ (k = 0 ∨ b'.size % 9 = 0) ∧ Hid (b' = St (t.drop k) ∧ WM wr R m d (Txt.decVal (t.take k)) ∧ New W wr)) (fun s4 _ _ _ _ _ => match s4 with | .string b => b.size | _ => 0)
    case atStart => exact ⟨0, c, none, 0, 0, rfl, rfl, by omega, .inl rfl, H0.out.1.symm, WM.zero _, Chg.refl _ _⟩
    case round =>
      obtain ⟨k, b', R, m, d, rfl, rfl, hkc, hk9, HI⟩ := hrel
      obtain ⟨wo, rfl⟩ : ∃ wo : World, wo = wr := ⟨_, rfl⟩
      obtain ⟨hc, hall, hsg, hE, htl⟩ := H0.out
      obtain ⟨hb', hwm, hnw⟩ := HI.out
      have hm : m ≤ 5000 := Nat.le_trans (hwm.len (val_bound (hall.take k) (k := c.size) (by simp; omega))) hcs
      by_cases h0 : b'.size = 0
      · have hpos : decide ((0 : Int) < ((b'.size : Nat) : Int)) = false := by rw [h0]; rfl
        have hpos' : decide (0 < b'.size) = false := by rw [h0]; rfl
        have hk : k = t.length := by omega
        rw [hk, List.take_length] at hwm
        have hran := HRAN.out R m d wo hwm
        have hbw := HW.out.1.chg hnw (fun h => h)
        have HR := Lib.hid (And.intro hran (And.intro hbw hnw))
        clear hc hall hsg hE htl hb' hwm hnw hk hran hbw HI h0
        go_wp2_with fail
        refine HR.out.1.mono ?_
        rintro e w5 ⟨s5, A5, n5, c5, rfl, H5⟩
        have hb5 := HR.out.2.1.chg H5.out.2 (fun h => h)
        have g0 := hb5.cell 0 rfl
        have g1 := hb5.cell 1 rfl
        have f0 := hb5.frozen 0
        have f1 := hb5.frozen 1
        have HB := Lib.hid hb5
        clear hb5
        go_wp2
        refine bodyPost_ret (res_ct rfl _ rfl (aggInt.load (HB.out.set2 _ _)) rfl) rfl ⟨s5, A5, n5, c5, rfl, H5.out.1.store HB.out (noInt_two _ _ _ _) (Chg.at2 _ _ _ _), ?_⟩
        exact Chg.owned ((HW.out.2.1.new HR.out.2.2).new H5.out.2) (Chg.at2 _ _ _ _) (fun k e => by omega)
      · have hpos : (0 : Int) < ((b'.size : Nat) : Int) := by omega
        have hpos' : 0 < b'.size := by omega
        obtain ⟨p, hp⟩ : ∃ p, b'.size - 1 = p := ⟨_, rfl⟩
        obtain ⟨q, hq⟩ : ∃ q, p % 9 = q := ⟨_, rfl⟩
        obtain ⟨j, hj⟩ : ∃ j, q + 1 = j := ⟨_, rfl⟩
        have hpi : ((b'.size : Nat) : Int) - 1 = (p : Int) := by omega
        have hqi : (p : Int) % 9 = (q : Int) := by omega
        have hji : (q : Int) + 1 = (j : Int) := by omega
        have hj9 : j ≤ 9 := by omega
        have hjb : j ≤ b'.size := by omega
        have hjk : k = 0 ∨ j = 9 := by omega
        have hrest : (b'.size - j) % 9 = 0 := by omega
        have hdl : (t.drop k).length = b'.size := by simp; omega
        obtain ⟨b1, hb1⟩ : ∃ x, St ((t.drop k).take j) = x := ⟨_, rfl⟩
        obtain ⟨b2, hb2⟩ : ∃ x, St ((t.drop k).drop j) = x := ⟨_, rfl⟩
        have hb2s : b2.size = b'.size - j := by rw [← hb2, St_size, List.length_drop, hdl]
        have hs1 : ∀ W, (Instr.slice 9 (.string b') none (some (.int .i64 (j : Int))) none).run Tryd.prog W = .ok (.string b1) W := fun W => by
          rw [run_slice_string_h W 9 b' Tryd.underlying9 .i64 (j : Int) (by omega) (by omega), Int.toNat_natCast, hb', St_take, hb1]
        have hs2 : ∀ W, (Instr.slice 9 (.string b') (some (.int .i64 (j : Int))) none none).run Tryd.prog W = .ok (.string b2) W := fun W => by
          rw [run_slice_string_l W 9 b' Tryd.underlying9 .i64 (j : Int) (by omega) (by omega), Int.toNat_natCast, hb', St_drop, hb2]
        have hat := atoi_any b1 ((t.drop k).take j) hb1.symm ((hall.drop k).take j) (by intro e; have := congrArg List.length e; simp at this; omega) (by simp; omega)
        have hPb := Txt.decVal_lt ((hall.drop k).take j)
        have hval := val_chunk t k j (by omega) hjk
        obtain ⟨P, hP⟩ : ∃ P, Txt.decVal ((t.drop k).take j) = P := ⟨_, rfl⟩
        obtain ⟨V, hV⟩ : ∃ V, Txt.decVal (t.take k) = V := ⟨_, rfl⟩
        rw [hP] at hat hPb hval
        rw [hV] at hwm hval
        have hPb2 : P < 1000000000 := by
          refine Nat.lt_of_lt_of_le hPb ?_
          refine Nat.le_trans (Nat.pow_le_pow_right (by omega) (show ((t.drop k).take j).length ≤ 9 by simp; omega)) (by decide)
        have HR := Lib.hid (And.intro hwm (And.intro hnw (And.intro hval (And.intro hat (show b2 = St (t.drop (k + j)) by rw [← hb2, List.drop_drop])))))
        have HRE := Lib.hid (And.intro hrest (And.intro hb2s (show j + b2.size = b'.size by omega)))
        clear hc hall hsg hE htl hb' hwm hnw HI h0 hp hq hj hjk hrest hdl hb1 hb2 hb2s hat hPb hval hP hV
        go_wp2_with fail
        refine (HR.out.2.2.2.1 wo).mono ?_
        rintro e w2 ⟨rfl, hn2⟩
        have HN2 := Lib.hid hn2
        clear hn2
        have hPi : (P : Int) % 4294967296 = (P : Int) := by omega
        go_wp2_with fail
        refine Calls.new1 ?_
        intro W3 hb3 hn3 hz3
        refine (mulMag_any R m d _ 1 1 V 1000000000 W3 ((HR.out.1.new HN2.out).new hn3) (WM.lit1 (d := 1000000000) hb3 (by omega) (by omega)) (by omega) (by omega)).mono ?_
        rintro e w4 ⟨R4, m4, d4, rfl, H4⟩
        have HN3 := Lib.hid hn3
        clear hb3 hn3 hz3
        have hm4 : m4 ≤ 5000 := by
          obtain ⟨hc, hall, hsg, hE, htl⟩ := H0.out
          have hb := val_bound (hall.take (k + j)) (k := c.size) (by simp; omega)
          rw [← HR.out.2.2.1] at hb
          exact Nat.le_trans (H4.out.1.len (k := c.size) (Nat.lt_of_le_of_lt (Nat.le_add_right _ _) hb)) hcs
        go_wp2_with fail
        refine Calls.new1 ?_
        intro W5 hb5 hn5 hz5
        refine (addMag_wd R4 m4 d4 _ 1 1 (V * 1000000000) P W5 (H4.out.1.new hn5).wd (WD.lit1 hb5 (by omega)) (by omega) (by omega)).mono ?_
        rintro e w6 ⟨R6, m6, d6, rfl, H6⟩
        have HN5 := Lib.hid hn5
        clear hb5 hn5 hz5
        go_wp2_with fail
        go_roundw
        case rel =>
          refine ⟨k + j, b2, R6, m6, d6, rfl, rfl, by have := HRE.out.2.2; omega, .inr (by rw [HRE.out.2.1]; exact HRE.out.1), HR.out.2.2.2.2, ?_, ?_⟩
          · have := H6.out.1
            rwa [HR.out.2.2.1] at this
          · exact ((((HR.out.2.1.new HN2.out).new HN3.out).new H4.out.2.2).new HN5.out).new H6.out.2
        case measure =>
          show b2.size < b'.size
          have := HRE.out.2.1
          omega
end Go.Proofs.YtgofjkppeobjfaaDoor
