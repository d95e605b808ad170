/- The parts Shelf, Sort, DkC, DkD, DkE, DkF, DkG, DkH, DkI, DkJ, DkK of the proof, in one text. -/
import Derived.Shelf.Strings.Builder1
import Derived.Shelf.Strings.Builder2
import Derived.Shelf.Small.Bits
import Derived.Shelf.Small.Wraps
import Derived.Shelf.Strings.BuilderF
import Derived.Shelf.Strconv.Atoi
import Derived.Shelf.Strconv.Itoa0
import Derived.Shelf.Strconv.Itoa1
import Derived.Shelf.LaysM
import Derived.Shelf.Strconv.Itoa2
import Derived.Shelf.Strconv.Itoa3
import Derived.Shelf.Strings.Prefix
import Derived.Shelf.Bits.Mul64
import Derived.Shelf.Strings.Repeat
import Derived.Ground.SlgmProg
import Derived.Shelf.SortM.Plain
import Derived.Shelf.SortM.SortNone
import Derived.Test.YtblcaeoeeepajaaGreatDoorProg
import Derived.Sort.OwnSortedInts
import Derived.Test.YtblcaeoeeepajaaGreatDoorB0
set_option linter.unusedSimpArgs false
set_option linter.unusedVariables false

namespace Go.Proofs
open Go.Shelf
def Tryz.lays169_ren : Go.Shelf.Ren := ⟨fun | 169 => 41 | n => n, fun | 70 => 81 | 9 => 9 | 0 => 0 | 72 => 83 | 37 => 33 | 127 => 118 | 3 => 3 | 5 => 5 | n => n, fun | n => n⟩
theorem Tryz.lays169 : Go.Proofs.Lays.n169 Tryz.prog Tryz.lays169_ren := {
  mixed := by kernel_rfl
  f169 := Tryz.func41.trans (congrArg some (by kernel_rfl))
  t0 := Tryz.underlying0
  a0 := Tryz.isAgg0
  z0 := Tryz.sizeOf0
  v0 := Tryz.zeroValue0
  t3 := Tryz.underlying3
  a3 := Tryz.isAgg3
  z3 := Tryz.sizeOf3
  v3 := Tryz.zeroValue3
  t9 := Tryz.underlying9
  a9 := Tryz.isAgg9
  z9 := Tryz.sizeOf9
  v9 := Tryz.zeroValue9
  t37 := Tryz.underlying33
  a37 := Tryz.isAgg33
  z37 := Tryz.sizeOf33
  v37 := Tryz.zeroValue33
  t70 := Tryz.underlying81
  a70 := Tryz.isAgg81
  z70 := Tryz.sizeOf81
  v70 := Tryz.zeroValue81
  t72 := Tryz.underlying83
  a72 := Tryz.isAgg83
  z72 := Tryz.sizeOf83
  v72 := Tryz.zeroValue83
  t127 := Tryz.underlying118
  a127 := Tryz.isAgg118
  z127 := Tryz.sizeOf118
  v127 := Tryz.zeroValue118 }
theorem Tryz.Builder_Extra_169 : Builder.Extra Tryz.prog Tryz.lays169_ren := {
  sizeBuilder := by kernel_rfl
  liesBuilder := by kernel_rfl
  t5 := Tryz.underlying5
  a5 := Tryz.isAgg5
  z5 := Tryz.sizeOf5
  v5 := Tryz.zeroValue5
  infoByte := by kernel_rfl
  cellsByte := by kernel_rfl
  sizeByte := by kernel_rfl
  neB5 := by decide }
open Go.RowKit in
/-- (*strings.Builder).String: "String returns the accumulated string.": WHATEVER THE BUILDER HOLDS. (LAID: no walk: one application.) -/
theorem Tryz.Builder_String_any (B b : Nat) (l : List UInt8) (w : World) (h : Lib.IsBuilder 83 5 B b (Lib.byteCells l) w) (hBw : B ≤ w.heap.size) :
    Calls Tryz.prog 41 #[.pointer (some ⟨b, 0, none⟩)] w fun e w' => e = .returned (.string ⟨l.toArray⟩) ∧ Below B w w' := Any.Builder_String_any Tryz.lays169 Tryz.Builder_Extra_169 B b l w h hBw
def Tryz.lays103_ren : Go.Shelf.Ren := ⟨fun | 103 => 47 | 210 => 73 | 206 => 92 | n => n, fun | 9 => 9 | 4 => 4 | 24 => 96 | 3 => 3 | n => n, fun | n => n⟩
theorem Tryz.lays103 : Go.Proofs.Lays.n103 Tryz.prog Tryz.lays103_ren := {
  mixed := by kernel_rfl
  f103 := Tryz.func47.trans (congrArg some (by kernel_rfl))
  f206 := Tryz.func92.trans (congrArg some (by kernel_rfl))
  f210 := Tryz.func73.trans (congrArg some (by kernel_rfl))
  t3 := Tryz.underlying3
  a3 := Tryz.isAgg3
  z3 := Tryz.sizeOf3
  v3 := Tryz.zeroValue3
  t4 := Tryz.underlying4
  a4 := Tryz.isAgg4
  z4 := Tryz.sizeOf4
  v4 := Tryz.zeroValue4
  t9 := Tryz.underlying9
  a9 := Tryz.isAgg9
  z9 := Tryz.sizeOf9
  v9 := Tryz.zeroValue9
  t24 := Tryz.underlying96
  a24 := Tryz.isAgg96
  z24 := Tryz.sizeOf96
  v24 := Tryz.zeroValue96 }
open Go.RowKit in
/-- strings.CutPrefix: "CutPrefix returns s without the provided leading prefix string and reports whether it found the prefix. If s doesn't start with prefix, CutPrefix returns s, false. If prefix is the empty string, CutPrefix returns s, true.": IT RETURNS '(Lib.trimPrefix s p, Lib.hasPrefix s p)'; the world is as it was. (LAID: no walk: one application.) -/
theorem Tryz.strings_CutPrefix (s p : ByteArray) (w : World) :
    Calls Tryz.prog 47 #[.string s, .string p] w fun e w' => e = .returned (.tuple #[.string ⟨(Lib.trimPrefix s.data.toList p.data.toList).toArray⟩, .bool (Lib.hasPrefix s.data.toList p.data.toList)]) ∧ w' = w := Any.strings_CutPrefix Tryz.lays103 s p w
def Tryz.lays172_ren : Go.Shelf.Ren := ⟨fun | 172 => 49 | 244 => 74 | 245 => 75 | 247 => 97 | 279 => 98 | 280 => 99 | 281 => 100 | 282 => 101 | 287 => 124 | 316 => 125 | 171 => 37 | 205 => 126 | 321 => 139 | 322 => 140 | 243 => 66 | 246 => 89 | 283 => 109 | 284 => 110 | 285 => 111 | 286 => 112 | 129 => 123 | 317 => 129 | 318 => 130 | 319 => 131 | 320 => 132 | 337 => 141 | 338 => 142 | n => n, fun | 9 => 9 | 3 => 3 | 75 => 85 | 76 => 87 | 4 => 4 | 5 => 5 | 167 => 145 | 37 => 33 | 0 => 0 | 85 => 146 | 2 => 2 | 168 => 148 | 53 => 67 | 175 => 169 | 46 => 70 | 210 => 173 | 127 => 118 | 145 => 188 | 143 => 186 | 21 => 21 | 171 => 156 | 173 => 159 | 212 => 177 | 51 => 69 | 20 => 20 | 213 => 178 | 232 => 192 | 233 => 193 | 80 => 37 | n => n, fun | 15 => 0 | 16 => 1 | 17 => 2 | 18 => 4 | 19 => 5 | n => n⟩
theorem Tryz.lays172 : Go.Proofs.Lays.n172 Tryz.prog Tryz.lays172_ren := {
  mixed := by kernel_rfl
  f129 := Tryz.func123.trans (congrArg some (by kernel_rfl))
  f171 := Tryz.func37.trans (congrArg some (by kernel_rfl))
  f172 := Tryz.func49.trans (congrArg some (by kernel_rfl))
  f205 := Tryz.func126.trans (congrArg some (by kernel_rfl))
  f243 := Tryz.func66.trans (congrArg some (by kernel_rfl))
  f244 := Tryz.func74.trans (congrArg some (by kernel_rfl))
  f245 := Tryz.func75.trans (congrArg some (by kernel_rfl))
  f246 := Tryz.func89.trans (congrArg some (by kernel_rfl))
  f247 := Tryz.func97.trans (congrArg some (by kernel_rfl))
  f279 := Tryz.func98.trans (congrArg some (by kernel_rfl))
  f280 := Tryz.func99.trans (congrArg some (by kernel_rfl))
  f281 := Tryz.func100.trans (congrArg some (by kernel_rfl))
  f282 := Tryz.func101.trans (congrArg some (by kernel_rfl))
  f283 := Tryz.func109.trans (congrArg some (by kernel_rfl))
  f284 := Tryz.func110.trans (congrArg some (by kernel_rfl))
  f285 := Tryz.func111.trans (congrArg some (by kernel_rfl))
  f286 := Tryz.func112.trans (congrArg some (by kernel_rfl))
  f287 := Tryz.func124.trans (congrArg some (by kernel_rfl))
  f316 := Tryz.func125.trans (congrArg some (by kernel_rfl))
  f317 := Tryz.func129.trans (congrArg some (by kernel_rfl))
  f318 := Tryz.func130.trans (congrArg some (by kernel_rfl))
  f319 := Tryz.func131.trans (congrArg some (by kernel_rfl))
  f320 := Tryz.func132.trans (congrArg some (by kernel_rfl))
  f321 := Tryz.func139.trans (congrArg some (by kernel_rfl))
  f322 := Tryz.func140.trans (congrArg some (by kernel_rfl))
  f337 := Tryz.func141.trans (congrArg some (by kernel_rfl))
  f338 := Tryz.func142.trans (congrArg some (by kernel_rfl))
  t0 := Tryz.underlying0
  a0 := Tryz.isAgg0
  z0 := Tryz.sizeOf0
  v0 := Tryz.zeroValue0
  t2 := Tryz.underlying2
  a2 := Tryz.isAgg2
  z2 := Tryz.sizeOf2
  v2 := Tryz.zeroValue2
  t3 := Tryz.underlying3
  a3 := Tryz.isAgg3
  z3 := Tryz.sizeOf3
  v3 := Tryz.zeroValue3
  t4 := Tryz.underlying4
  a4 := Tryz.isAgg4
  z4 := Tryz.sizeOf4
  v4 := Tryz.zeroValue4
  t5 := Tryz.underlying5
  a5 := Tryz.isAgg5
  z5 := Tryz.sizeOf5
  v5 := Tryz.zeroValue5
  t9 := Tryz.underlying9
  a9 := Tryz.isAgg9
  z9 := Tryz.sizeOf9
  v9 := Tryz.zeroValue9
  t20 := Tryz.underlying20
  a20 := Tryz.isAgg20
  z20 := Tryz.sizeOf20
  v20 := Tryz.zeroValue20
  t21 := Tryz.underlying21
  a21 := Tryz.isAgg21
  z21 := Tryz.sizeOf21
  v21 := Tryz.zeroValue21
  t37 := Tryz.underlying33
  a37 := Tryz.isAgg33
  z37 := Tryz.sizeOf33
  v37 := Tryz.zeroValue33
  t46 := Tryz.underlying70
  a46 := Tryz.isAgg70
  z46 := Tryz.sizeOf70
  v46 := Tryz.zeroValue70
  t51 := Tryz.underlying69
  a51 := Tryz.isAgg69
  z51 := Tryz.sizeOf69
  v51 := Tryz.zeroValue69
  t53 := Tryz.underlying67
  a53 := Tryz.isAgg67
  z53 := Tryz.sizeOf67
  v53 := Tryz.zeroValue67
  t75 := Tryz.underlying85
  a75 := Tryz.isAgg85
  z75 := Tryz.sizeOf85
  v75 := Tryz.zeroValue85
  t76 := Tryz.underlying87
  a76 := Tryz.isAgg87
  z76 := Tryz.sizeOf87
  v76 := Tryz.zeroValue87
  t85 := Tryz.underlying146
  a85 := Tryz.isAgg146
  z85 := Tryz.sizeOf146
  v85 := Tryz.zeroValue146
  t127 := Tryz.underlying118
  a127 := Tryz.isAgg118
  z127 := Tryz.sizeOf118
  v127 := Tryz.zeroValue118
  t143 := Tryz.underlying186
  a143 := Tryz.isAgg186
  z143 := Tryz.sizeOf186
  v143 := Tryz.zeroValue186
  t145 := Tryz.underlying188
  a145 := Tryz.isAgg188
  z145 := Tryz.sizeOf188
  v145 := Tryz.zeroValue188
  t167 := Tryz.underlying145
  a167 := Tryz.isAgg145
  z167 := Tryz.sizeOf145
  v167 := Tryz.zeroValue145
  t168 := Tryz.underlying148
  a168 := Tryz.isAgg148
  z168 := Tryz.sizeOf148
  v168 := Tryz.zeroValue148
  t171 := Tryz.underlying156
  a171 := Tryz.isAgg156
  z171 := Tryz.sizeOf156
  v171 := Tryz.zeroValue156
  t173 := Tryz.underlying159
  a173 := Tryz.isAgg159
  z173 := Tryz.sizeOf159
  v173 := Tryz.zeroValue159
  t175 := Tryz.underlying169
  a175 := Tryz.isAgg169
  z175 := Tryz.sizeOf169
  v175 := Tryz.zeroValue169
  t210 := Tryz.underlying173
  a210 := Tryz.isAgg173
  z210 := Tryz.sizeOf173
  v210 := Tryz.zeroValue173
  t212 := Tryz.underlying177
  a212 := Tryz.isAgg177
  z212 := Tryz.sizeOf177
  v212 := Tryz.zeroValue177
  t213 := Tryz.underlying178
  a213 := Tryz.isAgg178
  z213 := Tryz.sizeOf178
  t232 := Tryz.underlying192
  a232 := Tryz.isAgg192
  z232 := Tryz.sizeOf192
  v232 := Tryz.zeroValue192
  t233 := Tryz.underlying193
  a233 := Tryz.isAgg193
  z233 := Tryz.sizeOf193
  v233 := Tryz.zeroValue193
  g15 := by kernel_rfl
  g16 := by kernel_rfl
  g17 := by kernel_rfl
  g18 := by kernel_rfl
  g19 := by kernel_rfl }
open Go.RowKit in
/-- strconv.Atoi: "Atoi is equivalent to ParseInt(s, 10, 0), converted to type int.": AT A DECIMAL NUMERAL OF AT MOST 18 BYTES: its value, and a nil error. The world behind the call: the one new row that the library's '[]byte(s)' lays. (LAID: no walk: one application.) -/
theorem Tryz.strconv_Atoi (s : ByteArray) (n : Int) (hl : s.size ≤ 18) (h : Lib.atoi s.data.toList = some n) (w : World) :
    Calls Tryz.prog 49 #[.string s] w fun e w' => e = .returned (.tuple #[.int .i64 n, .nilIface]) ∧ ∃ t, w' = Lib.bytesWorld w 5 t := Any.strconv_Atoi Tryz.lays172 s n hl h w
def Tryz.laysM171_ren : Go.Shelf.Ren := ⟨fun | 171 => 37 | 243 => 66 | 246 => 89 | 283 => 109 | 284 => 110 | 285 => 111 | 286 => 112 | 129 => 123 | 317 => 129 | 318 => 130 | 319 => 131 | 320 => 132 | 337 => 141 | 338 => 142 | n => n, fun | 3 => 3 | 9 => 9 | 2 => 2 | 4 => 4 | 171 => 156 | 0 => 0 | 53 => 67 | 37 => 33 | 5 => 5 | 173 => 159 | 212 => 177 | 51 => 69 | 20 => 20 | 213 => 178 | 46 => 70 | 232 => 192 | 233 => 193 | n => n, fun | 17 => 2 | 18 => 4 | 19 => 5 | n => n⟩
theorem Tryz.laysM171 : Go.Proofs.LaysM.n171 Tryz.prog Tryz.laysM171_ren := {
  mixed := by kernel_rfl
  f129 := Tryz.func123.trans (congrArg some (by kernel_rfl))
  f171 := Tryz.func37.trans (congrArg some (by kernel_rfl))
  f243 := Tryz.func66.trans (congrArg some (by kernel_rfl))
  f246 := Tryz.func89.trans (congrArg some (by kernel_rfl))
  f283 := Tryz.func109.trans (congrArg some (by kernel_rfl))
  f284 := Tryz.func110.trans (congrArg some (by kernel_rfl))
  f285 := Tryz.func111.trans (congrArg some (by kernel_rfl))
  f286 := Tryz.func112.trans (congrArg some (by kernel_rfl))
  f317 := Tryz.func129.trans (congrArg some (by kernel_rfl))
  f318 := Tryz.func130.trans (congrArg some (by kernel_rfl))
  f319 := Tryz.func131.trans (congrArg some (by kernel_rfl))
  f320 := Tryz.func132.trans (congrArg some (by kernel_rfl))
  f337 := Tryz.func141.trans (congrArg some (by kernel_rfl))
  f338 := Tryz.func142.trans (congrArg some (by kernel_rfl))
  t0 := Tryz.underlying0
  a0 := Tryz.isAgg0
  z0 := Tryz.sizeOf0
  v0 := Tryz.zeroValue0
  t2 := Tryz.underlying2
  a2 := Tryz.isAgg2
  z2 := Tryz.sizeOf2
  v2 := Tryz.zeroValue2
  t3 := Tryz.underlying3
  a3 := Tryz.isAgg3
  z3 := Tryz.sizeOf3
  v3 := Tryz.zeroValue3
  t4 := Tryz.underlying4
  a4 := Tryz.isAgg4
  z4 := Tryz.sizeOf4
  v4 := Tryz.zeroValue4
  t5 := Tryz.underlying5
  a5 := Tryz.isAgg5
  z5 := Tryz.sizeOf5
  v5 := Tryz.zeroValue5
  t9 := Tryz.underlying9
  a9 := Tryz.isAgg9
  z9 := Tryz.sizeOf9
  v9 := Tryz.zeroValue9
  t20 := Tryz.underlying20
  a20 := Tryz.isAgg20
  z20 := Tryz.sizeOf20
  v20 := Tryz.zeroValue20
  t37 := Tryz.underlying33
  a37 := Tryz.isAgg33
  z37 := Tryz.sizeOf33
  v37 := Tryz.zeroValue33
  t46 := Tryz.underlying70
  a46 := Tryz.isAgg70
  z46 := Tryz.sizeOf70
  v46 := Tryz.zeroValue70
  t51 := Tryz.underlying69
  a51 := Tryz.isAgg69
  z51 := Tryz.sizeOf69
  v51 := Tryz.zeroValue69
  t53 := Tryz.underlying67
  a53 := Tryz.isAgg67
  z53 := Tryz.sizeOf67
  v53 := Tryz.zeroValue67
  t171 := Tryz.underlying156
  a171 := Tryz.isAgg156
  z171 := Tryz.sizeOf156
  v171 := Tryz.zeroValue156
  t173 := Tryz.underlying159
  a173 := Tryz.isAgg159
  z173 := Tryz.sizeOf159
  v173 := Tryz.zeroValue159
  t212 := Tryz.underlying177
  a212 := Tryz.isAgg177
  z212 := Tryz.sizeOf177
  v212 := Tryz.zeroValue177
  t213 := Tryz.underlying178
  a213 := Tryz.isAgg178
  z213 := Tryz.sizeOf178
  t232 := Tryz.underlying192
  a232 := Tryz.isAgg192
  z232 := Tryz.sizeOf192
  v232 := Tryz.zeroValue192
  t233 := Tryz.underlying193
  a233 := Tryz.isAgg193
  z233 := Tryz.sizeOf193
  v233 := Tryz.zeroValue193
  g17 := by kernel_rfl
  g18 := by kernel_rfl
  g19 := by kernel_rfl
  i0 := by kernel_rfl
  i2 := by kernel_rfl
  i3 := by kernel_rfl
  i4 := by kernel_rfl
  i5 := by kernel_rfl
  i9 := by kernel_rfl
  i20 := by kernel_rfl
  i37 := by kernel_rfl
  i46 := by kernel_rfl
  i51 := by kernel_rfl
  i53 := by kernel_rfl
  i171 := by kernel_rfl
  i173 := by kernel_rfl
  i212 := by kernel_rfl
  i232 := by kernel_rfl
  i233 := by kernel_rfl
  m17 := by kernel_rfl
  m18 := by kernel_rfl
  m19 := by kernel_rfl }
open Go.RowKit Go.Sort Go.Lib in
/-- strconv.Itoa: "Itoa is equivalent to FormatInt(int64(i), 10).": i's DECIMAL NUMERAL ('Lib.itoa': a '-' where i is negative, then the digits), FOR EVERY int. The world behind the call: the world before it, new blocks behind the heap (the library's 'var a [24]byte'), draws. (LAID: no walk: one application.) -/
theorem Tryz.strconv_Itoa (n : Int) (h0 : -9223372036854775808 ≤ n) (h1 : n ≤ 9223372036854775807) (w : World) (htab : Lib.TabIs Tryz.prog w "internal/strconv.uint64pow10" .u64 Lib.pow10Tab) :
    Calls Tryz.prog 37 #[.int .i64 n] w fun e w' => e = .returned (.string ⟨(Lib.itoa n).toArray⟩) ∧ ∃ k os, w' = grow (w.drewN k) os := Any.strconv_Itoa Tryz.laysM171 n h0 h1 w htab
def Tryz.lays105_ren : Go.Shelf.Ren := ⟨fun | 105 => 38 | 212 => 67 | 99 => 68 | 165 => 69 | 166 => 40 | 170 => 70 | 169 => 41 | 263 => 90 | 264 => 91 | 206 => 92 | 240 => 71 | 241 => 93 | 276 => 94 | 277 => 113 | n => n, fun | 9 => 9 | 3 => 3 | 4 => 4 | 20 => 20 | 0 => 0 | 46 => 70 | 109 => 115 | 5 => 5 | 72 => 83 | 76 => 87 | 51 => 69 | 146 => 137 | 53 => 67 | 148 => 139 | 70 => 81 | 37 => 33 | 75 => 85 | 127 => 118 | 164 => 141 | 80 => 37 | n => n, fun | n => n⟩
theorem Tryz.lays105 : Go.Proofs.Lays.n105 Tryz.prog Tryz.lays105_ren := {
  mixed := by kernel_rfl
  f99 := Tryz.func68.trans (congrArg some (by kernel_rfl))
  f105 := Tryz.func38.trans (congrArg some (by kernel_rfl))
  f165 := Tryz.func69.trans (congrArg some (by kernel_rfl))
  f166 := Tryz.func40.trans (congrArg some (by kernel_rfl))
  f169 := Tryz.func41.trans (congrArg some (by kernel_rfl))
  f170 := Tryz.func70.trans (congrArg some (by kernel_rfl))
  f206 := Tryz.func92.trans (congrArg some (by kernel_rfl))
  f212 := Tryz.func67.trans (congrArg some (by kernel_rfl))
  f240 := Tryz.func71.trans (congrArg some (by kernel_rfl))
  f241 := Tryz.func93.trans (congrArg some (by kernel_rfl))
  f263 := Tryz.func90.trans (congrArg some (by kernel_rfl))
  f264 := Tryz.func91.trans (congrArg some (by kernel_rfl))
  f276 := Tryz.func94.trans (congrArg some (by kernel_rfl))
  f277 := Tryz.func113.trans (congrArg some (by kernel_rfl))
  t0 := Tryz.underlying0
  a0 := Tryz.isAgg0
  z0 := Tryz.sizeOf0
  v0 := Tryz.zeroValue0
  t3 := Tryz.underlying3
  a3 := Tryz.isAgg3
  z3 := Tryz.sizeOf3
  v3 := Tryz.zeroValue3
  t4 := Tryz.underlying4
  a4 := Tryz.isAgg4
  z4 := Tryz.sizeOf4
  v4 := Tryz.zeroValue4
  t5 := Tryz.underlying5
  a5 := Tryz.isAgg5
  z5 := Tryz.sizeOf5
  v5 := Tryz.zeroValue5
  t9 := Tryz.underlying9
  a9 := Tryz.isAgg9
  z9 := Tryz.sizeOf9
  v9 := Tryz.zeroValue9
  t20 := Tryz.underlying20
  a20 := Tryz.isAgg20
  z20 := Tryz.sizeOf20
  v20 := Tryz.zeroValue20
  t37 := Tryz.underlying33
  a37 := Tryz.isAgg33
  z37 := Tryz.sizeOf33
  v37 := Tryz.zeroValue33
  t46 := Tryz.underlying70
  a46 := Tryz.isAgg70
  z46 := Tryz.sizeOf70
  v46 := Tryz.zeroValue70
  t51 := Tryz.underlying69
  a51 := Tryz.isAgg69
  z51 := Tryz.sizeOf69
  v51 := Tryz.zeroValue69
  t53 := Tryz.underlying67
  a53 := Tryz.isAgg67
  z53 := Tryz.sizeOf67
  v53 := Tryz.zeroValue67
  t70 := Tryz.underlying81
  a70 := Tryz.isAgg81
  z70 := Tryz.sizeOf81
  v70 := Tryz.zeroValue81
  t72 := Tryz.underlying83
  a72 := Tryz.isAgg83
  z72 := Tryz.sizeOf83
  v72 := Tryz.zeroValue83
  t75 := Tryz.underlying85
  a75 := Tryz.isAgg85
  z75 := Tryz.sizeOf85
  v75 := Tryz.zeroValue85
  t76 := Tryz.underlying87
  a76 := Tryz.isAgg87
  z76 := Tryz.sizeOf87
  v76 := Tryz.zeroValue87
  t109 := Tryz.underlying115
  a109 := Tryz.isAgg115
  z109 := Tryz.sizeOf115
  v109 := Tryz.zeroValue115
  t127 := Tryz.underlying118
  a127 := Tryz.isAgg118
  z127 := Tryz.sizeOf118
  v127 := Tryz.zeroValue118
  t146 := Tryz.underlying137
  a146 := Tryz.isAgg137
  z146 := Tryz.sizeOf137
  v146 := Tryz.zeroValue137
  t148 := Tryz.underlying139
  a148 := Tryz.isAgg139
  z148 := Tryz.sizeOf139
  v148 := Tryz.zeroValue139
  t164 := Tryz.underlying141
  a164 := Tryz.isAgg141
  z164 := Tryz.sizeOf141
  v164 := Tryz.zeroValue141 }
theorem Tryz.Builder_Extra_105 : Builder.Extra Tryz.prog Tryz.lays105_ren := {
  sizeBuilder := by kernel_rfl
  liesBuilder := by kernel_rfl
  t5 := Tryz.underlying5
  a5 := Tryz.isAgg5
  z5 := Tryz.sizeOf5
  v5 := Tryz.zeroValue5
  infoByte := by kernel_rfl
  cellsByte := by kernel_rfl
  sizeByte := by kernel_rfl
  neB5 := by decide }
open Go.RowKit Go.Lib in
/-- **strings.Repeat: count ≥ 0, the result within one allocation: count copies of s.** (LAID: no walk: one application.) -/
theorem Tryz.strings_Repeat (s : ByteArray) (c : Nat) (w : World) (hc : c ≤ 9223372036854775807) (hlen : s.size * c ≤ 140737488355328) :
    Calls Tryz.prog 38 #[.string s, .int .i64 c] w fun e w' => e = .returned (.string ⟨(Lib.repeatL s.data.toList c).toArray⟩) ∧ Below w.heap.size w w' := Any.strings_Repeat Tryz.lays105 Tryz.Builder_Extra_105 s c w hc hlen
def Tryz.laysSlM5_f72_ren : Go.Shelf.Ren := ⟨fun | 5 => 72 | 8 => 96 | 7 => 95 | 19 => 102 | 20 => 123 | 10 => 114 | 11 => 115 | 12 => 116 | 13 => 117 | 14 => 118 | 15 => 119 | 16 => 120 | 17 => 121 | 18 => 122 | 30 => 133 | 31 => 134 | 32 => 135 | 33 => 136 | 34 => 137 | 35 => 138 | 40 => 143 | n => n, fun | 23 => 22 | 25 => 3 | 3 => 3 | 32 => 70 | 22 => 22 | 0 => 0 | 44 => 69 | 46 => 67 | 4 => 4 | 36 => 163 | 35 => 162 | 41 => 167 | 5 => 5 | 9 => 9 | 53 => 180 | 57 => 183 | 63 => 189 | 64 => 190 | n => n, fun | n => n⟩
theorem Tryz.laysSlM5_f72 : Go.Proofs.SlLaysM.n5 Tryz.prog Tryz.laysSlM5_f72_ren := {
  mixed := by kernel_rfl
  f5 := ⟨Tryz.f72.name, by decide, Tryz.func72.trans (congrArg some (by kernel_rfl))⟩
  f7 := ⟨Tryz.f95.name, by decide, Tryz.func95.trans (congrArg some (by kernel_rfl))⟩
  f8 := Tryz.func96.trans (congrArg some (by kernel_rfl))
  f10 := ⟨Tryz.f114.name, by decide, Tryz.func114.trans (congrArg some (by kernel_rfl))⟩
  f11 := ⟨Tryz.f115.name, by decide, Tryz.func115.trans (congrArg some (by kernel_rfl))⟩
  f12 := ⟨Tryz.f116.name, by decide, Tryz.func116.trans (congrArg some (by kernel_rfl))⟩
  f13 := ⟨Tryz.f117.name, by decide, Tryz.func117.trans (congrArg some (by kernel_rfl))⟩
  f14 := ⟨Tryz.f118.name, by decide, Tryz.func118.trans (congrArg some (by kernel_rfl))⟩
  f15 := ⟨Tryz.f119.name, by decide, Tryz.func119.trans (congrArg some (by kernel_rfl))⟩
  f16 := ⟨Tryz.f120.name, by decide, Tryz.func120.trans (congrArg some (by kernel_rfl))⟩
  f17 := ⟨Tryz.f121.name, by decide, Tryz.func121.trans (congrArg some (by kernel_rfl))⟩
  f18 := ⟨Tryz.f122.name, by decide, Tryz.func122.trans (congrArg some (by kernel_rfl))⟩
  f19 := Tryz.func102.trans (congrArg some (by kernel_rfl))
  f20 := Tryz.func123.trans (congrArg some (by kernel_rfl))
  f30 := ⟨Tryz.f133.name, by decide, Tryz.func133.trans (congrArg some (by kernel_rfl))⟩
  f31 := Tryz.func134.trans (congrArg some (by kernel_rfl))
  f32 := Tryz.func135.trans (congrArg some (by kernel_rfl))
  f33 := ⟨Tryz.f136.name, by decide, Tryz.func136.trans (congrArg some (by kernel_rfl))⟩
  f34 := ⟨Tryz.f137.name, by decide, Tryz.func137.trans (congrArg some (by kernel_rfl))⟩
  f35 := ⟨Tryz.f138.name, by decide, Tryz.func138.trans (congrArg some (by kernel_rfl))⟩
  f40 := ⟨Tryz.f143.name, by decide, Tryz.func143.trans (congrArg some (by kernel_rfl))⟩
  t0 := Tryz.underlying0
  a0 := Tryz.isAgg0
  z0 := Tryz.sizeOf0
  v0 := Tryz.zeroValue0
  t3 := Tryz.underlying3
  a3 := Tryz.isAgg3
  z3 := Tryz.sizeOf3
  v3 := Tryz.zeroValue3
  t4 := Tryz.underlying4
  a4 := Tryz.isAgg4
  z4 := Tryz.sizeOf4
  v4 := Tryz.zeroValue4
  t5 := Tryz.underlying5
  a5 := Tryz.isAgg5
  z5 := Tryz.sizeOf5
  v5 := Tryz.zeroValue5
  t9 := Tryz.underlying9
  a9 := Tryz.isAgg9
  z9 := Tryz.sizeOf9
  v9 := Tryz.zeroValue9
  t22 := Tryz.underlying22
  a22 := Tryz.isAgg22
  z22 := Tryz.sizeOf22
  v22 := Tryz.zeroValue22
  t23 := Tryz.underlying22
  a23 := Tryz.isAgg22
  z23 := Tryz.sizeOf22
  v23 := Tryz.zeroValue22
  t25 := Tryz.underlying3
  a25 := Tryz.isAgg3
  z25 := Tryz.sizeOf3
  v25 := Tryz.zeroValue3
  t32 := Tryz.underlying70
  a32 := Tryz.isAgg70
  z32 := Tryz.sizeOf70
  v32 := Tryz.zeroValue70
  t35 := Tryz.underlying162
  a35 := Tryz.isAgg162
  z35 := Tryz.sizeOf162
  v35 := Tryz.zeroValue162
  t36 := Tryz.underlying163
  a36 := Tryz.isAgg163
  z36 := Tryz.sizeOf163
  v36 := Tryz.zeroValue163
  t41 := Tryz.underlying167
  a41 := Tryz.isAgg167
  z41 := Tryz.sizeOf167
  v41 := Tryz.zeroValue167
  t44 := Tryz.underlying69
  a44 := Tryz.isAgg69
  z44 := Tryz.sizeOf69
  v44 := Tryz.zeroValue69
  t46 := Tryz.underlying67
  a46 := Tryz.isAgg67
  z46 := Tryz.sizeOf67
  v46 := Tryz.zeroValue67
  t53 := Tryz.underlying180
  a53 := Tryz.isAgg180
  z53 := Tryz.sizeOf180
  v53 := Tryz.zeroValue180
  t57 := Tryz.underlying183
  a57 := Tryz.isAgg183
  z57 := Tryz.sizeOf183
  v57 := Tryz.zeroValue183
  t63 := Tryz.underlying189
  a63 := Tryz.isAgg189
  z63 := Tryz.sizeOf189
  v63 := Tryz.zeroValue189
  t64 := Tryz.underlying190
  a64 := Tryz.isAgg190
  z64 := Tryz.sizeOf190
  v64 := Tryz.zeroValue190 }
open Go.Sort Go.RowKit in
theorem Tryz.slices_Sort_int (blk off cap : Nat) (zs : List Int) (w : World) (hH : Holds (Value.int .i64) w blk off zs.toArray) (hblk : blk < w.heap.size) (hsz : zs.length < 4611686018427387904) :
    Calls Tryz.prog 72 #[.slice (some ⟨blk, off, none⟩) zs.length cap] w fun e w' =>
      e = .returned (.tuple #[]) ∧ ∃ n os, w' = grow (putRow (Value.int .i64) (Sort.ahead w n) blk off (zs.mergeSort fun x y => decide (x ≤ y)).toArray) os := AnyM.slices_Sort_int Tryz.laysSlM5_f72 blk off cap zs w hH hblk hsz
open Go.RowKit Go.Sort in
/-- .. and plain. (LAID AT THE INSTANCE 'slices.Sort[[]int,int]': no walk: one application.) -/
theorem Tryz.slices_Sort_int_none (p : Option Addr) (cap : Nat) (w : World) :
    Calls Tryz.prog 72 #[.slice p 0 cap] w fun e w' => e = .returned (.tuple #[]) ∧ w' = w := AnyM.slices_Sort_int_none Tryz.laysSlM5_f72 p cap w
def Tryz.lays166_ren : Go.Shelf.Ren := ⟨fun | 105 => 38 | 212 => 67 | 99 => 68 | 165 => 69 | 166 => 40 | 170 => 70 | 169 => 41 | 263 => 90 | 264 => 91 | 206 => 92 | 240 => 71 | 241 => 93 | 276 => 94 | 277 => 113 | n => n, fun | 9 => 9 | 3 => 3 | 4 => 4 | 20 => 20 | 0 => 0 | 46 => 70 | 109 => 115 | 5 => 5 | 72 => 83 | 76 => 87 | 51 => 69 | 146 => 137 | 53 => 67 | 148 => 139 | 70 => 81 | 37 => 33 | 75 => 85 | 127 => 118 | 164 => 141 | 80 => 37 | n => n, fun | n => n⟩
theorem Tryz.lays166 : Go.Proofs.Lays.n166 Tryz.prog Tryz.lays166_ren := {
  mixed := by kernel_rfl
  f166 := Tryz.func40.trans (congrArg some (by kernel_rfl))
  f240 := Tryz.func71.trans (congrArg some (by kernel_rfl))
  f276 := Tryz.func94.trans (congrArg some (by kernel_rfl))
  t0 := Tryz.underlying0
  a0 := Tryz.isAgg0
  z0 := Tryz.sizeOf0
  v0 := Tryz.zeroValue0
  t3 := Tryz.underlying3
  a3 := Tryz.isAgg3
  z3 := Tryz.sizeOf3
  v3 := Tryz.zeroValue3
  t4 := Tryz.underlying4
  a4 := Tryz.isAgg4
  z4 := Tryz.sizeOf4
  v4 := Tryz.zeroValue4
  t9 := Tryz.underlying9
  a9 := Tryz.isAgg9
  z9 := Tryz.sizeOf9
  v9 := Tryz.zeroValue9
  t20 := Tryz.underlying20
  a20 := Tryz.isAgg20
  z20 := Tryz.sizeOf20
  v20 := Tryz.zeroValue20
  t37 := Tryz.underlying33
  a37 := Tryz.isAgg33
  z37 := Tryz.sizeOf33
  v37 := Tryz.zeroValue33
  t70 := Tryz.underlying81
  a70 := Tryz.isAgg81
  z70 := Tryz.sizeOf81
  v70 := Tryz.zeroValue81
  t72 := Tryz.underlying83
  a72 := Tryz.isAgg83
  z72 := Tryz.sizeOf83
  v72 := Tryz.zeroValue83
  t75 := Tryz.underlying85
  a75 := Tryz.isAgg85
  z75 := Tryz.sizeOf85
  v75 := Tryz.zeroValue85
  t164 := Tryz.underlying141
  a164 := Tryz.isAgg141
  z164 := Tryz.sizeOf141
  v164 := Tryz.zeroValue141 }
theorem Tryz.Builder_Extra_166 : Builder.Extra Tryz.prog Tryz.lays166_ren := {
  sizeBuilder := by kernel_rfl
  liesBuilder := by kernel_rfl
  t5 := Tryz.underlying5
  a5 := Tryz.isAgg5
  z5 := Tryz.sizeOf5
  v5 := Tryz.zeroValue5
  infoByte := by kernel_rfl
  cellsByte := by kernel_rfl
  sizeByte := by kernel_rfl
  neB5 := by decide }
open Go.RowKit in
/-- (*strings.Builder).WriteString: "WriteString appends the contents of s to b's buffer. It returns the length of s and a nil error.": UNDER Go's OWN LIMIT: the new length takes at most 2^47 bytes. (LAID: no walk: one application.) -/
theorem Tryz.Builder_WriteString (B b : Nat) (bs : List Value) (s : ByteArray) (w : World) (h : Lib.IsBuilder 83 5 B b bs w) (hlen : bs.length + s.size ≤ 140737488355328) (hBw : B ≤ w.heap.size) :
    Calls Tryz.prog 40 #[.pointer (some ⟨b, 0, none⟩), .string s] w fun e w' => e = .returned (.tuple #[.int .i64 s.size, .nilIface]) ∧ (Lib.BuilderAt 83 5 B b (.pointer (some ⟨b, 0, none⟩)) (bs ++ Lib.strCells s) w' ∧ Below B w w') := Any.Builder_WriteString Tryz.lays166 Tryz.Builder_Extra_166 B b bs s w h hlen hBw
def Tryz.lays167_ren : Go.Shelf.Ren := ⟨fun | 105 => 38 | 212 => 67 | 99 => 68 | 165 => 69 | 166 => 40 | 170 => 70 | 169 => 41 | 263 => 90 | 264 => 91 | 206 => 92 | 240 => 71 | 241 => 93 | 276 => 94 | 277 => 113 | 167 => 39 | n => n, fun | 9 => 9 | 3 => 3 | 4 => 4 | 20 => 20 | 0 => 0 | 46 => 70 | 109 => 115 | 5 => 5 | 72 => 83 | 76 => 87 | 51 => 69 | 146 => 137 | 53 => 67 | 148 => 139 | 70 => 81 | 37 => 33 | 75 => 85 | 127 => 118 | 164 => 141 | 80 => 37 | n => n, fun | n => n⟩
theorem Tryz.lays167 : Go.Proofs.Lays.n167 Tryz.prog Tryz.lays167_ren := {
  mixed := by kernel_rfl
  f167 := Tryz.func39.trans (congrArg some (by kernel_rfl))
  f240 := Tryz.func71.trans (congrArg some (by kernel_rfl))
  f276 := Tryz.func94.trans (congrArg some (by kernel_rfl))
  t0 := Tryz.underlying0
  a0 := Tryz.isAgg0
  z0 := Tryz.sizeOf0
  v0 := Tryz.zeroValue0
  t4 := Tryz.underlying4
  a4 := Tryz.isAgg4
  z4 := Tryz.sizeOf4
  v4 := Tryz.zeroValue4
  t5 := Tryz.underlying5
  a5 := Tryz.isAgg5
  z5 := Tryz.sizeOf5
  v5 := Tryz.zeroValue5
  t9 := Tryz.underlying9
  a9 := Tryz.isAgg9
  z9 := Tryz.sizeOf9
  v9 := Tryz.zeroValue9
  t20 := Tryz.underlying20
  a20 := Tryz.isAgg20
  z20 := Tryz.sizeOf20
  v20 := Tryz.zeroValue20
  t37 := Tryz.underlying33
  a37 := Tryz.isAgg33
  z37 := Tryz.sizeOf33
  v37 := Tryz.zeroValue33
  t70 := Tryz.underlying81
  a70 := Tryz.isAgg81
  z70 := Tryz.sizeOf81
  v70 := Tryz.zeroValue81
  t72 := Tryz.underlying83
  a72 := Tryz.isAgg83
  z72 := Tryz.sizeOf83
  v72 := Tryz.zeroValue83
  t75 := Tryz.underlying85
  a75 := Tryz.isAgg85
  z75 := Tryz.sizeOf85
  v75 := Tryz.zeroValue85
  t164 := Tryz.underlying141
  a164 := Tryz.isAgg141
  z164 := Tryz.sizeOf141
  v164 := Tryz.zeroValue141 }
theorem Tryz.Builder_Extra_167 : Builder.Extra Tryz.prog Tryz.lays167_ren := {
  sizeBuilder := by kernel_rfl
  liesBuilder := by kernel_rfl
  t5 := Tryz.underlying5
  a5 := Tryz.isAgg5
  z5 := Tryz.sizeOf5
  v5 := Tryz.zeroValue5
  infoByte := by kernel_rfl
  cellsByte := by kernel_rfl
  sizeByte := by kernel_rfl
  neB5 := by decide }
open Go.RowKit in
/-- (*strings.Builder).WriteByte: "WriteByte appends the byte c to b's buffer. The returned error is always nil.": UNDER Go's OWN LIMIT: the new length takes at most 2^47 bytes. (LAID: no walk: one application.) -/
theorem Tryz.Builder_WriteByte (B b : Nat) (bs : List Value) (c : Int) (w : World) (h : Lib.IsBuilder 83 5 B b bs w) (hlen : bs.length + 1 ≤ 140737488355328) (hBw : B ≤ w.heap.size) :
    Calls Tryz.prog 39 #[.pointer (some ⟨b, 0, none⟩), .int .u8 c] w fun e w' => e = .returned .nilIface ∧ (Lib.BuilderAt 83 5 B b (.pointer (some ⟨b, 0, none⟩)) (bs ++ [.int .u8 c]) w' ∧ Below B w w') := Any.Builder_WriteByte Tryz.lays167 Tryz.Builder_Extra_167 B b bs c w h hlen hBw
end Go.Proofs

namespace Go.Proofs.YtblcaeoeeepajaaGreatDoor
set_option linter.unusedVariables false
open Go.RowKit Go.Mem Go.Sort

theorem sort_any (base : Nat) (A : Option Addr) (n c : Nat) (zs : List Int) (w : World) (h : w.ownsRow base 3 1 (.slice A n c) n (is zs)) (hn : n ≤ 1000000) :
    Calls Tryz.prog 72 #[.slice A n c] w fun e w' => e = .returned (.tuple #[]) ∧ w'.ownsRow base 3 1 (.slice A n c) n (is (zs.mergeSort fun x y => decide (x ≤ y))) ∧ Chg (fun k => blk A = some k) w w' := by
  have hl : zs.length = n := by have := (Rd.of_own h).len; simpa using this
  rcases h.2 with ⟨hv, h0⟩ | ⟨g, cap, cur, hv, hg, hb, h1, h2, h3, h4⟩
  · cases hv
    obtain rfl : zs = [] := List.eq_nil_of_length_eq_zero hl
    refine (Tryz.slices_Sort_int_none none 0 w).mono ?_
    rintro e w' ⟨rfl, rfl⟩
    exact ⟨rfl, by simpa using h, Chg.refl _ _⟩
  · cases hv
    have hlt : g < w.heap.size := (Array.getElem?_eq_some_iff.1 hb).1
    subst hl
    have hH : Holds (Value.int .i64) w g 0 zs.toArray := holds_of_blockI hb (by rw [Nat.mul_one] at h4; exact h4)
    refine (Tryz.slices_Sort_int g 0 c zs w hH hlt (by omega)).mono ?_
    rintro e w' ⟨rfl, k, os, rfl⟩
    have hgr := grownBy_sortedI (w := w) (g := g) (n := k) (os := os) (zs.mergeSort fun x y => decide (x ≤ y)).toArray
    refine ⟨rfl, ownsRow_sortedI (by rw [List.length_mergeSort]) hg hb h1 h2 h3, ⟨hgr.os, hgr.tape, hgr.output, hgr.size, fun k hk hne => hgr.block k hk (fun e => hne e.symm)⟩⟩
end Go.Proofs.YtblcaeoeeepajaaGreatDoor

namespace Go.Proofs.YtblcaeoeeepajaaGreatDoor
set_option linter.unusedVariables false
open Go.RowKit Go.Mem Go.Dk

/-- The files as ints. -/
def filesI (s : S) : List Int := (files s).map (fun i : Nat => (i : Int))
theorem filesI_sorted (s : S) : (filesI s).Pairwise (fun x y => x ≤ y) := by
  unfold filesI
  rw [List.pairwise_map]
  exact (filesN_rise s.f 64).imp (fun {a b} h => by omega)
theorem filesI_nodup (s : S) : (filesI s).Nodup := by
  unfold filesI List.Nodup
  rw [List.pairwise_map]
  exact (filesN_rise s.f 64).imp (fun {a b} h => by omega)
theorem lk_files {V : Nat → Value} {s : S} {x : Int} : (lk (entL V s) x).isSome = true ↔ x ∈ filesI s := by
  rw [lk_entL]
  unfold filesI
  rw [List.mem_map]
  constructor
  · intro h
    split at h
    · rename_i hx
      exact ⟨x.toNat, mem_files.2 ⟨by omega, hx.2.2⟩, by omega⟩
    · cases h
  · rintro ⟨i, hi, rfl⟩
    have := mem_files.1 hi
    rw [if_pos ⟨by omega, by omega, by simpa using this.2⟩]
    rfl
theorem sort_files {s : S} {zs : List Int} (h : zs.Nodup) (hm : ∀ x, x ∈ zs ↔ x ∈ filesI s) : zs.mergeSort (fun x y => decide (x ≤ y)) = filesI s := by
  have hp : zs.Perm (filesI s) := (List.perm_ext_iff_of_nodup h (filesI_nodup s)).2 hm
  have h1 : (zs.mergeSort (fun x y => decide (x ≤ y))).Perm (filesI s) := (List.mergeSort_perm zs _).trans hp
  have h2 := List.pairwise_mergeSort (le := fun x y : Int => decide (x ≤ y)) (fun a b c => by simp; omega) (fun a b => by simp; omega) zs
  refine h1.eq_of_pairwise (fun a b _ _ h3 h4 => by simp at h3 h4; omega) h2 ?_
  exact (filesI_sorted s).imp (fun h => by simpa using h)
/-- The keys that have been seen. -/
structure Seen (L : List Ent) (left : Int → Bool) (zs : List Int) : Prop where
  nodup : zs.Nodup
  mem : ∀ x, x ∈ zs ↔ (lk L x).isSome = true ∧ left x = false
theorem Seen.step {L : List Ent} {left : Int → Bool} {zs : List Int} (h : Seen L left zs) {i : Int} (hi : (lk L i).isSome = true) (hl : left i = true) : Seen L (fun x => left x && !(x == i)) (zs ++ [i]) := by
  refine ⟨?_, fun x => ?_⟩
  · rw [List.nodup_append]
    refine ⟨h.nodup, by simp, fun a ha b hb => ?_⟩
    obtain rfl : b = i := by simpa using hb
    intro e
    subst e
    have := ((h.mem a).1 ha).2
    rw [hl] at this
    cases this
  · rw [List.mem_append, h.mem x, List.mem_singleton]
    by_cases e : x = i
    · subst e; simp [hi]
    · simp [e]

set_option maxHeartbeats 1000000 in
set_option maxRecDepth 100000 in
theorem dFiles_any (g m : Nat) (V : Nat → Value) (s : S) (w : World) (h : DI w g m V s) :
    Calls Tryz.prog 45 #[.pointer (some ⟨g, 0, none⟩)] w fun e w' => ∃ A c, e = .returned (.slice A (filesI s).length c) ∧ w'.ownsRow w.heap.size 3 1 (.slice A (filesI s).length c) (filesI s).length (is (filesI s)) ∧ New w w' := by
  have hc1 := h.core.blk.cell 1 (u := .map (some m)) rfl
  have hgl := h.core.blk.lt
  have HH := Lib.hid h
  have HINV := Lib.hid h.inv
  have hf64 : (filesI s).length ≤ 64 := by unfold filesI; rw [List.length_map]; exact filesN_len s.f 64
  clear h
  go_enter Tryz.func45, Tryz.ntmps45
  go_wp2_with (at_range; refine wpList_rangeI _ rfl _ rfl keyInt Tryz.underlying64 rfl HH.out.core.map ?_; intro w0 hr0 hn0 hs0)
  have HR0 := Lib.hid hr0
  have HN0 := Lib.hid hn0
  clear hr0 hn0
  go_frame
  go_loopw [3] (fun u wr => ∃ left zs A n c, u = .slice A n c ∧ Seen (entL V s) left zs ∧ RI wr Tryz.prog 3 m w.heap.size (entL V s) left ∧ wr.ownsRow (w.heap.size + 1) 3 1 (.slice A n c) n (is zs) ∧ n = zs.length ∧ New w wr) (fun _ wr => wr.rangeLeft m w.heap.size)
  case atStart => exact ⟨_, [], none, 0, 0, rfl, ⟨List.nodup_nil, fun x => by simp; intro h; cases hx : lk (entL V s) x <;> simp_all⟩, HR0.out, World.ownsRow_nil _ _ _ _, rfl, HN0.out⟩
  case round =>
    obtain ⟨left, zs, A, n, c, rfl, hseen, hri, hown, hnl, hnw⟩ := hrel
    have HRI := Lib.hid hri
    have HNW := Lib.hid hnw
    have HOW := Lib.hid hown
    have HSE := Lib.hid hseen
    have HNL := Lib.hid hnl
    have hn64 : n ≤ 64 := by
      have : ∀ x ∈ zs, x ∈ filesI s := fun x hx => lk_files.1 ((hseen.mem x).1 hx).1
      have := List.Nodup.length_le_of_subset hseen.nodup this
      omega
    clear hri hnw hown hseen hnl
    go_wp2_with (at_next; refine wpList_nextI wr rfl _ rfl keyInt rfl HRI.out mkC HINV.out ?_ ?_)
    · intro hdone
      have hmem : ∀ x, x ∈ zs ↔ x ∈ filesI s := fun x => by
        rw [HSE.out.mem x, lk_files]
        exact ⟨fun h => h.1, fun h => ⟨h, hdone x⟩⟩
      have hsort := sort_files HSE.out.nodup hmem
      have hlen : (filesI s).length = n := by rw [← hsort, List.length_mergeSort, HNL.out]
      have HSO := Lib.hid hsort
      have HLE := Lib.hid hlen
      clear hmem hsort hlen
      go_wp2_with fail
      refine (sort_any (w.heap.size + 1) A n c zs wr HOW.out (by omega)).mono ?_
      rintro e w1 ⟨rfl, hown1, hch1⟩
      rw [HSO.out] at hown1
      have HX := Lib.hid (And.intro hown1 (HNW.out.owned hch1 (fun k hk => Nat.le_of_succ_le (own_blk_le HOW.out hk).1)))
      clear hown1 hch1
      go_wp2
      go_ret
      rw [HLE.out]
      exact ⟨A, c, rfl, own_base HX.out.1 (Nat.le_succ _), HX.out.2⟩
    · intro i A2 n2 c2 d2 w1 hm hi hl hr1 hc2 hsz hlt hen
      have hlk : (lk (entL V s) i).isSome = true := by rw [(lk_some (entL_rise V s)).2 hm]; rfl
      have hown1 := own_chg HOW.out hc2 (fun k hk e => by have := (own_blk_le HOW.out hk).1; omega)
      have hnx := (Chg.owned HNW.out hc2 (fun j e => by have := HNW.out.size; have := HN0.out.size; omega))
      have HSE1 := Lib.hid (HSE.out.step hlk hl)
      have HX := Lib.hid (And.intro hr1 hnx)
      have HO1 := Lib.hid hown1
      have hz1 : w.heap.size + 1 ≤ w1.heap.size := by have := HNW.out.size; have := HN0.out.size; rw [hsz]; have := HRI.out.lt; omega
      have HM := Lib.hid hm
      simp only [mkC] at hen ⊢
      clear hm hlk hown1 hnx hc2 hr1 hsz
      go_wp2_with (at_builtin; refine wpList_app elemInts rfl _ _ rfl rfl (HO1.out.alloc _) rfl Rd.one (is_one [i]) (by simp only [maxLen]; omega) (by omega) (by simp; omega) ?_; intro A' c' w2 hown2 hg2 hat2; have HO2 := Lib.hid hown2; have HG2 := Lib.hid (And.intro hg2 hat2); clear hown2 hg2 hat2)
      have hml := HH.out.core.map.lt
      have hch := ((Chg.refl (fun k => some k = blk A) w1).alloc (.cells #[Value.int IntKind.i64 i] 3)).trans (grown_chg HG2.out.1) (fun _ _ h => h)
      have hA : ∀ k, some k = blk A → w.heap.size + 1 ≤ k := fun k hk => (own_blk_le HO1.out hk.symm).1
      have n1 : ¬ (fun k => some k = blk A) m := fun e => by have := hA m e; omega
      have n2 : ¬ (fun k => some k = blk A) w.heap.size := fun e => by have := hA w.heap.size e; omega
      refine ⟨⟨_, zs ++ [i], A', n + 1, c', rfl, HSE1.out, HX.out.1.chg hch n1 n2, ?_, ?_, HX.out.2.owned hch (fun k hk => by have := hA k hk; omega)⟩, ?_⟩
      · have := HO2.out
        simpa [is] using this
      · rw [List.length_append, ← HNL.out]; rfl
      · rw [RI.left_chg HX.out.1 hch n1 n2]
        exact hlt
end Go.Proofs.YtblcaeoeeepajaaGreatDoor

namespace Go.Proofs.YtblcaeoeeepajaaGreatDoor
set_option linter.unusedVariables false
open Go.RowKit Go.Mem Go.Dk

section
variable {w w' : World} {g m : Nat} {V V' : Nat → Value} {s : S}
/-- What a call that changes a disk changes. -/
structure Did (w w' : World) (g m : Nat) (V V' : Nat → Value) : Prop where
  chg : Chg (ownD g m V) w w'
  own : ∀ k, ownD g m V' k → ownD g m V k ∨ w.heap.size ≤ k
theorem Did.of_new (h : New w w') : Did w w' g m V V := ⟨h.mono (fun _ _ hf => hf.elim), fun k hk => .inl hk⟩
theorem Did.trans {w'' : World} {V'' : Nat → Value} (h : Did w w' g m V V') (h' : Did w' w'' g m V' V'') : Did w w'' g m V V'' :=
  ⟨h.chg.trans h'.chg (fun k hk ho => by
    rcases h.own k ho with h1 | h1
    · exact h1
    · omega), fun k hk => by
    rcases h'.own k hk with h1 | h1
    · exact h.own k h1
    · exact .inr (Nat.le_trans h.chg.size h1)⟩
theorem ownD_upd {i : Nat} {v : Value} {k : Nat} (h : ownD g m (upd V i v) k) : ownD g m V k ∨ blkV v = some k := by
  rcases h with h | h | ⟨j, hj⟩
  · exact .inl (.inl h)
  · exact .inl (.inr (.inl h))
  · by_cases e : j = i
    · subst e
      rw [upd_same] at hj
      exact .inr hj
    · rw [upd_other _ _ e] at hj
      exact .inl (.inr (.inr ⟨j, hj⟩))
/-- A file's row has changed. -/
theorem DI.put_row (h : DI w g m V s) {i d : Nat} {l : List UInt8} {v : Value} (hc : Chg (fun k => k = g ∨ k = m ∨ blkV (V i) = some k) w w') (hd : DC w' g m (upd V i v) (put s i l d)) (hr : RowV w' 5 IsU8 v (bs l)) (hb : ∀ k, blkV v = some k → blkV (V i) = some k ∨ w.heap.size ≤ k) (hw : WF (put s i l d)) :
    DI w' g m (upd V i v) (put s i l d) ∧ Did w w' g m V (upd V i v) := by
  have hch : Chg (ownD g m V) w w' := hc.mono (fun k _ hk => by
    rcases hk with h1 | h1 | h1
    · exact .inl h1
    · exact .inr (.inl h1)
    · exact .inr (.inr ⟨i, h1⟩))
  refine ⟨⟨hd, fun j => ?_, fun j1 j2 k h1 h2 => ?_, hw⟩, hch, fun k hk => ?_⟩
  · by_cases e : j = i
    · subst e
      simpa [put, upd_same] using hr
    · simp only [put, upd_other _ _ e]
      refine (h.rows j).chg hc (fun k hk hS => ?_)
      rcases hS with rfl | rfl | hS
      · exact (h.core.row_ne (h.rows j) hk).1 rfl
      · exact (h.core.row_ne (h.rows j) hk).2 rfl
      · exact e (h.apart j i k hk hS)
  · have one : ∀ j, j ≠ i → blkV (V j) = some k → blkV v = some k → False := fun j hj e1 e2 => by
      rcases hb k e2 with h3 | h3
      · exact hj (h.apart j i k e1 h3)
      · have := (h.rows j).lt e1; omega
    by_cases e1 : j1 = i <;> by_cases e2 : j2 = i
    · rw [e1, e2]
    · subst e1
      rw [upd_same] at h1
      rw [upd_other _ _ e2] at h2
      exact (one j2 e2 h2 h1).elim
    · subst e2
      rw [upd_same] at h2
      rw [upd_other _ _ e1] at h1
      exact (one j1 e1 h1 h2).elim
    · rw [upd_other _ _ e1] at h1
      rw [upd_other _ _ e2] at h2
      exact h.apart j1 j2 k h1 h2
  · rcases ownD_upd hk with h1 | h1
    · exact .inl h1
    · rcases hb k h1 with h2 | h2
      · exact .inl (.inr (.inr ⟨i, h2⟩))
      · exact .inr h2
/-- The plain cells have changed. -/
theorem DI.cells {s' : S} (h : DI w g m V s) (hf : s'.f = s.f ∧ s'.firm = s.firm) (hb : Blk w' g 66 (dCells s' m)) (hc : Chg (fun k => k = g) w w') (hw : WF s') : DI w' g m V s' ∧ Did w w' g m V V := by
  have he : entL V s' = entL V s := by unfold entL files; rw [hf.1, hf.2]
  refine ⟨⟨⟨hb, by rw [he]; exact h.core.map.chg hc (fun e => h.core.ne e.symm), fun i hi => ?_⟩, fun i => ?_, h.apart, hw⟩, hc.mono (fun k _ e => .inl e), fun k hk => .inl hk⟩
  · rw [hf.1] at hi
    rw [hf.2]
    exact h.core.nil i hi
  · rw [hf.1]
    exact (h.rows i).chg hc (fun k hk e => (h.core.row_ne (h.rows i) hk).1 e)
/-- A file's slice. -/
theorem DI.slice (h : DI w g m V s) (i : Nat) : ∃ A c, V i = .slice A (s.f i).length c ∧ (s.f i).length ≤ c ∧ c ≤ maxLen := by
  obtain ⟨A, c, h1, h2, h3⟩ := (h.rows i).shape
  rw [bs_length] at h1 h2
  exact ⟨A, c, h1, h2, h3⟩
end
section
variable (w : World) {m : Nat} {ops : Array Oper} {rest : List Oper} {o : Oper} {a : Act} {Q : Exit → Act → World → Prop}
/-- A file's content is looked up. -/
theorem wpList_file (hg : o.guard = none) (y x : Operand) (hop : o.op = Op.lookup 64 y x false) {V : Nat → Value} {s : S} {w0 : World} {g : Nat} (h : DC w0 g m V s) (hm : a.eval y = .map (some m)) (hmi : MI w Tryz.prog 3 m (entL V s)) {i : Nat} (hi : i < 64) (hx : a.eval x = .int .i64 (i : Int)) {A : Option Addr} {n c d : Nat} (hv : V i = .slice A n c) (hd : s.firm i = d)
    (hK : wpList Tryz.prog ops Q rest (a.put o.dst (.agg #[.slice A n c, .int .i64 (d : Int)])) w) : wpList Tryz.prog ops Q (o :: rest) a w := by
  refine wpList_lookI w hg y x false hop keyInt Tryz.underlying64 (zeroCt w) hm hmi (i64_file hi) hx ?_
  have := h.lk hi
  rw [hv, hd] at this
  simp only [Bool.false_eq_true, if_false]
  rw [this]
  exact hK
end

set_option maxHeartbeats 1000000 in
set_option maxRecDepth 100000 in
theorem dNew_any (room : Int) (hr : 0 ≤ room ∧ room ≤ 16777216) (w : World) :
    Calls Tryz.prog 5 #[.int .i64 room] w fun e w' => ∃ g m, e = .returned (.tuple #[.pointer (some ⟨g, 0, none⟩), .int .i64 0]) ∧ DI w' g m (fun _ => .slice none 0 0) (Dk.new room.toNat) ∧ New w w' ∧ w.heap.size ≤ g ∧ w.heap.size ≤ m := by
  obtain ⟨n, rfl⟩ := Int.eq_ofNat_of_zero_le hr.1
  have h1 : ((n : Int) < 0) = False := by simp
  have h2 : (16777216 < (n : Int)) = False := by simp; omega
  go_enter Tryz.func5, Tryz.ntmps5
  have hmk : ∀ w : World, (Instr.makeMap 64 none).run Tryz.prog w = .ok (.map (some w.heap.size)) (w.alloc (.map #[] 0)) := fun w => by kernel_rfl
  go_wp2
  go_ret2
  have h3 : Blk ((w.alloc (.map #[] 0)).alloc (.cells #[Value.int IntKind.i64 ↑n, Value.map (some w.heap.size), Value.bool false, Value.bool false, Value.int IntKind.i64 0] 66)) (w.heap.size + 1) 66 (dCells (Dk.new (n : Int).toNat) w.heap.size) := by
    have := Blk.new (w.alloc (.map #[] 0)) 66 #[Value.int IntKind.i64 ↑n, Value.map (some w.heap.size), Value.bool false, Value.bool false, Value.int IntKind.i64 0]
    simpa [dCells, Dk.new, show max (-1 : Int) 0 = 0 by decide] using this
  have h4 : MI ((w.alloc (.map #[] 0)).alloc (.cells #[Value.int IntKind.i64 ↑n, Value.map (some w.heap.size), Value.bool false, Value.bool false, Value.int IntKind.i64 0] 66)) Tryz.prog 3 w.heap.size (entL (fun _ => .slice none 0 0) (Dk.new (n : Int).toNat)) := by
    have he : entL (fun _ => Value.slice none 0 0) (Dk.new (n : Int).toNat) = [] := by
      refine List.eq_nil_iff_forall_not_mem.2 (fun p hp => ?_)
      obtain ⟨i, _, h, _⟩ := mem_entL.1 hp
      exact h rfl
    rw [he]
    exact (MI.made w Tryz.prog 3).chg ((Chg.refl (fun _ => False) _).alloc _) (fun h => h)
  exact ⟨w.heap.size + 1, w.heap.size, by rfl, ⟨⟨h3, h4, fun i _ => ⟨rfl, rfl⟩⟩, fun i => RowV.nil _ _ _, (fun i j k hk _ => by cases hk), WF.new (by omega)⟩, ((Chg.refl _ w).alloc _).alloc _, by omega, Nat.le_refl _⟩
end Go.Proofs.YtblcaeoeeepajaaGreatDoor

namespace Go.Proofs.YtblcaeoeeepajaaGreatDoor
set_option linter.unusedVariables false
open Go.RowKit Go.Mem Go.Dk

theorem read_bad {s : S} {file : Int} (h : file < 0 ∨ 64 ≤ file) : read s file = ([], 1) := if_pos h
theorem read_off {s : S} {file : Int} (h : ¬ (file < 0 ∨ 64 ≤ file)) (ho : s.off = true) : read s file = ([], 24) := by unfold Dk.read; rw [if_neg h, if_pos ho]
theorem read_ok {s : S} {i : Nat} (h : i < 64) (ho : s.off = false) : read s (i : Int) = (s.f i, 0) := by unfold Dk.read; rw [if_neg (by omega), if_neg (by rw [ho]; simp)]; simp

set_option maxHeartbeats 1000000 in
set_option maxRecDepth 100000 in
theorem dRead_any (g m : Nat) (V : Nat → Value) (s : S) (w : World) (h : DI w g m V s) (file : Int) :
    Calls Tryz.prog 16 #[.pointer (some ⟨g, 0, none⟩), .int .i64 file] w fun e w' => ∃ A c, e = .returned (.tuple #[.slice A (read s file).1.length c, .int .i64 (read s file).2]) ∧
      w'.ownsRow w.heap.size 5 1 (.slice A (read s file).1.length c) (read s file).1.length (bs (read s file).1) ∧ New w w' := by
  have hc1 := h.core.blk.cell 1 (u := .map (some m)) rfl
  have hc2 := h.core.blk.cell 2 (u := .bool s.off) rfl
  have hgl := h.core.blk.lt
  have HH := Lib.hid h
  clear h
  by_cases h1 : file < 0
  · rw [read_bad (.inl h1)]
    go_enter Tryz.func16, Tryz.ntmps16
    go_wp2
    go_ret2
    exact ⟨none, 0, rfl, World.ownsRow_nil _ _ _ _, Chg.refl _ _⟩
  by_cases h2 : 64 ≤ file
  · rw [read_bad (.inr h2)]
    go_enter Tryz.func16, Tryz.ntmps16
    go_wp2
    go_ret2
    exact ⟨none, 0, rfl, World.ownsRow_nil _ _ _ _, Chg.refl _ _⟩
  have hno : ¬ (file < 0 ∨ 64 ≤ file) := by omega
  cases ho : s.off with
  | true =>
    rw [read_off hno ho]
    rw [ho] at hc2
    go_enter Tryz.func16, Tryz.ntmps16
    go_wp2
    go_ret2
    exact ⟨none, 0, rfl, World.ownsRow_nil _ _ _ _, Chg.refl _ _⟩
  | false =>
    obtain ⟨i, rfl⟩ := Int.eq_ofNat_of_zero_le (by omega : 0 ≤ file)
    have hi : i < 64 := by omega
    rw [read_ok hi ho]
    rw [ho] at hc2
    obtain ⟨A, c, hv, hlc, hcm⟩ := HH.out.slice i
    obtain ⟨n, hn⟩ : ∃ n, (s.f i).length = n := ⟨_, rfl⟩
    obtain ⟨d, hd⟩ : ∃ d, s.firm i = d := ⟨_, rfl⟩
    have hlen := HH.out.wf.len i
    rw [hn] at hv hlc hlen
    have hrd : Rd w A n (bs (s.f i)) := by have := HH.out.rows i; rw [hv] at this; exact this.rd
    have HV := Lib.hid hv
    have HD := Lib.hid hd
    have HR := Lib.hid hrd
    have HN := Lib.hid hn
    clear hv hd hrd hlc hcm
    rw [hn]
    clear hn
    have hfl : ∀ w : World, (Instr.field 91 (.agg #[.slice A n c, .int .i64 (d : Int)]) 0).run Tryz.prog w = .ok (.slice A n c) w := fun w => by kernel_rfl
    go_enter Tryz.func16, Tryz.ntmps16
    go_wp2_with (first
      | (at_lookup; refine wpList_file _ rfl _ _ rfl HH.out.core rfl (HH.out.core.map.chg ((Chg.refl (fun _ => False) w).alloc _) (fun h => h)) hi rfl HV.out HD.out ?_)
      | (at_builtin; refine wpList_app elemBytes rfl _ _ rfl rfl (World.ownsRow_made w _ 0 (Nat.le_refl _) (Nat.zero_le _) rfl) rfl (HR.out.new ((Chg.refl _ w).alloc _)) (bs_one _) (by simp only [maxLen]; omega) (by omega) (by simp) ?_; intro A' c' w2 hown2 hg2 hat2; have HO2 := Lib.hid (And.intro hown2 hg2); clear hown2 hg2 hat2))
    go_ret2
    refine ⟨A', c', by simp, by simpa using HO2.out.1, ?_⟩
    exact ((Chg.refl _ w).alloc _).grown HO2.out.2 (fun k hk hlt => by simp [blk] at hk; omega)
end Go.Proofs.YtblcaeoeeepajaaGreatDoor

namespace Go.Proofs.YtblcaeoeeepajaaGreatDoor
set_option linter.unusedVariables false
open Go.RowKit Go.Mem Go.Dk

theorem app_bad {s : S} {file : Int} {l : List UInt8} (h : file < 0 ∨ 64 ≤ file) : append s file l = (s, 1) := if_pos h
theorem app_off {s : S} {file : Int} {l : List UInt8} (h : ¬ (file < 0 ∨ 64 ≤ file)) (ho : s.off = true) : append s file l = (s, 24) := by unfold Dk.append; rw [if_neg h, if_pos ho]
theorem app_full {s : S} {file : Int} {l : List UInt8} (h : ¬ (file < 0 ∨ 64 ≤ file)) (ho : s.off = false) (hf : s.room < used s + l.length) : append s file l = (s, 23) := by unfold Dk.append; rw [if_neg h, if_neg (by rw [ho]; simp), if_pos hf]
theorem app_ok {s : S} {i : Nat} {l : List UInt8} (h : i < 64) (ho : s.off = false) (hf : ¬ s.room < used s + l.length) : append s (i : Int) l = ((pstep (put s i (s.f i ++ l) (s.firm i))).1, if (pstep (put s i (s.f i ++ l) (s.firm i))).2 then 24 else 0) := by unfold Dk.append; rw [if_neg (by omega), if_neg (by rw [ho]; simp), if_neg hf]; simp
theorem Chg.setCell_new {S : Nat → Prop} {w w' : World} {g i : Nat} (h : Chg S w w') (hg : w.heap.size ≤ g) (v : Value) : Chg S w (w'.setCell ⟨g, i, none⟩ v) := by
  have := h.trans ((Chg.refl (fun k => k = g) w').setCell (p := ⟨g, i, none⟩) (fun _ => rfl) v) (S := S) (T := fun k => k = g)
  exact this (fun k hk e => by omega)
theorem DI.appended {w w2 w4 : World} {g m i d n' c' : Nat} {V : Nat → Value} {s : S} {l' : List UInt8} {A' : Option Addr} {u : Value} (h : DI w g m V s) (hi : i < 64) (hd : s.firm i = d) (hN : l'.length = n') {xs : List Value} (hrow : RowV w2 5 IsU8 (.slice A' n' c') xs) (hx : xs = bs l') (hat : blk A' = blkV (V i) ∨ ∃ k, blk A' = some k ∧ w.heap.size ≤ k)
    {w3 : World} (hc3 : Chg (fun k => blkV (V i) = some k) w w3) (hc4 : Chg (fun k => k = m) w3 w4) (hd4 : DC w4 g m (upd V i (if n' = 0 then .slice none 0 0 else .slice A' n' c')) (put s i l' d)) {k0 : Nat} (h3 : w3 = w2.setCell ⟨k0, 0, none⟩ u) (hn : blk A' ≠ some k0) (hw : WF (put s i l' d)) :
    DI w4 g m (upd V i (if n' = 0 then .slice none 0 0 else .slice A' n' c')) (put s i l' d) ∧ Did w w4 g m V (upd V i (if n' = 0 then .slice none 0 0 else .slice A' n' c')) := by
  subst h3
  subst hx
  have hr4 : RowV w4 5 IsU8 (.slice A' n' c') (bs l') := by
    have h1 := hrow.chg ((Chg.refl (fun k => k = k0) w2).setCell (p := ⟨k0, 0, none⟩) (fun _ => rfl) u) (fun k hk e => hn (by subst e; exact hk))
    refine h1.chg hc4 (fun k hk e => ?_)
    obtain ⟨cs, h5, _⟩ := h1.kind hk
    have e : k = m := e
    rw [e] at h5
    obtain ⟨_, es, clock, hb, _⟩ := h.core.map
    have h7 : (w2.setCell ⟨k0, 0, none⟩ u).heap[m]? = w.heap[m]? := hc3.block m h.core.map.lt (fun e => (h.core.row_ne (h.rows i) e).2 rfl)
    unfold Blk at h5
    rw [h5, hb] at h7
    cases h7
  refine h.put_row ((hc3.mono (fun k _ e => .inr (.inr e))).trans hc4 (fun k _ e => .inr (.inl e))) hd4 ?_ (fun k hk => ?_) hw
  · split
    · rename_i h0
      have : l' = [] := List.eq_nil_of_length_eq_zero (by omega)
      subst this
      exact RowV.nil _ _ _
    · exact hr4
  · split at hk
    · cases hk
    · rcases hat with e | ⟨k', e, hle⟩
      · exact .inl (by rw [← e]; exact hk)
      · have : k = k' := by have h9 : blk A' = some k := hk; rw [e] at h9; injection h9 with h9; exact h9.symm
        exact .inr (by omega)
theorem elemB : Elem Tryz.prog 33 5 (.int .u8 0) 1 := elemBytes

set_option maxHeartbeats 1000000 in
set_option maxRecDepth 100000 in
theorem dAppend_any (g m : Nat) (V : Nat → Value) (s : S) (w : World) (h : DI w g m V s) (file : Int) (B : Option Addr) (nb cb : Nat) (l : List UInt8) (hb : Rd w B nb (bs l)) (hnb : nb ≤ 1000000000) :
    Calls Tryz.prog 12 #[.pointer (some ⟨g, 0, none⟩), .int .i64 file, .slice B nb cb] w fun e w' => e = .returned (.int .i64 (append s file l).2) ∧
      ∃ V', DI w' g m V' (append s file l).1 ∧ Did w w' g m V V' := by
  have hc0 := h.core.blk.cell 0 (u := .int .i64 (s.room : Int)) rfl
  have hc1 := h.core.blk.cell 1 (u := .map (some m)) rfl
  have hc2 := h.core.blk.cell 2 (u := .bool s.off) rfl
  have hgl := h.core.blk.lt
  have hlb : l.length = nb := by have := hb.len; simpa using this
  have hus := h.wf.used
  have hro := h.wf.room
  have HH := Lib.hid h
  have HLB := Lib.hid hlb
  clear h hlb
  by_cases h1 : file < 0
  · rw [app_bad (.inl h1)]
    go_enter Tryz.func12, Tryz.ntmps12
    go_wp2
    go_ret
    exact ⟨rfl, V, HH.out, Did.of_new (Chg.refl _ _)⟩
  by_cases h2 : 64 ≤ file
  · rw [app_bad (.inr h2)]
    go_enter Tryz.func12, Tryz.ntmps12
    go_wp2
    go_ret
    exact ⟨rfl, V, HH.out, Did.of_new (Chg.refl _ _)⟩
  have hno : ¬ (file < 0 ∨ 64 ≤ file) := by omega
  cases ho : s.off with
  | true =>
    rw [app_off hno ho]
    rw [ho] at hc2
    go_enter Tryz.func12, Tryz.ntmps12
    go_wp2
    go_ret
    exact ⟨rfl, V, HH.out, Did.of_new (Chg.refl _ _)⟩
  | false =>
    rw [ho] at hc2
    obtain ⟨i, rfl⟩ := Int.eq_ofNat_of_zero_le (by omega : 0 ≤ file)
    have hi : i < 64 := by omega
    obtain ⟨u, hu⟩ : ∃ u, used s = u := ⟨_, rfl⟩
    rw [hu] at hus
    have HU := Lib.hid hu
    by_cases hf : s.room < used s + l.length
    · rw [app_full hno ho hf]
      have hf2 : (s.room : Int) < (u : Int) + (nb : Int) := by rw [hu, HLB.out] at hf; omega
      have hw : IntKind.i64.wrap ((u : Int) + (nb : Int)) = (u : Int) + (nb : Int) := IntWalk.i64_in _ (by omega)
      clear hf hu
      have HO := Lib.hid ho
      clear ho
      go_enter Tryz.func12, Tryz.ntmps12
      go_wp2_with fail
      go_region_with (go_at_call 42; (with_reducible refine (dUsed_any g m V s _ (HH.out.new (Chg.refl _ _).drew)).mono ?_); rintro e w1 ⟨rfl, hn1⟩; rw [HU.out]; have HN1 := Lib.hid hn1; have hd0 := hn1.cell hc0 (fun h => h); clear hn1)
      all_goals go_wp2
      all_goals go_ret
      all_goals exact ⟨rfl, V, HH.out.new ((Chg.refl _ _).drew.new HN1.out), Did.of_new ((Chg.refl _ _).drew.new HN1.out)⟩
    · rw [app_ok hi ho hf]
      have hf2 : (u : Int) + (nb : Int) ≤ (s.room : Int) := by rw [hu, HLB.out] at hf; omega
      have hw : IntKind.i64.wrap ((u : Int) + (nb : Int)) = (u : Int) + (nb : Int) := IntWalk.i64_in _ (by omega)
      clear hf hu
      have HO := Lib.hid ho
      clear ho
      obtain ⟨A, c, hv, hlc, hcm⟩ := HH.out.slice i
      obtain ⟨n, hn⟩ : ∃ n, (s.f i).length = n := ⟨_, rfl⟩
      obtain ⟨d, hd⟩ : ∃ d, s.firm i = d := ⟨_, rfl⟩
      rw [hd]
      obtain ⟨r, hr⟩ : ∃ r, (pstep (put s i (s.f i ++ l) d)).2 = r := ⟨_, rfl⟩
      rw [hr]
      have HR2 := Lib.hid hr
      clear hr
      have hlen := HH.out.wf.len i
      have hnu : n ≤ u := by rw [← hn, ← HU.out]; exact usedN_le 64 hi
      rw [hn] at hv hlc hlen
      have hrow := HH.out.rows i
      rw [hv] at hrow
      have HV := Lib.hid hv
      have HD := Lib.hid hd
      have HR := Lib.hid hrow
      have HN := Lib.hid hn
      have HB := Lib.hid hb
      clear hv hd hrow hlc hcm hn hb
      go_enter Tryz.func12, Tryz.ntmps12
      go_wp2_with fail
      go_region_with (go_at_call 42; (with_reducible refine (dUsed_any g m V s _ (HH.out.new (Chg.refl _ _).drew)).mono ?_); rintro e w1 ⟨rfl, hn1⟩; rw [HU.out]; have HN1 := Lib.hid hn1; have hd0 := hn1.cell hc0 (fun h => h); have hd1 := hn1.cell hc1 (fun h => h); have hgl1 := Nat.lt_of_lt_of_le hgl hn1.size; clear hn1)
      all_goals
        have HN2 := Lib.hid ((Chg.refl (fun _ => False) w).drew.new HN1.out)
        clear hc0 hc1 hc2 hgl
        have hroom : (bs (s.f i)).length + nb ≤ 100000000 := by rw [bs_length, HN.out]; omega
        go_wp2_with (first
          | (at_lookup; refine wpList_file _ rfl _ _ rfl HH.out.core rfl (HH.out.core.map.chg HN2.out (fun h => h)) hi rfl HV.out HD.out ?_)
          | (at_builtin; refine wpList_appV elemB rfl ⟨0, rfl⟩ rfl _ _ rfl rfl (HR.out.new (HN2.out.alloc _)) rfl (src_rd Tryz.underlying33 (HB.out.new (HN2.out.alloc _)) (bs_one _)) (bs_u8 _) (by omega) (by omega) ?_; intro A' c' N' w2 hN' hown2 hg2' hat2'; have hg2 : World.grownBy (w1.alloc (.cells #[.slice A n c, .int .i64 (d : Int)] 91)) w2 (blk A) := hg2'; have hat2 : blk A' = blk A ∨ ∃ k, blk A' = some k ∧ w.heap.size ≤ k := hat2'.imp (fun e => e) (fun e => ⟨_, e.1, by have := HN2.out.size; simp; omega⟩); clear hg2' hat2'; have hbx := (Blk.new w1 91 #[.slice A n c, .int .i64 (d : Int)]).grown hg2 (fun e => by have := HR.out.lt e; have := HN2.out.size; omega); have hx0 := hbx.cell 0 rfl; have hx1 := hbx.cell 1 rfl; have hxf := hbx.frozen 0; have HBX := Lib.hid hbx; have HO2 := Lib.hid hown2; have HG2 := Lib.hid (And.intro hg2 hat2); have HN' := Lib.hid hN'; clear hbx hown2 hg2 hat2 hN')
          | fail)
        have hl' : (s.f i ++ l).length = N' := by have := HN'.out; rw [List.length_append, bs_length, bs_length] at this; rw [List.length_append]; exact this.symm
        have hch3 : Chg (fun k => blkV (V i) = some k) w (w2.setCell ⟨w1.heap.size, 0, none⟩ (.slice A' N' c')) := by
          rw [HV.out]
          refine Chg.setCell_new ?_ (show w.heap.size ≤ w1.heap.size from HN2.out.size) _
          exact ((HN2.out.alloc _).mono (fun _ _ hf => hf.elim)).trans (grown_chg HG2.out.1) (fun k _ e => e.symm)
        have hdc : DC (w2.setCell ⟨w1.heap.size, 0, none⟩ (.slice A' N' c')) g m V s := HH.out.core.chg hch3 (fun e => (HH.out.core.row_ne (HH.out.rows i) e).1 rfl) (fun e => (HH.out.core.row_ne (HH.out.rows i) e).2 rfl)
        have hne : blk A' ≠ some w1.heap.size := by
          rcases HG2.out.2 with e | ⟨k', e, _⟩
          · rw [e]; exact fun e2 => by have := HR.out.lt e2; have := HN2.out.size; omega
          · exact HO2.out.ne HBX.out (by decide)
        have HNE := Lib.hid hne
        clear hne
        have HDC := Lib.hid (And.intro hdc (And.intro hl' hch3))
        clear hdc hl' hch3
        refine (dPut_any g m V s _ HDC.out.1 i hi A' N' c' (s.f i ++ l) HDC.out.2.1 d ?_).mono ?_
        · intro e0
          have := HDC.out.2.1
          rw [List.length_append] at this
          have := HH.out.wf.firm i
          rw [HD.out] at this
          omega
        rintro e w4 ⟨rfl, hd4, hc4⟩
        obtain ⟨hdi, hdid⟩ := HH.out.appended hi HD.out HDC.out.2.1 HO2.out (bs_append _ _).symm (by rw [HV.out]; exact HG2.out.2) HDC.out.2.2 hc4 hd4 rfl HNE.out (HH.out.wf.put hi (by rw [List.length_append]; have := HH.out.wf.firm i; rw [HD.out] at this; omega) (by rw [List.length_append, HU.out, HN.out, HLB.out]; omega))
        have HDI := Lib.hid (And.intro hdi hdid)
        have hbk := hdi.core.blk
        clear hdi hdid hd4 hc4 HO2 HG2 HDC HBX
        go_wp2_with fail
        refine (dFails_any g m (put s i (s.f i ++ l) d) _ hbk HH.out.wf.plan).mono ?_
        rintro e w5 ⟨rfl, hb5, hc5⟩
        obtain ⟨hdi5, hdid5⟩ := HDI.out.1.cells ⟨(step_f _).1, (step_f _).2.1⟩ hb5 hc5 HDI.out.1.wf.pstep
        have HD5 := Lib.hid (And.intro hdi5 (HDI.out.2.trans hdid5))
        clear hbk hb5 hc5 hdi5 hdid5
        rw [HR2.out]
        cases r
        · go_wp2
          go_ret
          exact ⟨rfl, _, HD5.out.1, HD5.out.2⟩
        · go_wp2
          go_ret
          exact ⟨rfl, _, HD5.out.1, HD5.out.2⟩
end Go.Proofs.YtblcaeoeeepajaaGreatDoor

namespace Go.Proofs.YtblcaeoeeepajaaGreatDoor
set_option linter.unusedVariables false
open Go.RowKit Go.Mem Go.Dk

theorem DI.firm1 {w w' : World} {g m : Nat} {V : Nat → Value} {s : S} (h : DI w g m V s) {i : Nat} (hi : i < 64) (hf : s.f i ≠ []) (hm : MI w' Tryz.prog 3 m (pt (entL V s) (i : Int) (ctV (V i) (s.f i).length))) (hc : Chg (fun k => k = m) w w') : DI w' g m V (put s i (s.f i) (s.f i).length) := by
  have hd := h.core.put1 hi hf hm hc
  have hr := (h.rows i).chg hc (fun k hk e => (h.core.row_ne (h.rows i) hk).2 e)
  have := (h.put_row (hc.mono (fun k _ e => .inr (.inl e))) hd hr (fun k hk => .inl hk) (h.wf.put hi (Nat.le_refl _) (by have := h.wf.used; omega))).1
  rwa [upd_self] at this
theorem filesI_at {s : S} {j : Nat} (h : j < (filesI s).length) : ∃ i, (files s)[j]? = some i ∧ (filesI s)[j]? = some (i : Int) ∧ i < 64 ∧ s.f i ≠ [] := by
  unfold filesI at h ⊢
  rw [List.length_map] at h
  have hm := mem_files.1 (List.getElem_mem h)
  exact ⟨(files s)[j], by simp [h], by simp [h], hm.1, hm.2⟩

theorem cell_lt' {w : World} {ad : Addr} {u : Value} (h : w.cell? ad = some u) : ad.block < w.heap.size := by
  unfold World.cell? at h
  split at h
  · rename_i heq
    exact (Array.getElem?_eq_some_iff.1 heq).1
  · cases h

set_option maxHeartbeats 2000000 in
set_option maxRecDepth 100000 in
theorem dSync_any (g m : Nat) (V : Nat → Value) (s : S) (w : World) (h : DI w g m V s) :
    Calls Tryz.prog 13 #[.pointer (some ⟨g, 0, none⟩)] w fun e w' => e = .returned (.int .i64 (sync s).2) ∧
      DI w' g m V (sync s).1 ∧ Did w w' g m V V := by
  have hc2 := h.core.blk.cell 2 (u := .bool s.off) rfl
  have hbk := h.core.blk
  have HH := Lib.hid h
  clear h
  cases ho : s.off with
  | true =>
    rw [sync_off ho]
    rw [ho] at hc2
    clear hbk
    go_enter Tryz.func13, Tryz.ntmps13
    go_wp2
    go_ret
    exact ⟨rfl, HH.out, Did.of_new (Chg.refl _ _)⟩
  | false =>
    rw [ho] at hc2
    cases hr : (pstep s).2 with
    | true =>
      rw [sync_down ho hr]
      have HR := Lib.hid hr
      have HO := Lib.hid ho
      have HB := Lib.hid hbk
      clear hr ho hbk
      go_enter Tryz.func13, Tryz.ntmps13
      go_wp2_with (go_at_call 44; refine (dFails_any g m s _ HB.out HH.out.wf.plan).mono ?_; rintro e w1 ⟨rfl, hb1, hc1⟩; rw [HR.out]; have H1 := Lib.hid (HH.out.cells ⟨(step_f s).1, (step_f s).2.1⟩ hb1 hc1 HH.out.wf.pstep); clear hb1 hc1)
      go_ret
      exact ⟨rfl, H1.out.1, H1.out.2⟩
    | false =>
      rw [sync_ok ho hr]
      have HR := Lib.hid hr
      have HO := Lib.hid ho
      have HB := Lib.hid hbk
      obtain ⟨s1, hs1⟩ : ∃ s1, (pstep s).1 = s1 := ⟨_, rfl⟩
      rw [hs1]
      have HS1 := Lib.hid hs1
      obtain ⟨N, hN⟩ : ∃ N, (filesI s1).length = N := ⟨_, rfl⟩
      have HN := Lib.hid hN
      clear hr ho hbk hs1 hN
      go_enter Tryz.func13, Tryz.ntmps13
      go_wp2_with (first
        | (go_at_call 44; refine (dFails_any g m s _ HB.out HH.out.wf.plan).mono ?_; rintro e w1 ⟨rfl, hb1, hc1⟩; rw [HR.out]; have H1 := Lib.hid (HS1.out ▸ HH.out.cells ⟨(step_f s).1, (step_f s).2.1⟩ hb1 hc1 HH.out.wf.pstep); clear hb1 hc1)
        | (go_at_call 45; refine (dFiles_any g m V s1 _ H1.out.1).mono ?_; rw [HN.out]; rintro e w2 ⟨A, c, rfl, hown2, hn2⟩; have H2 := Lib.hid (And.intro hown2 hn2); clear hown2 hn2))
      have hN64 : N ≤ 64 := by rw [← HN.out]; unfold filesI; rw [List.length_map]; exact filesN_len s1.f 64
      have HD2 := Lib.hid (H1.out.1.new H2.out.2)
      have HA := Lib.hid (show ∀ k, blk A = some k → ¬ ownD g m V k from fun k hk ho => by have := (own_blk_le H2.out.1 hk).1; have := H1.out.1.lt ho; omega)
      go_loopw [17] (fun v wr => ∃ j : Nat, j ≤ N ∧ v = .int .i64 (j : Int) ∧ DI wr g m V (syncTo s1 j) ∧ Chg (ownD g m V) w2 wr) (fun v _ => N - (intOf v).toNat)
      case atStart => exact ⟨0, Nat.zero_le _, rfl, by rw [syncTo_zero]; exact HD2.out, Chg.refl _ _⟩
      case round =>
        obtain ⟨j, hj, rfl, hdi, hch⟩ := hrel
        by_cases hlt : j < N
        · obtain ⟨i, hi1, hi2, hi, hf⟩ := filesI_at (s := s1) (j := j) (by rw [HN.out]; exact hlt)
          have hrd : Rd wr A N (is (filesI s1)) := Rd.of_own (own_chg H2.out.1 hch HA.out)
          obtain ⟨ad, u, rfl, hu, hcu⟩ := hrd.at_ hlt
          obtain ⟨z, hz, rfl⟩ := is_at hu
          obtain rfl : z = (i : Int) := by rw [hi2] at hz; injection hz with hz; exact hz.symm
          obtain ⟨A2, c2, hv, _⟩ := hdi.slice i
          obtain ⟨n, hn⟩ : ∃ n, ((syncTo s1 j).f i).length = n := ⟨_, rfl⟩
          obtain ⟨d, hd⟩ : ∃ d, (syncTo s1 j).firm i = d := ⟨_, rfl⟩
          rw [hn] at hv
          have hb1 := hdi.core.blk.cell 1 (u := .map (some m)) rfl
          have hgl := hdi.core.blk.lt
          have HX := Lib.hid hdi
          have HC := Lib.hid hch
          have HV := Lib.hid hv
          have HD := Lib.hid hd
          have HNn := Lib.hid hn
          have HI := Lib.hid (And.intro hi1 (And.intro hi hf))
          have hadl := cell_lt' hcu
          clear hrd hu hz hdi hch hv hd hn hi1 hi2 hf
          go_wp2_with (at_lookup; refine wpList_file _ rfl _ _ rfl HX.out.core rfl (HX.out.core.map.chg ((Chg.refl (fun _ => False) wr)) (fun h => h)) hi rfl HV.out HD.out ?_)
          have hnw : New wr (wr.alloc (Obj.cells #[Value.slice A2 n c2, Value.int IntKind.i64 ↑n] 91)).drew := ((Chg.refl _ wr).alloc _).drew
          obtain ⟨w5, hrun, hm5, hc5, hs5⟩ := MI.store (w := (wr.alloc (Obj.cells #[Value.slice A2 n c2, Value.int IntKind.i64 ↑n] 91)).drew) (HX.out.core.map.chg hnw (fun h => h)) keyInt Tryz.underlying64 (Nat.lt_of_le_of_lt (entL_len V _) (show 64 < maxLen by decide)) (i64_file hi) (.agg #[.slice A2 n c2, .int .i64 (n : Int)])
          have hd5 := (HX.out.new hnw).firm1 hi (by exact HI.out.2.2) (by rw [HV.out, HNn.out]; exact hm5) hc5
          have he5 : put (syncTo s1 j) i ((syncTo s1 j).f i) ((syncTo s1 j).f i).length = syncTo s1 (j + 1) := (syncTo_succ HI.out.1).symm
          rw [he5] at hd5
          have hch5 : Chg (ownD g m V) w2 w5 := (HC.out.new hnw).trans hc5 (fun k _ e => .inr (.inl e))
          have H5 := Lib.hid (And.intro hd5 hch5)
          clear hnw hm5 hc5 hs5 hd5 he5 hch5
          go_region
          go_wp2
          go_roundw
          case rel => exact ⟨j + 1, by omega, by go_num, H5.out.1, H5.out.2⟩
          case measure => simp [intOf]; omega
        · obtain rfl : j = N := by omega
          go_wp2
          go_ret
          refine ⟨rfl, ?_, ?_⟩
          · have := syncTo_all H1.out.1.wf
            rw [show (files s1).length = j by rw [← HN.out]; unfold filesI; rw [List.length_map]] at this
            rw [← this]
            exact hdi
          · refine H1.out.2.trans ⟨(H2.out.2.mono (fun _ _ hf => hf.elim)).trans hch (fun _ _ h => h), fun k hk => .inl hk⟩
end Go.Proofs.YtblcaeoeeepajaaGreatDoor

namespace Go.Proofs.YtblcaeoeeepajaaGreatDoor
set_option linter.unusedVariables false
open Go.RowKit Go.Mem Go.Dk

theorem DC.look {w w0 : World} {g m : Nat} {V : Nat → Value} {s : S} (h : DC w0 g m V s) (hmi : MI w Tryz.prog 3 m (entL V s)) {i : Nat} (hi : i < 64) {A : Option Addr} {n c d : Nat} (hv : V i = .slice A n c) (hd : s.firm i = d) :
    (Instr.lookup 64 (.map (some m)) (.int .i64 (i : Int)) false).run Tryz.prog w = .ok (.agg #[.slice A n c, .int .i64 (d : Int)]) w := by
  have h1 := hmi.look keyInt Tryz.underlying64 (zeroCt w) (i64_file hi) false
  have := h.lk hi
  rw [hv, hd] at this
  simp only [Bool.false_eq_true, if_false] at h1
  rw [this] at h1
  exact h1
theorem tr_bad {s : S} {file size : Int} (h : file < 0 ∨ 64 ≤ file ∨ size < 0 ∨ ((s.f file.toNat).length : Int) < size) : truncate s file size = (s, 1) := if_pos h
theorem tr_off {s : S} {i k : Nat} (h : i < 64) (hk : k ≤ (s.f i).length) (ho : s.off = true) : truncate s (i : Int) (k : Int) = (s, 24) := by unfold truncate; rw [if_neg (by simp; omega), if_pos ho]
theorem tr_down {s : S} {i k : Nat} (h : i < 64) (hk : k ≤ (s.f i).length) (ho : s.off = false) (hr : (pstep s).2 = true) : truncate s (i : Int) (k : Int) = ((pstep s).1, 24) := by unfold truncate; rw [if_neg (by simp; omega), if_neg (by rw [ho]; simp), if_pos hr]
theorem tr_ok {s : S} {i k : Nat} (h : i < 64) (hk : k ≤ (s.f i).length) (ho : s.off = false) (hr : (pstep s).2 = false) : truncate s (i : Int) (k : Int) = (put (pstep s).1 i ((s.f i).take k) (min (s.firm i) k), 0) := by unfold truncate; rw [if_neg (by simp; omega), if_neg (by rw [ho]; simp), if_neg (by rw [hr]; simp)]; simp

set_option maxHeartbeats 2000000 in
set_option maxRecDepth 100000 in
theorem dTruncate_any (g m : Nat) (V : Nat → Value) (s : S) (w : World) (h : DI w g m V s) (file size : Int) :
    Calls Tryz.prog 59 #[.pointer (some ⟨g, 0, none⟩), .int .i64 file, .int .i64 size] w fun e w' => e = .returned (.int .i64 (truncate s file size).2) ∧
      ∃ V', DI w' g m V' (truncate s file size).1 ∧ Did w w' g m V V' := by
  have hc1 := h.core.blk.cell 1 (u := .map (some m)) rfl
  have hc2 := h.core.blk.cell 2 (u := .bool s.off) rfl
  have hbk := h.core.blk
  have HH := Lib.hid h
  clear h
  by_cases h1 : file < 0
  · rw [tr_bad (.inl h1)]
    clear hbk
    go_enter Tryz.func59, Tryz.ntmps59
    go_wp2
    go_ret
    exact ⟨rfl, V, HH.out, Did.of_new (Chg.refl _ _)⟩
  by_cases h2 : 64 ≤ file
  · rw [tr_bad (.inr (.inl h2))]
    clear hbk
    go_enter Tryz.func59, Tryz.ntmps59
    go_wp2
    go_ret
    exact ⟨rfl, V, HH.out, Did.of_new (Chg.refl _ _)⟩
  by_cases h3 : size < 0
  · rw [tr_bad (.inr (.inr (.inl h3)))]
    clear hbk
    go_enter Tryz.func59, Tryz.ntmps59
    go_wp2
    go_ret
    exact ⟨rfl, V, HH.out, Did.of_new (Chg.refl _ _)⟩
  obtain ⟨i, rfl⟩ := Int.eq_ofNat_of_zero_le (by omega : 0 ≤ file)
  obtain ⟨k, rfl⟩ := Int.eq_ofNat_of_zero_le (by omega : 0 ≤ size)
  have hi : i < 64 := by omega
  obtain ⟨A, c, hv, hlc, hcm⟩ := HH.out.slice i
  obtain ⟨n, hn⟩ : ∃ n, (s.f i).length = n := ⟨_, rfl⟩
  obtain ⟨d, hd⟩ : ∃ d, s.firm i = d := ⟨_, rfl⟩
  have hlen := HH.out.wf.len i
  have hdn := HH.out.wf.firm i
  rw [hn] at hv hlc hlen
  rw [hn, hd] at hdn
  have hlk := HH.out.core.look HH.out.core.map hi hv hd
  have hfl : ∀ w : World, (Instr.field 91 (.agg #[.slice A n c, .int .i64 (d : Int)]) 0).run Tryz.prog w = .ok (.slice A n c) w := fun w => by kernel_rfl
  by_cases h4 : n < k
  · rw [tr_bad (.inr (.inr (.inr (by simp [hn]; omega))))]
    have h4' : (n : Int) < (k : Int) := by omega
    clear hbk hn hd hv hlc hcm
    go_enter Tryz.func59, Tryz.ntmps59
    go_wp2
    go_ret
    exact ⟨rfl, V, HH.out, Did.of_new (Chg.refl _ _)⟩
  have hk : k ≤ (s.f i).length := by omega
  have h4' : (k : Int) ≤ (n : Int) := by omega
  have h4'' : k ≤ c := by omega
  cases ho : s.off with
  | true =>
    rw [tr_off hi hk ho]
    rw [ho] at hc2
    clear hbk hn hd hv hlc hcm
    go_enter Tryz.func59, Tryz.ntmps59
    go_wp2
    go_ret
    exact ⟨rfl, V, HH.out, Did.of_new (Chg.refl _ _)⟩
  | false =>
    rw [ho] at hc2
    have HB := Lib.hid hbk
    cases hr : (pstep s).2 with
    | true =>
      rw [tr_down hi hk ho hr]
      have HR := Lib.hid hr
      clear hbk hn hd hv hlc hcm hr ho
      go_enter Tryz.func59, Tryz.ntmps59
      go_wp2_with (go_at_call 44; refine (dFails_any g m s _ HB.out HH.out.wf.plan).mono ?_; rintro e w1 ⟨rfl, hb1, hc1⟩; rw [HR.out]; have H1 := Lib.hid (HH.out.cells ⟨(step_f s).1, (step_f s).2.1⟩ hb1 hc1 HH.out.wf.pstep); clear hb1 hc1)
      go_ret
      exact ⟨rfl, V, H1.out.1, H1.out.2⟩
    | false =>
      rw [tr_ok hi hk ho hr, hd]
      obtain ⟨s1, hs1⟩ : ∃ s1, (pstep s).1 = s1 := ⟨_, rfl⟩
      rw [hs1]
      have hf1 : s1.f = s.f ∧ s1.firm = s.firm := by rw [← hs1]; exact ⟨(step_f s).1, (step_f s).2.1⟩
      obtain ⟨e0, he0⟩ : ∃ e0 : Nat, min d k = e0 := ⟨_, rfl⟩
      rw [he0]
      have hmin : ((d : Int) ≤ (k : Int) ∧ (e0 : Int) = d) ∨ ((k : Int) ≤ (d : Int) ∧ (e0 : Int) = k) := by omega
      have HR := Lib.hid hr
      have HS1 := Lib.hid hs1
      have HF := Lib.hid hf1
      have HV := Lib.hid hv
      have HD := Lib.hid hd
      have HN := Lib.hid hn
      have HE := Lib.hid (And.intro he0 hmin)
      clear hbk hn hd hv hlc hcm hr ho hs1 hf1 he0 hmin
      go_enter Tryz.func59, Tryz.ntmps59
      go_wp2_with (go_at_call 44; refine (dFails_any g m s _ HB.out HH.out.wf.plan).mono ?_; rintro e w1 ⟨rfl, hb1, hc1⟩; rw [HR.out]; have hgl1 := hb1.lt; have hm1 := hb1.cell 1 (u := .map (some m)) rfl; have H1 := Lib.hid (HS1.out ▸ HH.out.cells ⟨(step_f s).1, (step_f s).2.1⟩ hb1 hc1 HH.out.wf.pstep); have hlk1 := H1.out.1.core.look H1.out.1.core.map hi HV.out (show s1.firm i = d from HF.out.2 ▸ HD.out); clear hb1 hc1)
      rw [show min (d : Int) (k : Int) = (e0 : Int) by have := HE.out.2; omega]
      obtain ⟨w2, hw2⟩ : ∃ w2, w1.alloc (Obj.cells #[Value.slice A k c, Value.int .i64 (e0 : Int)] 91) = w2 := ⟨_, rfl⟩
      have hn2 : New w1 w2 := by rw [← hw2]; exact (Chg.refl _ w1).alloc _
      rw [hw2]
      have hlt : ((s.f i).take k).length = k := by rw [List.length_take]; omega
      have hc2' := H1.out.1.new hn2
      have hrow : RowV w2 5 IsU8 (.slice A k c) (bs ((s.f i).take k)) := by
        have h5 := hc2'.rows i
        rw [HV.out, HF.out.1] at h5
        have := RowV.pre h5 (k := k) (by rw [bs_length]; exact hk)
        rwa [bs_take] at this
      refine (dPut_any g m V s1 w2 hc2'.core i hi A k c ((s.f i).take k) hlt e0 (fun e => by have := HE.out.1; omega)).mono ?_
      rintro e w3 ⟨rfl, hd3, hc3⟩
      have hr3 : RowV w3 5 IsU8 (if k = 0 then .slice none 0 0 else .slice A k c) (bs ((s.f i).take k)) := by
        split
        · rename_i h0
          rw [h0, List.take_zero]
          exact RowV.nil _ _ _
        · refine hrow.chg hc3 (fun j hj e => ?_)
          exact (hc2'.core.row_ne hrow hj).2 e
      have hfin := hc2'.put_row (hc3.mono (fun j _ e => .inr (.inl e))) hd3 hr3 (fun j hj => by
        split at hj
        · cases hj
        · exact .inl (by rw [HV.out]; exact hj)) (hc2'.wf.put hi (by rw [hlt]; have := HE.out.1; omega) (by have := hc2'.wf.used; rw [hlt, HF.out.1]; omega))
      have HFIN := Lib.hid (And.intro hfin.1 (H1.out.2.trans ((Did.of_new hn2).trans hfin.2)))
      clear hw2 hn2 hc2' hrow hd3 hc3 hr3 hfin
      go_wp2
      go_ret
      exact ⟨rfl, _, HFIN.out.1, HFIN.out.2⟩
end Go.Proofs.YtblcaeoeeepajaaGreatDoor

namespace Go.Proofs.YtblcaeoeeepajaaGreatDoor
set_option linter.unusedVariables false
open Go.RowKit Go.Mem Go.Dk

/-- The row's cell. -/
theorem RowV.cellAt {w : World} {t : TypeId} {C : Value → Prop} {g n c : Nat} {xs : List Value} (h : RowV w t C (.slice (some ⟨g, 0, none⟩) n c) xs) {p : Nat} {u : Value} (hp : xs[p]? = some u) : w.cell? ⟨g, p, none⟩ = some u ∧ w.frozen? ⟨g, p, none⟩ = false := by
  rcases h with ⟨hv, rfl⟩ | ⟨g', cp, rest, hv, h1, h2, h3, h4⟩
  · cases hv
  · injection hv with hA hn hc
    injection hA with hA
    injection hA with hA
    subst hA
    refine ⟨h3.cell p ?_, h3.frozen p⟩
    have := (List.getElem?_eq_some_iff.1 hp).1
    simpa [List.getElem?_append_left this] using hp
theorem pow_sh : ∀ k : Fin 8, (128 : Int) / 2 ^ k.val = ((2 ^ (7 - k.val) : Nat) : Int) := by decide
theorem pow_lt : ∀ k : Fin 8, 2 ^ (7 - k.val) < 256 := by decide
theorem turn_bits (x : UInt8) {k : Nat} (hk : k < 8) : bits .xor .u8 (x.toNat : Int) (128 / 2 ^ k) = ((x ^^^ UInt8.ofNat (2 ^ (7 - k))).toNat : Int) := by
  have h1 := pow_sh ⟨k, hk⟩
  have h2 := pow_lt ⟨k, hk⟩
  simp only at h1 h2
  have h3 := UInt8.toNat_lt x
  rw [h1, u8_xor_nat _ _ (by omega) h2, UInt8.toNat_xor, UInt8.toNat_ofNat']
  congr 2
  rw [Nat.mod_eq_of_lt h2]
theorem turn_bs {l : List UInt8} {p k : Nat} {x : UInt8} (h : l[p]? = some x) : (bs l).set p (By (x ^^^ UInt8.ofNat (2 ^ (7 - k)))) = bs (turn l p k) := by
  apply List.ext_getElem?
  intro j
  unfold bs turn
  rw [List.getElem?_map, List.getElem?_modify, List.getElem?_set]
  by_cases e : p = j
  · subst e
    obtain ⟨hp, hx⟩ := List.getElem?_eq_some_iff.1 h
    simp [h, hp, hx]
  · simp [e]
theorem ent_same {V : Nat → Value} {s : S} {i d : Nat} {l : List UInt8} (hi : i < 64) (hl : l ≠ []) (hf : s.f i ≠ []) (hd : s.firm i = d) : entL V (put s i l d) = entL V s := by
  refine (entL_rise _ _).ext_lk (entL_rise _ _) (fun k => ?_)
  rw [lk_entL, lk_entL]
  by_cases hn : 0 ≤ k
  · by_cases e : k.toNat = i
    · simp only [put, e, upd_same, hd]
      simp [hl, hf]
    · simp only [put, upd_other _ _ e]
  · rw [if_neg (fun h => hn h.1), if_neg (fun h => hn h.1)]
theorem inv_cons {s : S} {i b : Nat} {r : List Nat} : invert s (i :: r) b = if b < 8 * ((s.f i).length - s.firm i) then upd s.f i (turn (s.f i) (s.firm i + b / 8) (b % 8)) else invert s r (b - 8 * ((s.f i).length - s.firm i)) := rfl

set_option maxHeartbeats 2000000 in
set_option maxRecDepth 100000 in
theorem dInvert_any (g m : Nat) (V : Nat → Value) (s : S) (w : World) (h : DI w g m V s) (A : Option Addr) (N c : Nat) (r : List Nat) (hr : Rd w A N (is (r.map (fun i : Nat => (i : Int))))) (hr64 : ∀ i ∈ r, i < 64) (hN : N ≤ 64) (b : Nat) (hb : b ≤ 1000000000) :
    Calls Tryz.prog 46 #[.pointer (some ⟨g, 0, none⟩), .slice A N c, .int .i64 (b : Int)] w fun e w' => e = .returned (.tuple #[]) ∧
      DI w' g m V { s with f := invert s r b } ∧ Did w w' g m V V := by
  have HH := Lib.hid h
  have HR := Lib.hid hr
  have hrl : r.length = N := by have := hr.len; simpa using this
  have HL := Lib.hid hrl
  clear h hr hrl
  go_enter Tryz.func46, Tryz.ntmps46
  go_wp2
  go_loopw [2, 12] (fun v2 v wr => ∃ j q : Nat, j ≤ N ∧ v = .int .i64 (j : Int) ∧ v2 = .int .i64 (q : Int) ∧ q ≤ 1000000000 ∧ invert s r b = invert s (r.drop j) q ∧ New w wr) (fun _ v _ => N - (intOf v).toNat)
  case atStart => exact ⟨0, b, Nat.zero_le _, rfl, rfl, hb, by simp, Chg.refl _ _⟩
  case round =>
    obtain ⟨j, q, hj, rfl, rfl, hq, hinv, hnw⟩ := hrel
    have HI := Lib.hid hinv
    have HW := Lib.hid hnw
    by_cases hlt : j < N
    · obtain ⟨ad, u, rfl, hu, hcu⟩ := (HR.out.new hnw).at_ hlt
      obtain ⟨z, hz, rfl⟩ := is_at hu
      obtain ⟨i, hi1, rfl⟩ : ∃ i, r[j]? = some i ∧ z = (i : Int) := by
        rw [List.getElem?_map] at hz
        obtain ⟨i, h1, h2⟩ := Option.map_eq_some_iff.1 hz
        exact ⟨i, h1, h2.symm⟩
      have hi : i < 64 := hr64 i (List.mem_of_getElem? hi1)
      have hdi := HH.out.new hnw
      obtain ⟨A2, c2, hv, hnc, _⟩ := hdi.slice i
      obtain ⟨n, hn⟩ : ∃ n, (s.f i).length = n := ⟨_, rfl⟩
      obtain ⟨d, hd⟩ : ∃ d, s.firm i = d := ⟨_, rfl⟩
      have hdn := hdi.wf.firm i
      have hnl := hdi.wf.len i
      rw [hn, hd] at hdn
      rw [hn] at hv hnl hnc
      have hlk := hdi.core.look hdi.core.map hi hv hd
      have hb1 := hdi.core.blk.cell 1 (u := .map (some m)) rfl
      have hgl := hdi.core.blk.lt
      have HX := Lib.hid hdi
      have HV := Lib.hid hv
      have HD := Lib.hid hd
      have HN2 := Lib.hid hn
      have HI1 := Lib.hid hi1
      have hadl := cell_lt' hcu
      have hdrop : r.drop j = i :: r.drop (j + 1) := by
        have h1 := (List.getElem?_eq_some_iff.1 hi1)
        obtain ⟨h2, h3⟩ := h1
        rw [List.drop_eq_getElem_cons h2, h3]
      have HDR := Lib.hid hdrop
      clear hu hz hi1 hdi hv hd hn hinv hnw hdrop
      by_cases hbit : q < 8 * (n - d)
      · obtain ⟨p, hp⟩ : ∃ p, d + q / 8 = p := ⟨_, rfl⟩
        have hpn : p < n := by omega
        obtain ⟨x, hx⟩ : ∃ x, (s.f i)[p]? = some x := ⟨_, List.getElem?_eq_getElem (by rw [HN2.out]; exact hpn)⟩
        obtain ⟨gr, c3, hv3⟩ := RowV.full (HX.out.rows i) (fun e => by have h9 := HN2.out; rw [← bs_length, e] at h9; simp at h9; omega)
        rw [HV.out] at hv3
        injection hv3 with hA2 hn3 hc3
        subst hA2 hc3
        have hrow := HX.out.rows i
        rw [HV.out] at hrow
        obtain ⟨hcx, hfx⟩ := RowV.cellAt (p := p) (u := .int .u8 (x.toNat : Int)) hrow (by simp [bs, hx]; rfl)
        have htb := turn_bits x (show q % 8 < 8 by omega)
        have hgr := cell_lt' hcx
        have HP := Lib.hid hx
        have HRW := Lib.hid hrow
        have hq8 : ((q : Int).tdiv 8) = ((q / 8 : Nat) : Int) := by rw [Int.tdiv_eq_ediv_of_nonneg (by omega)]; rfl
        have hw1 : IntKind.i64.wrap ((q : Int).tdiv 8) = ((q / 8 : Nat) : Int) := by rw [hq8]; exact IntWalk.i64_in _ (by omega)
        have hw2 : IntKind.i64.wrap ((d : Int) + ((q / 8 : Nat) : Int)) = (p : Int) := by rw [IntWalk.i64_in _ (by omega)]; omega
        have hm8 : (q : Int).tmod 8 = ((q % 8 : Nat) : Int) := by rw [Int.tmod_eq_emod_of_nonneg (by omega)]; rfl
        obtain ⟨k, hk⟩ : ∃ k, q % 8 = k := ⟨_, rfl⟩
        have hk8 : k < 8 := by omega
        rw [hk] at hm8 htb
        clear hx hrow hn3
        subst hp
        go_wp2_with fail
        go_region
        have hset : RowV (wr.setCell ⟨gr, d + q / 8, none⟩ (.int .u8 ((x.toNat ^^^ 2 ^ (7 - k) % 256 : Nat) : Int))) 5 IsU8 (.slice (some ⟨gr, 0, none⟩) n c2) (bs (turn (s.f i) (d + q / 8) k)) := by
          have e1 : (Value.int .u8 ((x.toNat ^^^ 2 ^ (7 - k) % 256 : Nat) : Int)) = By (x ^^^ UInt8.ofNat (2 ^ (7 - k))) := by
            unfold By
            rw [UInt8.toNat_xor, UInt8.toNat_ofNat']
          have := RowV.st HRW.out (j := d + q / 8) (by rw [bs_length, HN2.out]; exact hpn) (u := By (x ^^^ UInt8.ofNat (2 ^ (7 - k)))) ⟨_, rfl⟩
          rw [e1, ← turn_bs HP.out]
          exact this
        obtain ⟨w5, hw5⟩ : ∃ w5, ((wr.setCell ⟨gr, d + q / 8, none⟩ (.int .u8 ((x.toNat ^^^ 2 ^ (7 - k) % 256 : Nat) : Int))).alloc (Obj.cells #[Value.slice (some ⟨gr, 0, none⟩) n c2, Value.int .i64 (d : Int)] 91)).drew = w5 := ⟨_, rfl⟩
        rw [hw5]
        have hn5 : New (wr.setCell ⟨gr, d + q / 8, none⟩ (.int .u8 ((x.toNat ^^^ 2 ^ (7 - k) % 256 : Nat) : Int))) w5 := by rw [← hw5]; exact ((Chg.refl _ _).alloc _).drew
        have hch : Chg (fun k => blkV (V i) = some k) wr w5 := by
          refine Chg.new ((Chg.refl (fun k => blkV (V i) = some k) wr).setCell (p := ⟨gr, d + q / 8, none⟩) (fun _ => ?_) _) hn5
          rw [HV.out]
          rfl
        have hdc := HX.out.core.chg hch (fun e => (HX.out.core.row_ne (HX.out.rows i) e).1 rfl) (fun e => (HX.out.core.row_ne (HX.out.rows i) e).2 rfl)
        have hne : turn (s.f i) (d + q / 8) k ≠ [] := fun e => by
          have := turn_len (s.f i) (d + q / 8) k
          rw [e, HN2.out] at this
          simp at this
          omega
        have hps : ({ s with f := invert s r b } : S) = put s i (turn (s.f i) (d + q / 8) k) d := by
          unfold put
          rw [HI.out, HDR.out, inv_cons, HN2.out, HD.out, if_pos hbit, hk]
          have := upd_self s.firm i
          rw [HD.out] at this
          rw [this]
        have hdc' : DC w5 g m (upd V i (V i)) (put s i (turn (s.f i) (d + q / 8) k) d) := by
          refine ⟨hdc.blk, ?_, fun j0 hj0 => ?_⟩
          · rw [upd_self]
            have : entL V (put s i (turn (s.f i) (d + q / 8) k) d) = entL V s := ent_same hi hne (fun e => by rw [e] at hne; exact hne (by simp [turn])) HD.out
            rw [this]
            exact hdc.map
          · rw [upd_self]
            by_cases e : j0 = i
            · subst e
              exact absurd (by simpa [put, upd_same] using hj0) hne
            · have := hdc.nil j0 (by simpa [put, upd_other _ _ e] using hj0)
              simpa [put, upd_other _ _ e] using this
        have hfin := HX.out.put_row (hch.mono (fun k _ e => .inr (.inr e))) hdc' (by rw [HV.out]; exact hset.new hn5) (fun k hk => .inl hk) (HX.out.wf.put hi (by rw [turn_len, HN2.out]; exact hdn) (by rw [turn_len]; have := HX.out.wf.used; omega))
        rw [upd_self, ← hps] at hfin
        have HFIN := Lib.hid (And.intro hfin.1 ((Did.of_new HW.out).trans hfin.2))
        clear hset hw5 hn5 hch hdc hne hps hdc' hfin
        go_wp2
        refine bodyPost_ret (results_none rfl _ _ _) rfl ?_
        exact ⟨rfl, HFIN.out.1, HFIN.out.2⟩
      · have hge : 8 * ((n : Int) - (d : Int)) = ((8 * (n - d) : Nat) : Int) := by omega
        go_wp2
        refine ⟨⟨j + 1, q - 8 * (n - d), by omega, by go_num, ?_, by omega, ?_, HW.out.alloc _⟩, ?_⟩
        · congr 1; omega
        · rw [HI.out, HDR.out, inv_cons, HN2.out, HD.out, if_neg hbit]
        · simp [intOf]; omega
    · obtain rfl : j = N := by omega
      go_wp2
      go_end0
      have : r.drop j = [] := List.drop_eq_nil_of_le (by rw [HL.out]; exact Nat.le_refl _)
      rw [HI.out, this]
      exact ⟨rfl, HH.out.new HW.out, Did.of_new HW.out⟩
end Go.Proofs.YtblcaeoeeepajaaGreatDoor

namespace Go.Proofs.YtblcaeoeeepajaaGreatDoor
set_option linter.unusedVariables false
open Go.RowKit Go.Mem Go.Dk

/-- A file's bytes have been cut. -/
theorem DI.cut1 {w w' : World} {g m : Nat} {V : Nat → Value} {s : S} (h : DI w g m V s) {i d k n c : Nat} {A : Option Addr} (hi : i < 64) (hv : V i = .slice A n c) (hd : s.firm i = d) (hk : k ≤ n) (hdk : d ≤ k) (hn : (s.f i).length = n)
    (hd3 : DC w' g m (upd V i (if k = 0 then .slice none 0 0 else .slice A k c)) (put s i ((s.f i).take k) d)) (hc3 : Chg (fun k => k = m) w w') :
    DI w' g m (upd V i (if k = 0 then .slice none 0 0 else .slice A k c)) (put s i ((s.f i).take k) d) ∧ Did w w' g m V (upd V i (if k = 0 then .slice none 0 0 else .slice A k c)) := by
  have hlt : ((s.f i).take k).length = k := by rw [List.length_take]; omega
  have hrow : RowV w 5 IsU8 (.slice A k c) (bs ((s.f i).take k)) := by
    have h5 := h.rows i
    rw [hv] at h5
    have := RowV.pre h5 (k := k) (by rw [bs_length, hn]; exact hk)
    rwa [bs_take] at this
  have hr3 : RowV w' 5 IsU8 (if k = 0 then .slice none 0 0 else .slice A k c) (bs ((s.f i).take k)) := by
    split
    · rename_i h0
      rw [h0, List.take_zero]
      exact RowV.nil _ _ _
    · exact hrow.chg hc3 (fun j hj e => (h.core.row_ne hrow hj).2 e)
  refine h.put_row (hc3.mono (fun j _ e => .inr (.inl e))) hd3 hr3 (fun j hj => ?_) (h.wf.put hi (by rw [hlt]; exact hdk) (by have := h.wf.used; rw [hlt]; omega))
  split at hj
  · cases hj
  · exact .inl (by rw [hv]; exact hj)

set_option maxHeartbeats 4000000 in
set_option maxRecDepth 100000 in
theorem dCrash_any (g m : Nat) (V : Nat → Value) (s : S) (w : World) (h : DI w g m V s) (K : Option Addr) (nk ck : Nat) (keep : List Int) (hK : Rd w K nk (is keep)) (hKo : ∀ k, blk K = some k → ¬ ownD g m V k ∧ k < w.heap.size) (hnk : nk ≤ 1000000000) (hkr : ∀ z ∈ keep, -9223372036854775808 ≤ z ∧ z ≤ 9223372036854775807) (flip : Int) (hfl : -9223372036854775808 ≤ flip ∧ flip ≤ 9223372036854775807) :
    Calls Tryz.prog 14 #[.pointer (some ⟨g, 0, none⟩), .slice K nk ck, .int .i64 flip] w fun e w' => e = .returned (.tuple #[]) ∧
      ∃ V', DI w' g m V' (crash s keep flip) ∧ Did w w' g m V V' := by
  have HH := Lib.hid h
  have HK := Lib.hid hK
  have HKO := Lib.hid hKo
  have hkl : keep.length = nk := by have := hK.len; simpa using this
  have HKL := Lib.hid hkl
  obtain ⟨N, hN⟩ : ∃ N, (filesI s).length = N := ⟨_, rfl⟩
  have HN := Lib.hid hN
  have hN64 : N ≤ 64 := by rw [← hN]; unfold filesI; rw [List.length_map]; exact filesN_len s.f 64
  clear h hK hKo hkl hN
  go_enter Tryz.func14, Tryz.ntmps14
  go_wp2_with (go_at_call 45; refine (dFiles_any g m V s _ HH.out).mono ?_; rw [HN.out]; rintro e w2 ⟨A, c, rfl, hown2, hn2⟩; have H2 := Lib.hid (And.intro hown2 hn2); clear hown2 hn2)
  have HD2 := Lib.hid (HH.out.new H2.out.2)
  have HA := Lib.hid (show ∀ k, blk A = some k → ¬ ownD g m V k from fun k hk ho => by have := (own_blk_le H2.out.1 hk).1; have := HH.out.lt ho; omega)
  go_loopw [7, 19] (fun v7 v wr => ∃ (j : Nat) (V' : Nat → Value), j ≤ N ∧ v = .int .i64 (j : Int) ∧ v7 = .int .i64 ((8 * manyTo s keep j : Nat) : Int) ∧ DI wr g m V' (cutS s keep j) ∧ Did w2 wr g m V V') (fun _ v _ => N - (intOf v).toNat)
  case atStart => exact ⟨0, V, Nat.zero_le _, rfl, by rw [manyTo_zero]; rfl, by rw [cutS_zero]; exact HD2.out, Did.of_new (Chg.refl _ _)⟩
  case round =>
    obtain ⟨j, V', hj, rfl, rfl, hdi, hdid⟩ := hrel
    by_cases hlt : j < N
    · obtain ⟨i, hi1, hi2, hi, hf⟩ := filesI_at (s := s) (j := j) (by rw [HN.out]; exact hlt)
      have hrd : Rd wr A N (is (filesI s)) := Rd.of_own (own_chg H2.out.1 hdid.chg HA.out)
      obtain ⟨ad, u, rfl, hu, hcu⟩ := hrd.at_ hlt
      obtain ⟨z, hz, rfl⟩ := is_at hu
      obtain rfl : z = (i : Int) := by rw [hi2] at hz; injection hz with hz; exact hz.symm
      obtain ⟨A2, c2, hv, hnc, _⟩ := hdi.slice i
      obtain ⟨n, hn⟩ : ∃ n, ((cutS s keep j).f i).length = n := ⟨_, rfl⟩
      obtain ⟨d, hd⟩ : ∃ d, (cutS s keep j).firm i = d := ⟨_, rfl⟩
      have hdn := hdi.wf.firm i
      have hnl := hdi.wf.len i
      rw [hn, hd] at hdn
      rw [hn] at hv hnl hnc
      have hlk := hdi.core.look hdi.core.map hi hv hd
      have hb1 := hdi.core.blk.cell 1 (u := .map (some m)) rfl
      have hgl := hdi.core.blk.lt
      obtain ⟨q, hq⟩ : ∃ q, kept s keep i = q := ⟨_, rfl⟩
      have hfc := cutS_at (keep := keep) hi1
      have hqd : d + q ≤ n := by
        have h1 := kept_le s keep i
        have h2 : s.firm i = d := hd
        rw [← hfc, hn, h2, hq] at h1
        omega
      obtain ⟨bm, hbm⟩ : ∃ bm, manyTo s keep j = bm := ⟨_, rfl⟩
      have hbl : bm ≤ 16777216 := by have h1 := manyTo_le s keep j; have h2 := HH.out.wf.used; have h3 := HH.out.wf.room; omega
      obtain ⟨b8, hb8⟩ : ∃ b8, 8 * bm = b8 := ⟨_, rfl⟩
      have hb8l : b8 ≤ 134217728 := by omega
      have HB8 := Lib.hid hb8
      have hrk : Rd wr K nk (is keep) := (HK.out.new H2.out.2).chg hdid.chg (fun k hk _ => (HKO.out k hk).1)
      have HKR := Lib.hid hrk
      have HX := Lib.hid hdi
      have HDD := Lib.hid hdid
      have HV := Lib.hid hv
      have HD := Lib.hid hd
      have HNn := Lib.hid hn
      have HI := Lib.hid (And.intro hi1 (And.intro hi hf))
      have HQ := Lib.hid hq
      have HBM := Lib.hid hbm
      have HFC := Lib.hid hfc
      have hadl := cell_lt' hcu
      have hka := kept_at (keep := keep) hi1
      rw [hq, ← hfc, hn, show s.firm i = d from hd] at hka
      rw [hbm, hb8]
      clear hb8 hrd hu hz hdi hdid hv hd hn hi1 hi2 hf hrk hfc hq hbm
      have HPUT := Lib.hid (show ∀ W, New wr W → Calls Tryz.prog 43 #[.pointer (some ⟨g, 0, none⟩), .int .i64 (i : Int), .agg #[.slice A2 (d + q) c2, .int .i64 (d : Int)]] W fun e w' => e = .returned (.tuple #[]) ∧ ∃ V'', DI w' g m V'' (cutS s keep (j + 1)) ∧ Did w2 w' g m V V'' from fun W hW => by
        have hdW := HX.out.new hW
        refine (dPut_any g m V' (cutS s keep j) W hdW.core i hi A2 (d + q) c2 (((cutS s keep j).f i).take (d + q)) (by rw [List.length_take, HNn.out]; omega) d (fun e => by omega)).mono ?_
        rintro e w5 ⟨rfl, hd3, hc3⟩
        obtain ⟨h1, h2⟩ := hdW.cut1 hi HV.out HD.out hqd (Nat.le_add_right _ _) HNn.out hd3 hc3
        refine ⟨rfl, _, ?_, HDD.out.trans ((Did.of_new hW).trans h2)⟩
        have h3 := cutS_succ (keep := keep) HI.out.1
        rw [HQ.out, show s.firm i = d from HD.out, ← HFC.out] at h3
        rw [h3]
        exact h1)
      by_cases hjk : j < nk
      · obtain ⟨kd, ku, rfl, hku, hkc⟩ := HKR.out.at_ hjk
        obtain ⟨z1, hz1, rfl⟩ := is_at hku
        rw [hz1] at hka
        simp only at hka
        have hz64 := hkr z1 (List.mem_of_getElem? hz1)
        have hkdl := cell_lt' hkc
        have hk2 : (d : Int) + (q : Int) = ((d + q : Nat) : Int) := by omega
        have hwk : IntKind.i64.wrap ((n : Int) - (d : Int)) = (n : Int) - (d : Int) := IntWalk.i64_in _ (by omega)
        have hmm : min (max z1 0) ((n : Int) - (d : Int)) = (q : Int) := by omega
        have hdq : ((d : Int) + (q : Int)).toNat = d + q := by omega
        have HMM := Lib.hid hmm
        have hm0 : 0 ≤ min (max z1 0) ((n : Int) - (d : Int)) := by omega
        have hm1 : (d : Int) + min (max z1 0) ((n : Int) - (d : Int)) ≤ (n : Int) := by omega
        clear hku hz1 hka hk2 hmm
        go_wp2_with fail
        go_region
        go_wp2_with fail
        rw [HMM.out, hdq]
        refine (HPUT.out _ (((Chg.refl _ wr).alloc _).drew)).mono ?_
        rintro e w5 ⟨rfl, V5, hd5, hdd5⟩
        have H5 := Lib.hid (And.intro hd5 hdd5)
        clear hd5 hdd5 hm0 hm1
        go_wp2
        go_roundw
        case rel => exact ⟨j + 1, V5, by omega, by go_num, by rw [manyTo_succ HI.out.1, HBM.out, HQ.out]; have := HB8.out; go_num, H5.out.1, H5.out.2⟩
        case measure => simp [intOf]; omega
      · obtain rfl : q = 0 := by
          rw [List.getElem?_eq_none (by rw [HKL.out]; omega)] at hka
          exact hka
        clear hka
        go_wp2_with (go_at_call 43; refine (HPUT.out _ ((Chg.refl _ wr).alloc _)).mono ?_; rintro e w5 ⟨rfl, V5, hd5, hdd5⟩; have H5 := Lib.hid (And.intro hd5 hdd5); clear hd5 hdd5)
        go_roundw
        case rel => exact ⟨j + 1, V5, by omega, by go_num, by rw [manyTo_succ HI.out.1, HBM.out, HQ.out]; have := HB8.out; go_num, H5.out.1, H5.out.2⟩
        case measure => simp [intOf]; omega
    · obtain rfl : j = N := by omega
      have hfl1 : (files s).length = j := by rw [← HN.out]; unfold filesI; rw [List.length_map]
      have hcut : cutS s keep j = cut s keep := by unfold cutS cut; rw [hfl1]
      have hmany : manyTo s keep j = many s keep := by unfold many; rw [hfl1]
      rw [hcut] at hdi
      obtain ⟨b8, hb8⟩ : ∃ b8, 8 * manyTo s keep j = b8 := ⟨_, rfl⟩
      have hb8l : b8 ≤ 134217728 := by have h1 := manyTo_le s keep j; have h2 := HH.out.wf.used; have h3 := HH.out.wf.room; omega
      have hb8m : 8 * many s keep = b8 := by rw [← hmany]; exact hb8
      rw [hb8]
      obtain ⟨T, hT⟩ : ∃ T, turned s keep flip = T := ⟨_, rfl⟩
      have HX := Lib.hid hdi
      have HDD := Lib.hid hdid
      have HT := Lib.hid hT
      have HB8 := Lib.hid hb8m
      have hrd : Rd wr A j (is (filesI s)) := Rd.of_own (own_chg H2.out.1 hdid.chg HA.out)
      have HRD := Lib.hid hrd
      clear hdi hdid hT hb8 hb8m hfl1 hcut hmany hrd
      have tail : True := trivial
      by_cases hfp : 0 ≤ flip ∧ 0 < b8
      · obtain ⟨hf0, hb0⟩ := hfp
        obtain ⟨fl, rfl⟩ := Int.eq_ofNat_of_zero_le hf0
        have hT2 : T = { cut s keep with f := invert (cut s keep) (files s) (fl % b8) } := by
          rw [← HT.out]
          unfold turned
          have := HB8.out
          rw [if_pos ⟨by omega, by omega⟩, this]
          simp
        have HT2 := Lib.hid hT2
        have hmod : fl % b8 < b8 := Nat.mod_lt _ hb0
        have hrem : ((fl : Int) % (b8 : Int)) = ((fl % b8 : Nat) : Int) := rfl
        have htm : (fl : Int).tmod (b8 : Int) = ((fl % b8 : Nat) : Int) := by rw [Int.tmod_eq_emod_of_nonneg (by omega)]; rfl
        have hb0' : ((b8 : Int) == 0) = false := by simp; omega
        obtain ⟨bt, hbt⟩ : ∃ bt, fl % b8 = bt := ⟨_, rfl⟩
        rw [hbt] at hmod hrem htm
        have HBT := Lib.hid hbt
        clear hT2 hbt
        go_wp2_with fail
        refine (dInvert_any g m V' (cut s keep) wr HX.out A j c (files s) HRD.out (fun i hi => (mem_files.1 hi).1) hN64 bt (by omega)).mono ?_
        rintro e w3 ⟨rfl, hd3, hdd3⟩
        have hTe := HT2.out
        rw [HBT.out] at hTe
        rw [← hTe] at hd3
        have HW3 := Lib.hid (And.intro hd3 (HDD.out.trans hdd3))
        clear hd3 hdd3 hTe
        obtain ⟨N2, hN2⟩ : ∃ N2, (filesI T).length = N2 := ⟨_, rfl⟩
        have HN2 := Lib.hid hN2
        have hN264 : N2 ≤ 64 := by rw [← hN2]; unfold filesI; rw [List.length_map]; exact filesN_len T.f 64
        clear hN2
        go_wp2_with (go_at_call 45; refine (dFiles_any g m V' T _ HW3.out.1).mono ?_; rw [HN2.out]; rintro e w4 ⟨A4, c4, rfl, hown4, hn4⟩; have H4 := Lib.hid (And.intro hown4 hn4); clear hown4 hn4)
        have HD4 := Lib.hid (HW3.out.1.new H4.out.2)
        have HA4 := Lib.hid (show ∀ k, blk A4 = some k → ¬ ownD g m V' k from fun k hk ho => by have := (own_blk_le H4.out.1 hk).1; have := HW3.out.1.lt ho; omega)
        go_loopw [78] (fun v wr => ∃ j5 : Nat, j5 ≤ N2 ∧ v = .int .i64 (j5 : Int) ∧ DI wr g m V' (syncTo T j5) ∧ Chg (ownD g m V') w4 wr) (fun v _ => N2 - (intOf v).toNat)
        case atStart => exact ⟨0, Nat.zero_le _, rfl, by rw [syncTo_zero]; exact HD4.out, Chg.refl _ _⟩
        case round =>
          obtain ⟨j5, hj5, rfl, hdi, hch⟩ := hrel
          by_cases hlt5 : j5 < N2
          · obtain ⟨i, hi1, hi2, hi, hf⟩ := filesI_at (s := T) (j := j5) (by rw [HN2.out]; exact hlt5)
            have hrd : Rd wr A4 N2 (is (filesI T)) := Rd.of_own (own_chg H4.out.1 hch HA4.out)
            obtain ⟨ad, u, rfl, hu, hcu⟩ := hrd.at_ hlt5
            obtain ⟨z, hz, rfl⟩ := is_at hu
            obtain rfl : z = (i : Int) := by rw [hi2] at hz; injection hz with hz; exact hz.symm
            obtain ⟨A2, c2, hv, _⟩ := hdi.slice i
            obtain ⟨n, hn⟩ : ∃ n, ((syncTo T j5).f i).length = n := ⟨_, rfl⟩
            obtain ⟨d, hd⟩ : ∃ d, (syncTo T j5).firm i = d := ⟨_, rfl⟩
            rw [hn] at hv
            have hb1 := hdi.core.blk.cell 1 (u := .map (some m)) rfl
            have hgl := hdi.core.blk.lt
            have HX5 := Lib.hid hdi
            have HC5 := Lib.hid hch
            have HV5 := Lib.hid hv
            have HD5 := Lib.hid hd
            have HN5 := Lib.hid hn
            have HI5 := Lib.hid (And.intro hi1 (And.intro hi hf))
            have hadl := cell_lt' hcu
            clear hrd hu hz hdi hch hv hd hn hi1 hi2 hf
            go_wp2_with (at_lookup; refine wpList_file _ rfl _ _ rfl HX5.out.core rfl (HX5.out.core.map.chg ((Chg.refl (fun _ => False) wr)) (fun h => h)) hi rfl HV5.out HD5.out ?_)
            have hnw : New wr (wr.alloc (Obj.cells #[Value.slice A2 n c2, Value.int IntKind.i64 ↑n] 91)).drew := ((Chg.refl _ wr).alloc _).drew
            obtain ⟨w5, hrun, hm5, hc5, hs5⟩ := MI.store (w := (wr.alloc (Obj.cells #[Value.slice A2 n c2, Value.int IntKind.i64 ↑n] 91)).drew) (HX5.out.core.map.chg hnw (fun h => h)) keyInt Tryz.underlying64 (Nat.lt_of_le_of_lt (entL_len V' _) (show 64 < maxLen by decide)) (i64_file hi) (.agg #[.slice A2 n c2, .int .i64 (n : Int)])
            have hd5 := (HX5.out.new hnw).firm1 hi (by exact HI5.out.2.2) (by rw [HV5.out, HN5.out]; exact hm5) hc5
            have he5 : put (syncTo T j5) i ((syncTo T j5).f i) ((syncTo T j5).f i).length = syncTo T (j5 + 1) := (syncTo_succ HI5.out.1).symm
            rw [he5] at hd5
            have hch5 : Chg (ownD g m V') w4 w5 := (HC5.out.new hnw).trans hc5 (fun k _ e => .inr (.inl e))
            have H5 := Lib.hid (And.intro hd5 hch5)
            clear hnw hm5 hc5 hs5 hd5 he5 hch5
            go_region
            go_wp2
            go_roundw
            case rel => exact ⟨j5 + 1, by omega, by go_num, H5.out.1, H5.out.2⟩
            case measure => simp [intOf]; omega
          · obtain rfl : j5 = N2 := by omega
            have hall := syncTo_all HW3.out.1.wf
            rw [show (files T).length = j5 by rw [← HN2.out]; unfold filesI; rw [List.length_map]] at hall
            rw [hall] at hdi
            have hb2 := hdi.core.blk.cell 2 (u := .bool T.off) rfl
            have hb3 := hdi.core.blk.cell 3 (u := .bool (decide (0 ≤ T.plan))) rfl
            have hb4 := hdi.core.blk.cell 4 (u := .int .i64 (max T.plan 0)) rfl
            have hf2 := hdi.core.blk.frozen 2
            have hf3 := hdi.core.blk.frozen 3
            have hf4 := hdi.core.blk.frozen 4
            have HX6 := Lib.hid hdi
            have HC6 := Lib.hid hch
            clear hdi hch hall
            go_wp2
            go_end0
            have hbk := ((HX6.out.core.blk.set_ 2 (.bool false)).set_ 3 (.bool false)).set_ 4 (.int .i64 0)
            have hcr : crash s keep (fl : Int) = { firmAll T with off := false, plan := -1 } := by rw [crash_eq, HT.out]
            rw [hcr]
            have hfin := HX6.out.cells (s' := { firmAll T with off := false, plan := -1 }) ⟨rfl, rfl⟩ (by simpa [dCells, firmAll, show max (-1 : Int) 0 = 0 by decide] using hbk) ((((Chg.refl (fun k => k = g) wr).setCell (p := ⟨g, 2, none⟩) (fun _ => rfl) _).setCell (p := ⟨g, 3, none⟩) (fun _ => rfl) _).setCell (p := ⟨g, 4, none⟩) (fun _ => rfl) _) ⟨HX6.out.wf.firm, ⟨by simp, by simp⟩, HX6.out.wf.room, HX6.out.wf.used, HX6.out.wf.far⟩
            refine ⟨rfl, V', hfin.1, (Did.of_new H2.out.2).trans (HW3.out.2.trans ((Did.of_new H4.out.2).trans (Did.trans ⟨HC6.out, fun k hk => .inl hk⟩ hfin.2)))⟩
      · have hT2 : T = cut s keep := by
          rw [← HT.out]
          unfold turned
          have := HB8.out
          rw [if_neg (by omega)]
        have HW3 := Lib.hid (show DI wr g m V' T ∧ Did w2 wr g m V V' from ⟨hT2 ▸ HX.out, HDD.out⟩)
        clear hT2
        by_cases hf0 : flip < 0
        · clear hfp
          obtain ⟨N2, hN2⟩ : ∃ N2, (filesI T).length = N2 := ⟨_, rfl⟩
          have HN2 := Lib.hid hN2
          have hN264 : N2 ≤ 64 := by rw [← hN2]; unfold filesI; rw [List.length_map]; exact filesN_len T.f 64
          clear hN2
          go_wp2_with (go_at_call 45; refine (dFiles_any g m V' T _ HW3.out.1).mono ?_; rw [HN2.out]; rintro e w4 ⟨A4, c4, rfl, hown4, hn4⟩; have H4 := Lib.hid (And.intro hown4 hn4); clear hown4 hn4)
          have HD4 := Lib.hid (HW3.out.1.new H4.out.2)
          have HA4 := Lib.hid (show ∀ k, blk A4 = some k → ¬ ownD g m V' k from fun k hk ho => by have := (own_blk_le H4.out.1 hk).1; have := HW3.out.1.lt ho; omega)
          go_loopw [78] (fun v wr => ∃ j5 : Nat, j5 ≤ N2 ∧ v = .int .i64 (j5 : Int) ∧ DI wr g m V' (syncTo T j5) ∧ Chg (ownD g m V') w4 wr) (fun v _ => N2 - (intOf v).toNat)
          case atStart => exact ⟨0, Nat.zero_le _, rfl, by rw [syncTo_zero]; exact HD4.out, Chg.refl _ _⟩
          case round =>
            obtain ⟨j5, hj5, rfl, hdi, hch⟩ := hrel
            by_cases hlt5 : j5 < N2
            · obtain ⟨i, hi1, hi2, hi, hf⟩ := filesI_at (s := T) (j := j5) (by rw [HN2.out]; exact hlt5)
              have hrd : Rd wr A4 N2 (is (filesI T)) := Rd.of_own (own_chg H4.out.1 hch HA4.out)
              obtain ⟨ad, u, rfl, hu, hcu⟩ := hrd.at_ hlt5
              obtain ⟨z, hz, rfl⟩ := is_at hu
              obtain rfl : z = (i : Int) := by rw [hi2] at hz; injection hz with hz; exact hz.symm
              obtain ⟨A2, c2, hv, _⟩ := hdi.slice i
              obtain ⟨n, hn⟩ : ∃ n, ((syncTo T j5).f i).length = n := ⟨_, rfl⟩
              obtain ⟨d, hd⟩ : ∃ d, (syncTo T j5).firm i = d := ⟨_, rfl⟩
              rw [hn] at hv
              have hb1 := hdi.core.blk.cell 1 (u := .map (some m)) rfl
              have hgl := hdi.core.blk.lt
              have HX5 := Lib.hid hdi
              have HC5 := Lib.hid hch
              have HV5 := Lib.hid hv
              have HD5 := Lib.hid hd
              have HN5 := Lib.hid hn
              have HI5 := Lib.hid (And.intro hi1 (And.intro hi hf))
              have hadl := cell_lt' hcu
              clear hrd hu hz hdi hch hv hd hn hi1 hi2 hf
              go_wp2_with (at_lookup; refine wpList_file _ rfl _ _ rfl HX5.out.core rfl (HX5.out.core.map.chg ((Chg.refl (fun _ => False) wr)) (fun h => h)) hi rfl HV5.out HD5.out ?_)
              have hnw : New wr (wr.alloc (Obj.cells #[Value.slice A2 n c2, Value.int IntKind.i64 ↑n] 91)).drew := ((Chg.refl _ wr).alloc _).drew
              obtain ⟨w5, hrun, hm5, hc5, hs5⟩ := MI.store (w := (wr.alloc (Obj.cells #[Value.slice A2 n c2, Value.int IntKind.i64 ↑n] 91)).drew) (HX5.out.core.map.chg hnw (fun h => h)) keyInt Tryz.underlying64 (Nat.lt_of_le_of_lt (entL_len V' _) (show 64 < maxLen by decide)) (i64_file hi) (.agg #[.slice A2 n c2, .int .i64 (n : Int)])
              have hd5 := (HX5.out.new hnw).firm1 hi (by exact HI5.out.2.2) (by rw [HV5.out, HN5.out]; exact hm5) hc5
              have he5 : put (syncTo T j5) i ((syncTo T j5).f i) ((syncTo T j5).f i).length = syncTo T (j5 + 1) := (syncTo_succ HI5.out.1).symm
              rw [he5] at hd5
              have hch5 : Chg (ownD g m V') w4 w5 := (HC5.out.new hnw).trans hc5 (fun k _ e => .inr (.inl e))
              have H5 := Lib.hid (And.intro hd5 hch5)
              clear hnw hm5 hc5 hs5 hd5 he5 hch5
              go_region
              go_wp2
              go_roundw
              case rel => exact ⟨j5 + 1, by omega, by go_num, H5.out.1, H5.out.2⟩
              case measure => simp [intOf]; omega
            · obtain rfl : j5 = N2 := by omega
              have hall := syncTo_all HW3.out.1.wf
              rw [show (files T).length = j5 by rw [← HN2.out]; unfold filesI; rw [List.length_map]] at hall
              rw [hall] at hdi
              have hb2 := hdi.core.blk.cell 2 (u := .bool T.off) rfl
              have hb3 := hdi.core.blk.cell 3 (u := .bool (decide (0 ≤ T.plan))) rfl
              have hb4 := hdi.core.blk.cell 4 (u := .int .i64 (max T.plan 0)) rfl
              have hf2 := hdi.core.blk.frozen 2
              have hf3 := hdi.core.blk.frozen 3
              have hf4 := hdi.core.blk.frozen 4
              have HX6 := Lib.hid hdi
              have HC6 := Lib.hid hch
              clear hdi hch hall
              go_wp2
              go_end0
              have hbk := ((HX6.out.core.blk.set_ 2 (.bool false)).set_ 3 (.bool false)).set_ 4 (.int .i64 0)
              have hcr : crash s keep flip = { firmAll T with off := false, plan := -1 } := by rw [crash_eq, HT.out]
              rw [hcr]
              have hfin := HX6.out.cells (s' := { firmAll T with off := false, plan := -1 }) ⟨rfl, rfl⟩ (by simpa [dCells, firmAll, show max (-1 : Int) 0 = 0 by decide] using hbk) ((((Chg.refl (fun k => k = g) wr).setCell (p := ⟨g, 2, none⟩) (fun _ => rfl) _).setCell (p := ⟨g, 3, none⟩) (fun _ => rfl) _).setCell (p := ⟨g, 4, none⟩) (fun _ => rfl) _) ⟨HX6.out.wf.firm, ⟨by simp, by simp⟩, HX6.out.wf.room, HX6.out.wf.used, HX6.out.wf.far⟩
              refine ⟨rfl, V', hfin.1, (Did.of_new H2.out.2).trans (HW3.out.2.trans ((Did.of_new H4.out.2).trans (Did.trans ⟨HC6.out, fun k hk => .inl hk⟩ hfin.2)))⟩
        · obtain rfl : b8 = 0 := by omega
          clear hfp
          obtain ⟨N2, hN2⟩ : ∃ N2, (filesI T).length = N2 := ⟨_, rfl⟩
          have HN2 := Lib.hid hN2
          have hN264 : N2 ≤ 64 := by rw [← hN2]; unfold filesI; rw [List.length_map]; exact filesN_len T.f 64
          clear hN2
          go_wp2_with (go_at_call 45; refine (dFiles_any g m V' T _ HW3.out.1).mono ?_; rw [HN2.out]; rintro e w4 ⟨A4, c4, rfl, hown4, hn4⟩; have H4 := Lib.hid (And.intro hown4 hn4); clear hown4 hn4)
          have HD4 := Lib.hid (HW3.out.1.new H4.out.2)
          have HA4 := Lib.hid (show ∀ k, blk A4 = some k → ¬ ownD g m V' k from fun k hk ho => by have := (own_blk_le H4.out.1 hk).1; have := HW3.out.1.lt ho; omega)
          go_loopw [78] (fun v wr => ∃ j5 : Nat, j5 ≤ N2 ∧ v = .int .i64 (j5 : Int) ∧ DI wr g m V' (syncTo T j5) ∧ Chg (ownD g m V') w4 wr) (fun v _ => N2 - (intOf v).toNat)
          case atStart => exact ⟨0, Nat.zero_le _, rfl, by rw [syncTo_zero]; exact HD4.out, Chg.refl _ _⟩
          case round =>
            obtain ⟨j5, hj5, rfl, hdi, hch⟩ := hrel
            by_cases hlt5 : j5 < N2
            · obtain ⟨i, hi1, hi2, hi, hf⟩ := filesI_at (s := T) (j := j5) (by rw [HN2.out]; exact hlt5)
              have hrd : Rd wr A4 N2 (is (filesI T)) := Rd.of_own (own_chg H4.out.1 hch HA4.out)
              obtain ⟨ad, u, rfl, hu, hcu⟩ := hrd.at_ hlt5
              obtain ⟨z, hz, rfl⟩ := is_at hu
              obtain rfl : z = (i : Int) := by rw [hi2] at hz; injection hz with hz; exact hz.symm
              obtain ⟨A2, c2, hv, _⟩ := hdi.slice i
              obtain ⟨n, hn⟩ : ∃ n, ((syncTo T j5).f i).length = n := ⟨_, rfl⟩
              obtain ⟨d, hd⟩ : ∃ d, (syncTo T j5).firm i = d := ⟨_, rfl⟩
              rw [hn] at hv
              have hb1 := hdi.core.blk.cell 1 (u := .map (some m)) rfl
              have hgl := hdi.core.blk.lt
              have HX5 := Lib.hid hdi
              have HC5 := Lib.hid hch
              have HV5 := Lib.hid hv
              have HD5 := Lib.hid hd
              have HN5 := Lib.hid hn
              have HI5 := Lib.hid (And.intro hi1 (And.intro hi hf))
              have hadl := cell_lt' hcu
              clear hrd hu hz hdi hch hv hd hn hi1 hi2 hf
              go_wp2_with (at_lookup; refine wpList_file _ rfl _ _ rfl HX5.out.core rfl (HX5.out.core.map.chg ((Chg.refl (fun _ => False) wr)) (fun h => h)) hi rfl HV5.out HD5.out ?_)
              have hnw : New wr (wr.alloc (Obj.cells #[Value.slice A2 n c2, Value.int IntKind.i64 ↑n] 91)).drew := ((Chg.refl _ wr).alloc _).drew
              obtain ⟨w5, hrun, hm5, hc5, hs5⟩ := MI.store (w := (wr.alloc (Obj.cells #[Value.slice A2 n c2, Value.int IntKind.i64 ↑n] 91)).drew) (HX5.out.core.map.chg hnw (fun h => h)) keyInt Tryz.underlying64 (Nat.lt_of_le_of_lt (entL_len V' _) (show 64 < maxLen by decide)) (i64_file hi) (.agg #[.slice A2 n c2, .int .i64 (n : Int)])
              have hd5 := (HX5.out.new hnw).firm1 hi (by exact HI5.out.2.2) (by rw [HV5.out, HN5.out]; exact hm5) hc5
              have he5 : put (syncTo T j5) i ((syncTo T j5).f i) ((syncTo T j5).f i).length = syncTo T (j5 + 1) := (syncTo_succ HI5.out.1).symm
              rw [he5] at hd5
              have hch5 : Chg (ownD g m V') w4 w5 := (HC5.out.new hnw).trans hc5 (fun k _ e => .inr (.inl e))
              have H5 := Lib.hid (And.intro hd5 hch5)
              clear hnw hm5 hc5 hs5 hd5 he5 hch5
              go_region
              go_wp2
              go_roundw
              case rel => exact ⟨j5 + 1, by omega, by go_num, H5.out.1, H5.out.2⟩
              case measure => simp [intOf]; omega
            · obtain rfl : j5 = N2 := by omega
              have hall := syncTo_all HW3.out.1.wf
              rw [show (files T).length = j5 by rw [← HN2.out]; unfold filesI; rw [List.length_map]] at hall
              rw [hall] at hdi
              have hb2 := hdi.core.blk.cell 2 (u := .bool T.off) rfl
              have hb3 := hdi.core.blk.cell 3 (u := .bool (decide (0 ≤ T.plan))) rfl
              have hb4 := hdi.core.blk.cell 4 (u := .int .i64 (max T.plan 0)) rfl
              have hf2 := hdi.core.blk.frozen 2
              have hf3 := hdi.core.blk.frozen 3
              have hf4 := hdi.core.blk.frozen 4
              have HX6 := Lib.hid hdi
              have HC6 := Lib.hid hch
              clear hdi hch hall
              go_wp2
              go_end0
              have hbk := ((HX6.out.core.blk.set_ 2 (.bool false)).set_ 3 (.bool false)).set_ 4 (.int .i64 0)
              have hcr : crash s keep flip = { firmAll T with off := false, plan := -1 } := by rw [crash_eq, HT.out]
              rw [hcr]
              have hfin := HX6.out.cells (s' := { firmAll T with off := false, plan := -1 }) ⟨rfl, rfl⟩ (by simpa [dCells, firmAll, show max (-1 : Int) 0 = 0 by decide] using hbk) ((((Chg.refl (fun k => k = g) wr).setCell (p := ⟨g, 2, none⟩) (fun _ => rfl) _).setCell (p := ⟨g, 3, none⟩) (fun _ => rfl) _).setCell (p := ⟨g, 4, none⟩) (fun _ => rfl) _) ⟨HX6.out.wf.firm, ⟨by simp, by simp⟩, HX6.out.wf.room, HX6.out.wf.used, HX6.out.wf.far⟩
              refine ⟨rfl, V', hfin.1, (Did.of_new H2.out.2).trans (HW3.out.2.trans ((Did.of_new H4.out.2).trans (Did.trans ⟨HC6.out, fun k hk => .inl hk⟩ hfin.2)))⟩
end Go.Proofs.YtblcaeoeeepajaaGreatDoor

namespace Go.Proofs.YtblcaeoeeepajaaGreatDoor
set_option linter.unusedVariables false
open Go.RowKit Go.Mem Go.Dk

set_option maxHeartbeats 2000000 in
set_option maxRecDepth 100000 in
theorem dCopy_any (g m : Nat) (V : Nat → Value) (s : S) (w : World) (h : DI w g m V s) :
    Calls Tryz.prog 56 #[.pointer (some ⟨g, 0, none⟩)] w fun e w' => ∃ g2 m2 V2, e = .returned (.pointer (some ⟨g2, 0, none⟩)) ∧ DI w' g2 m2 V2 s ∧ New w w' ∧ ∀ k, ownD g2 m2 V2 k → w.heap.size ≤ k := by
  have hc0 := h.core.blk.cell 0 (u := .int .i64 (s.room : Int)) rfl
  have hc1 := h.core.blk.cell 1 (u := .map (some m)) rfl
  have hc2 := h.core.blk.cell 2 (u := .bool s.off) rfl
  have hc3 := h.core.blk.cell 3 (u := .bool (decide (0 ≤ s.plan))) rfl
  have hc4 := h.core.blk.cell 4 (u := .int .i64 (max s.plan 0)) rfl
  have hgl := h.core.blk.lt
  have HH := Lib.hid h
  have HINV := Lib.hid h.inv
  obtain ⟨pb, hpb⟩ : ∃ pb, decide (0 ≤ s.plan) = pb := ⟨_, rfl⟩
  obtain ⟨lf, hlf⟩ : ∃ lf, max s.plan 0 = lf := ⟨_, rfl⟩
  rw [hpb] at hc3
  rw [hlf] at hc4
  have HPB := Lib.hid (And.intro hpb hlf)
  clear h hpb hlf
  have hmk : ∀ w : World, (Instr.makeMap 64 none).run Tryz.prog w = .ok (.map (some w.heap.size)) (w.alloc (.map #[] 0)) := fun w => by kernel_rfl
  go_enter Tryz.func56, Tryz.ntmps56
  go_wp2_with fail
  obtain ⟨w0, hw0⟩ : ∃ w0, ((w.alloc (Obj.cells #[Value.int .i64 (s.room : Int), Value.map (some (w.heap.size + 1)), Value.bool s.off, Value.bool pb, Value.int .i64 lf] 66)).alloc (Obj.map #[] 0)) = w0 := ⟨_, rfl⟩
  rw [hw0]
  have hN0 : New w w0 := by rw [← hw0]; exact ((Chg.refl _ w).alloc _).alloc _
  have hz0 : w0.heap.size = w.heap.size + 2 := by rw [← hw0]; simp
  have hB0 : Blk w0 w.heap.size 66 (dCells s (w.heap.size + 1)) := by
    have := (Blk.new w 66 #[Value.int .i64 (s.room : Int), Value.map (some (w.heap.size + 1)), Value.bool s.off, Value.bool pb, Value.int .i64 lf]).alloc (Obj.map #[] 0)
    rw [hw0] at this
    unfold dCells
    rw [HPB.out.1, HPB.out.2]
    exact this
  have hM0 : MI w0 Tryz.prog 3 (w.heap.size + 1) [] := by
    have := MI.made (w.alloc (Obj.cells #[Value.int .i64 (s.room : Int), Value.map (some (w.heap.size + 1)), Value.bool s.off, Value.bool pb, Value.int .i64 lf] 66)) Tryz.prog 3
    rw [hw0] at this
    simpa using this
  have HD0 := Lib.hid (show DI w0 w.heap.size (w.heap.size + 1) (fun _ => .slice none 0 0) (Dk.part s (fun i => (lk (entL V s) i).isSome)) from by
    have hnone := part_none HH.out.wf (left := fun i => (lk (entL V s) i).isSome) (fun i hi hf => by rw [lk_entL, if_pos ⟨by omega, by omega, by simpa using hf⟩]; rfl)
    have hfirm := (HH.out.wf.part (fun i => (lk (entL V s) i).isSome)).firm
    have hent : entL (fun _ => Value.slice none 0 0) (Dk.part s (fun i => (lk (entL V s) i).isSome)) = [] := by
      refine List.eq_nil_iff_forall_not_mem.2 (fun p hp => ?_)
      obtain ⟨i, _, h, _⟩ := mem_entL.1 hp
      exact h (hnone i)
    refine ⟨⟨hB0, by rw [hent]; exact hM0, fun i hi => ⟨rfl, by have := hfirm i; rw [hi] at this; simpa using this⟩⟩, fun i => by rw [hnone i]; exact RowV.nil _ _ _, (fun i j k hk _ => by cases hk), HH.out.wf.part _⟩)
  have HN0 := Lib.hid (And.intro hN0 hz0)
  have hb1 := hB0.cell 1 (u := .map (some (w.heap.size + 1))) rfl
  have hgl0 := hB0.lt
  clear hc0 hc1 hc2 hc3 hc4 hgl hw0 hN0 hz0 hB0 hM0
  obtain ⟨w1, hrun, hr1, hn1, hs1⟩ := (HH.out.core.map.chg HN0.out.1 (fun h => h)).range keyInt Tryz.underlying64
  have HR1 := Lib.hid (And.intro hr1 hn1)
  have HS1 := Lib.hid hs1
  clear hr1 hn1 hs1
  rw [hrun]
  go_wp2_with fail
  obtain ⟨r, hr⟩ : ∃ r, w0.heap.size = r := ⟨_, rfl⟩
  rw [hr]
  have HRR := Lib.hid hr
  go_loopw [] (fun wr => ∃ left V2, RI wr Tryz.prog 3 m r (entL V s) left ∧ DI wr w.heap.size (w.heap.size + 1) V2 (Dk.part s left) ∧ (∀ k, ownD w.heap.size (w.heap.size + 1) V2 k → w.heap.size ≤ k ∧ k ≠ r) ∧ New w wr) (fun wr => wr.rangeLeft m r)
  case atStart =>
    refine ⟨_, _, HRR.out ▸ HR1.out.1, HD0.out.new HR1.out.2, fun k hk => ?_, HN0.out.1.new HR1.out.2⟩
    have := HN0.out.2
    have := HRR.out
    rcases hk with rfl | rfl | ⟨i, hi⟩
    · omega
    · omega
    · cases hi
  case round =>
    obtain ⟨left, V2, hri, hdi, hown, hnw⟩ := hrel
    have HRI := Lib.hid hri
    have HDI := Lib.hid hdi
    have HOWN := Lib.hid hown
    have HNW := Lib.hid hnw
    have hrw : w.heap.size + 1 < r := by have := HN0.out.2; have := HRR.out; omega
    clear hri hdi hown hnw
    go_wp2_with (at_next; refine wpList_nextI wr rfl _ rfl keyInt rfl HRI.out mkC HINV.out ?_ ?_)
    · intro hdone
      go_wp2
      go_ret
      exact ⟨w.heap.size, w.heap.size + 1, V2, rfl, by have := HDI.out; rwa [part_all hdone] at this, HNW.out, fun k hk => (HOWN.out k hk).1⟩
    · intro i A n c d wn hm hi hl hrn hcn hsz hlt hen
      obtain ⟨k, hk64, hkf, hpair⟩ := mem_entL.1 hm
      injection hpair with hik hcv
      subst hik
      have hcv2 : V k = .slice A n c ∧ s.firm k = d := by
        have h9 : Value.slice A n c = V k ∧ (d : Int) = (s.firm k : Int) := by simpa [mkC, ctV] using hcv
        exact ⟨h9.1.symm, by have := h9.2; omega⟩
      obtain ⟨hv, hd⟩ := hcv2
      have hn : (s.f k).length = n := by
        obtain ⟨A9, c9, h9, _⟩ := HH.out.slice k
        rw [hv] at h9
        injection h9 with _ h9 _
        exact h9.symm
      have hnwn : New w wn := HNW.out.owned hcn (fun j e => by omega)
      have hdn := HDI.out.chg hcn (fun j hj => (HOWN.out j hj).2)
      have hrow := (HH.out.rows k).new hnwn
      rw [hv] at hrow
      have hrd : Rd wn A n (bs (s.f k)) := hrow.rd
      have hlen := HH.out.wf.len k
      rw [hn] at hlen
      have hcell := hdn.core.blk.cell 1 (u := .map (some (w.heap.size + 1))) rfl
      have hgln := hdn.core.blk.lt
      have hrl := hrn.lt
      have HW := Lib.hid hnwn
      have HD := Lib.hid hdn
      have HR := Lib.hid hrd
      have HN := Lib.hid (And.intro hn (And.intro hd hkf))
      have HRN := Lib.hid hrn
      have HLT := Lib.hid hlt
      have HE := Lib.hid (show RowV ((wn.alloc (Obj.cells #[Value.slice A n c, Value.int .i64 (d : Int)] 91)).alloc (Obj.cells #[] 5)) 5 IsU8 (.slice (some ⟨wn.heap.size + 1, 0, none⟩) 0 0) [] from by
        have := Blk.new (wn.alloc (Obj.cells #[Value.slice A n c, Value.int .i64 (d : Int)] 91)) 5 #[]
        rw [World.size_alloc] at this
        exact .inr ⟨wn.heap.size + 1, 0, [], rfl, Nat.zero_le _, rfl, this, fun u hu => by cases hu⟩)
      simp only [mkC] at hen ⊢
      clear hm hcv hv hn hnwn hdn hrow hrd hrn hcn hsz hlt hd hkf
      go_wp2_with (first
        | (at_builtin; refine wpList_appV elemB rfl ⟨0, rfl⟩ rfl _ _ rfl rfl HE.out rfl (src_rd Tryz.underlying33 (HR.out.new (((Chg.refl _ wn).alloc _).alloc _)) (bs_one _)) (bs_u8 _) (by simp; omega) (by simp; omega) ?_; intro A' c' N' w2 hN' hown2 hg2' hat2'; have hg2 : World.grownBy ((wn.alloc (Obj.cells #[Value.slice A n c, Value.int .i64 (d : Int)] 91)).alloc (Obj.cells #[] 5)) w2 (some (wn.heap.size + 1)) := hg2'; have hat2 : blk A' = some (wn.heap.size + 1) ∨ ∃ k, blk A' = some k ∧ wn.heap.size < k := hat2'.imp (fun e => e) (fun e => ⟨_, e.1, by simp; omega⟩); clear hg2' hat2'; have hbx := ((Blk.new wn 91 #[Value.slice A n c, Value.int .i64 (d : Int)]).alloc (Obj.cells #[] 5)).grown hg2 (fun e => by injection e with e; omega); have hx0 := hbx.cell 0 rfl; have hx1 := hbx.cell 1 rfl; have hxf := hbx.frozen 0; have hn2 : New wn w2 := (((Chg.refl (fun _ => False) wn).alloc _).alloc _).grown hg2 (fun k hk hlt => by injection hk with hk; omega); have hy := hn2.cell hcell (fun h => h); have hg9 := Nat.lt_of_lt_of_le hgln hn2.size; have hxl := hbx.lt; have HBX := Lib.hid hbx; have HO2 := Lib.hid hown2; have HG2 := Lib.hid (And.intro hg2 (And.intro hat2 hn2)); have HN' := Lib.hid hN'; clear hbx hown2 hg2 hat2 hN' hn2)
        | (at_mapUpdate; refine wpList_storeI _ rfl _ _ _ rfl keyInt Tryz.underlying64 rfl (HD.out.core.map.chg (Chg.setCell_new HG2.out.2.2 (show wn.heap.size ≤ wn.heap.size from Nat.le_refl _) _) (fun h => h)) (Nat.lt_of_le_of_lt (entL_len V2 _) (show 64 < maxLen by decide)) hi rfl rfl ?_; intro w3 hm3 hc3 hs3))
      have hm3' : MI w3 Tryz.prog 3 (w.heap.size + 1) (pt (entL V2 (Dk.part s left)) (k : Int) (ctV (.slice A' N' c') d)) := hm3
      have hck : Chg (fun j => j = w.heap.size + 1) wn w3 := (Chg.setCell_new (HG2.out.2.2.mono (fun _ _ hf => hf.elim)) (Nat.le_refl _) _).trans hc3 (fun j _ e => e)
      have hdc := HD.out.core.put1 hk64 HN.out.2.2 hm3' hck
      rw [← HN.out.2.1, ← part_step hl] at hdc
      have hrow3 : RowV w3 5 IsU8 (.slice A' N' c') (bs (s.f k)) := by
        have h1 := HO2.out
        rw [List.nil_append] at h1
        have hne1 : blk A' ≠ some wn.heap.size := by
          rcases HG2.out.2.1 with e | ⟨k9, e, hk9⟩
          · rw [e]; intro e2; injection e2 with e2; omega
          · rw [e]; intro e2; injection e2 with e2; omega
        have hne2 : blk A' ≠ some (w.heap.size + 1) := by
          rcases HG2.out.2.1 with e | ⟨k9, e, hk9⟩
          · rw [e]; intro e2; injection e2 with e2; omega
          · rw [e]; intro e2; injection e2 with e2; omega
        have h2 := h1.chg ((Chg.refl (fun j => j = wn.heap.size) w2).setCell (p := ⟨wn.heap.size, 0, none⟩) (fun _ => rfl) (.slice A' N' c')) (fun j hj e => hne1 (by subst e; exact hj))
        exact h2.chg hc3 (fun j hj e => hne2 (by subst e; exact hj))
      have hat : ∀ j, blkV (.slice A' N' c') = some j → wn.heap.size ≤ j := fun j hj => by
        have hj : blk A' = some j := hj
        rcases HG2.out.2.1 with e | ⟨k9, e, hk9⟩
        · rw [e] at hj; injection hj with hj; omega
        · rw [e] at hj; injection hj with hj; omega
      have hwf := HH.out.wf.part (fun x => left x && !(x == (k : Int)))
      rw [part_step hl] at hwf hdc
      obtain ⟨hfin, hfd⟩ := HD.out.put_row (hck.mono (fun j _ e => .inr (.inl e))) hdc hrow3 (fun j hj => .inr (hat j hj)) hwf
      rw [← part_step hl] at hfin
      have hml := HH.out.core.map.lt
      have n1 : ¬ (fun j => j = w.heap.size + 1) m := fun e => by have e : m = w.heap.size + 1 := e; omega
      have n2 : ¬ (fun j => j = w.heap.size + 1) r := fun e => by have e : r = w.heap.size + 1 := e; omega
      have HFIN := Lib.hid (And.intro hfin (And.intro (HRN.out.chg hck n1 n2) (And.intro (show ∀ j, ownD w.heap.size (w.heap.size + 1) (upd V2 k (.slice A' N' c')) j → w.heap.size ≤ j ∧ j ≠ r from fun j hj => by
        rcases ownD_upd hj with h1 | h1
        · exact HOWN.out j h1
        · have := hat j h1; exact ⟨by omega, by omega⟩) (And.intro (HW.out.owned hck (fun j e => by have e : j = w.heap.size + 1 := e; omega)) (show w3.rangeLeft m r < wr.rangeLeft m r from by rw [RI.left_chg HRN.out hck n1 n2]; exact HLT.out)))))
      clear hm3 hm3' hck hdc hrow3 hat hwf hfin hfd hc3 hs3
      go_roundw
      case rel => exact ⟨_, _, _, _, _, _, _, _, _, _, _, _, _, _, _, _, ⟨_, _, HFIN.out.2.1, HFIN.out.1, HFIN.out.2.2.1, HFIN.out.2.2.2.1⟩, rfl⟩
      case measure => exact HFIN.out.2.2.2.2
end Go.Proofs.YtblcaeoeeepajaaGreatDoor
