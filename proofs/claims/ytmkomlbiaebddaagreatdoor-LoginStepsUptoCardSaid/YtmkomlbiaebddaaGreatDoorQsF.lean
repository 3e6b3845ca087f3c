/- DERIVED: THE SHELF's CONTRACTS AT THIS DUMP, IN PLAIN WORDS (tools/lay-plain.mjs out of 'TryzShelf.lean', which tools/lay-shelf.mjs wrote): THE SAME DECLARATIONS UNDER THE SAME NAMES: 'import', 'namespace', 'open', 'def', 'theorem' AND NOTHING ELSE: no command of the shelf's: FOR A HAND-IN. Each laying: the table of numbers ('.._ren') and one theorem, a field a fact of the dump's own or the kernel's comparison; each contract: ONE APPLICATION. A region that draws its order, walked in the order of the text, where floats of the head read what the tail leaves alone. A machine over plain values: what the program's code computes, in the order of its text, as a function. Conditions: none; these are definitions. A machine over plain values: its steps. Conditions: none; these are definitions. A machine over plain values: the walk of a function's code. Conditions: none; these are definitions. Conditions: as each theorem says. -/
import Derived.Shelf.Strings.Builder1
import Derived.Shelf.Strings.Trim
import Derived.Shelf.Small.Utf8
import Derived.Shelf.Small.Bits
import Derived.Shelf.Small.Strs
import Derived.Shelf.Small.Wraps
import Derived.Shelf.Strings.BuilderF
import Derived.Shelf.Strings.BuilderK
import Derived.Shelf.Strconv.Atoi
import Derived.Shelf.Strconv.Itoa0
import Derived.Shelf.Strconv.Itoa1
import Derived.Shelf.LaysM
import Derived.Shelf.Strconv.Itoa2
import Derived.Shelf.Strconv.Itoa3
import Derived.Shelf.Strconv.AtoiErrFast
import Derived.Shelf.Strconv.ParseIntEmpty
import Derived.Shelf.Strconv.AtoiFail
import Derived.Shelf.Strconv.Clone
import Derived.Shelf.Strconv.SyntaxError
import Derived.Shelf.LaysC
import Derived.Shelf.Strconv.ToError
import Derived.Shelf.Strconv.Lower
import Derived.Shelf.Strconv.ParseUint10
import Derived.Shelf.Strconv.ParseUint10Empty
import Derived.Shelf.Strconv.ParseUint10Any
import Derived.Shelf.Strconv.ParseInt10
import Derived.Shelf.Strconv.AtoiLong
import Derived.Shelf.Strconv.AtoiInnerAll
import Derived.Shelf.Strconv.RangeError
import Derived.Shelf.Strconv.ToErrorRange
import Derived.Shelf.Strconv.AtoiAll
import Derived.Shelf.Strings.Search1
import Derived.Shelf.Strings.Search2
import Derived.Shelf.Strings.Cut
import Derived.Shelf.Strings.Shaped
import Derived.Shelf.Strings.Prefix
import Derived.Shelf.Strings.Runes
import Derived.Shelf.Strings.AsciiSet
import Derived.Shelf.Bits.Mul64
import Derived.Shelf.Unicode.DecodeSlow
import Derived.Ground.SlgmProg
import Derived.Shelf.SortM.Plain
import Derived.Shelf.SortM.SortNone
import Derived.Test.YtmkomlbiaebddaaGreatDoorProg
import Derived.Test.YtmkomlbiaebddaaGreatDoorQsE
namespace Go.Proofs
open Go.Shelf
def Tryz.lays160_ren : Go.Shelf.Ren := ⟨fun | 160 => 109 | 232 => 132 | 231 => 131 | 227 => 133 | 234 => 135 | 233 => 134 | 236 => 137 | 235 => 136 | 228 => 166 | 271 => 169 | 151 => 168 | 197 => 167 | 120 => 191 | 152 => 190 | 260 => 189 | 137 => 200 | 119 => 201 | 224 => 187 | 225 => 186 | 217 => 185 | 266 => 198 | n => n, fun | 9 => 9 | 4 => 4 | 3 => 3 | 5 => 5 | 117 => 169 | 116 => 168 | 0 => 0 | 124 => 172 | 21 => 21 | 105 => 197 | 46 => 139 | 119 => 227 | 139 => 230 | 138 => 229 | n => n, fun | 3 => 4 | 4 => 5 | n => n⟩
theorem Tryz.lays160 : Go.Proofs.Lays.n160 Tryz.prog Tryz.lays160_ren := {
  mixed := by kernel_rfl
  f119 := Tryz.func201.trans (congrArg some (by kernel_rfl))
  f120 := Tryz.func191.trans (congrArg some (by kernel_rfl))
  f137 := Tryz.func200.trans (congrArg some (by kernel_rfl))
  f151 := Tryz.func168.trans (congrArg some (by kernel_rfl))
  f152 := Tryz.func190.trans (congrArg some (by kernel_rfl))
  f160 := Tryz.func109.trans (congrArg some (by kernel_rfl))
  f197 := Tryz.func167.trans (congrArg some (by kernel_rfl))
  f217 := Tryz.func185.trans (congrArg some (by kernel_rfl))
  f224 := Tryz.func187.trans (congrArg some (by kernel_rfl))
  f225 := Tryz.func186.trans (congrArg some (by kernel_rfl))
  f227 := Tryz.func133.trans (congrArg some (by kernel_rfl))
  f228 := Tryz.func166.trans (congrArg some (by kernel_rfl))
  f231 := Tryz.func131.trans (congrArg some (by kernel_rfl))
  f232 := Tryz.func132.trans (congrArg some (by kernel_rfl))
  f233 := Tryz.func134.trans (congrArg some (by kernel_rfl))
  f234 := Tryz.func135.trans (congrArg some (by kernel_rfl))
  f235 := Tryz.func136.trans (congrArg some (by kernel_rfl))
  f236 := Tryz.func137.trans (congrArg some (by kernel_rfl))
  f260 := Tryz.func189.trans (congrArg some (by kernel_rfl))
  f266 := Tryz.func198.trans (congrArg some (by kernel_rfl))
  f271 := Tryz.func169.trans (congrArg some (by kernel_rfl))
  t0 := Tryz.underlying0
  a0 := Tryz.isAgg0
  z0 := Tryz.sizeOf0
  v0 := Tryz.zeroValue0
  t3 := Tryz.underlying3
  a3 := Tryz.isAgg3
  z3 := Tryz.sizeOf3
  v3 := Tryz.zeroValue3
  t4 := Tryz.underlying4
  a4 := Tryz.isAgg4
  z4 := Tryz.sizeOf4
  v4 := Tryz.zeroValue4
  t5 := Tryz.underlying5
  a5 := Tryz.isAgg5
  z5 := Tryz.sizeOf5
  v5 := Tryz.zeroValue5
  t9 := Tryz.underlying9
  a9 := Tryz.isAgg9
  z9 := Tryz.sizeOf9
  v9 := Tryz.zeroValue9
  t21 := Tryz.underlying21
  a21 := Tryz.isAgg21
  z21 := Tryz.sizeOf21
  v21 := Tryz.zeroValue21
  t46 := Tryz.underlying139
  a46 := Tryz.isAgg139
  z46 := Tryz.sizeOf139
  v46 := Tryz.zeroValue139
  t105 := Tryz.underlying197
  a105 := Tryz.isAgg197
  z105 := Tryz.sizeOf197
  v105 := Tryz.zeroValue197
  t116 := Tryz.underlying168
  a116 := Tryz.isAgg168
  z116 := Tryz.sizeOf168
  t117 := Tryz.underlying169
  a117 := Tryz.isAgg169
  z117 := Tryz.sizeOf169
  v117 := Tryz.zeroValue169
  t119 := Tryz.underlying227
  a119 := Tryz.isAgg227
  z119 := Tryz.sizeOf227
  t124 := Tryz.underlying172
  a124 := Tryz.isAgg172
  z124 := Tryz.sizeOf172
  v124 := Tryz.zeroValue172
  t138 := Tryz.underlying229
  a138 := Tryz.isAgg229
  z138 := Tryz.sizeOf229
  v138 := Tryz.zeroValue229
  t139 := Tryz.underlying230
  a139 := Tryz.isAgg230
  z139 := Tryz.sizeOf230
  v139 := Tryz.zeroValue230
  g3 := by kernel_rfl
  g4 := by kernel_rfl }
def Tryz.laysM171_ren : Go.Shelf.Ren := ⟨fun | 171 => 39 | 243 => 88 | 246 => 116 | 283 => 151 | 284 => 152 | 285 => 153 | 286 => 154 | 129 => 150 | 317 => 181 | 318 => 182 | 319 => 183 | 320 => 184 | 337 => 196 | 338 => 197 | n => n, fun | 3 => 3 | 9 => 9 | 2 => 2 | 4 => 4 | 171 => 183 | 0 => 0 | 53 => 102 | 37 => 100 | 5 => 5 | 173 => 185 | 212 => 214 | 51 => 133 | 20 => 20 | 213 => 215 | 46 => 139 | 232 => 236 | 233 => 237 | n => n, fun | 17 => 1 | 18 => 6 | 19 => 7 | n => n⟩
theorem Tryz.laysM171 : Go.Proofs.LaysM.n171 Tryz.prog Tryz.laysM171_ren := {
  mixed := by kernel_rfl
  f129 := Tryz.func150.trans (congrArg some (by kernel_rfl))
  f171 := Tryz.func39.trans (congrArg some (by kernel_rfl))
  f243 := Tryz.func88.trans (congrArg some (by kernel_rfl))
  f246 := Tryz.func116.trans (congrArg some (by kernel_rfl))
  f283 := Tryz.func151.trans (congrArg some (by kernel_rfl))
  f284 := Tryz.func152.trans (congrArg some (by kernel_rfl))
  f285 := Tryz.func153.trans (congrArg some (by kernel_rfl))
  f286 := Tryz.func154.trans (congrArg some (by kernel_rfl))
  f317 := Tryz.func181.trans (congrArg some (by kernel_rfl))
  f318 := Tryz.func182.trans (congrArg some (by kernel_rfl))
  f319 := Tryz.func183.trans (congrArg some (by kernel_rfl))
  f320 := Tryz.func184.trans (congrArg some (by kernel_rfl))
  f337 := Tryz.func196.trans (congrArg some (by kernel_rfl))
  f338 := Tryz.func197.trans (congrArg some (by kernel_rfl))
  t0 := Tryz.underlying0
  a0 := Tryz.isAgg0
  z0 := Tryz.sizeOf0
  v0 := Tryz.zeroValue0
  t2 := Tryz.underlying2
  a2 := Tryz.isAgg2
  z2 := Tryz.sizeOf2
  v2 := Tryz.zeroValue2
  t3 := Tryz.underlying3
  a3 := Tryz.isAgg3
  z3 := Tryz.sizeOf3
  v3 := Tryz.zeroValue3
  t4 := Tryz.underlying4
  a4 := Tryz.isAgg4
  z4 := Tryz.sizeOf4
  v4 := Tryz.zeroValue4
  t5 := Tryz.underlying5
  a5 := Tryz.isAgg5
  z5 := Tryz.sizeOf5
  v5 := Tryz.zeroValue5
  t9 := Tryz.underlying9
  a9 := Tryz.isAgg9
  z9 := Tryz.sizeOf9
  v9 := Tryz.zeroValue9
  t20 := Tryz.underlying20
  a20 := Tryz.isAgg20
  z20 := Tryz.sizeOf20
  v20 := Tryz.zeroValue20
  t37 := Tryz.underlying100
  a37 := Tryz.isAgg100
  z37 := Tryz.sizeOf100
  v37 := Tryz.zeroValue100
  t46 := Tryz.underlying139
  a46 := Tryz.isAgg139
  z46 := Tryz.sizeOf139
  v46 := Tryz.zeroValue139
  t51 := Tryz.underlying133
  a51 := Tryz.isAgg133
  z51 := Tryz.sizeOf133
  v51 := Tryz.zeroValue133
  t53 := Tryz.underlying102
  a53 := Tryz.isAgg102
  z53 := Tryz.sizeOf102
  v53 := Tryz.zeroValue102
  t171 := Tryz.underlying183
  a171 := Tryz.isAgg183
  z171 := Tryz.sizeOf183
  v171 := Tryz.zeroValue183
  t173 := Tryz.underlying185
  a173 := Tryz.isAgg185
  z173 := Tryz.sizeOf185
  v173 := Tryz.zeroValue185
  t212 := Tryz.underlying214
  a212 := Tryz.isAgg214
  z212 := Tryz.sizeOf214
  v212 := Tryz.zeroValue214
  t213 := Tryz.underlying215
  a213 := Tryz.isAgg215
  z213 := Tryz.sizeOf215
  t232 := Tryz.underlying236
  a232 := Tryz.isAgg236
  z232 := Tryz.sizeOf236
  v232 := Tryz.zeroValue236
  t233 := Tryz.underlying237
  a233 := Tryz.isAgg237
  z233 := Tryz.sizeOf237
  v233 := Tryz.zeroValue237
  g17 := by kernel_rfl
  g18 := by kernel_rfl
  g19 := by kernel_rfl
  i0 := by kernel_rfl
  i2 := by kernel_rfl
  i3 := by kernel_rfl
  i4 := by kernel_rfl
  i5 := by kernel_rfl
  i9 := by kernel_rfl
  i20 := by kernel_rfl
  i37 := by kernel_rfl
  i46 := by kernel_rfl
  i51 := by kernel_rfl
  i53 := by kernel_rfl
  i171 := by kernel_rfl
  i173 := by kernel_rfl
  i212 := by kernel_rfl
  i232 := by kernel_rfl
  i233 := by kernel_rfl
  m17 := by kernel_rfl
  m18 := by kernel_rfl
  m19 := by kernel_rfl }
open Go.RowKit Go.Sort Go.Lib in
theorem Tryz.strconv_Itoa (n : Int) (h0 : -9223372036854775808 ≤ n) (h1 : n ≤ 9223372036854775807) (w : World) (htab : Lib.TabIs Tryz.prog w "internal/strconv.uint64pow10" .u64 Lib.pow10Tab) :
    Calls Tryz.prog 39 #[.int .i64 n] w fun e w' => e = .returned (.string ⟨(Lib.itoa n).toArray⟩) ∧ ∃ k os, w' = grow (w.drewN k) os := Any.strconv_Itoa Tryz.laysM171 n h0 h1 w htab
def Tryz.laysC172_ren : Go.Shelf.Ren := ⟨fun | 172 => 110 | 244 => 138 | 245 => 139 | 247 => 170 | 279 => 171 | 280 => 172 | 281 => 173 | 282 => 174 | 287 => 192 | 316 => 193 | 171 => 39 | 205 => 194 | 321 => 202 | 322 => 203 | 243 => 88 | 246 => 116 | 283 => 151 | 284 => 152 | 285 => 153 | 286 => 154 | 129 => 150 | 317 => 181 | 318 => 182 | 319 => 183 | 320 => 184 | 337 => 196 | 338 => 197 | n => n, fun | 9 => 9 | 3 => 3 | 75 => 125 | 76 => 126 | 4 => 4 | 5 => 5 | 167 => 200 | 37 => 100 | 0 => 0 | 85 => 201 | 2 => 2 | 168 => 203 | 53 => 102 | 175 => 218 | 46 => 139 | 210 => 221 | 127 => 151 | 145 => 235 | 143 => 233 | 21 => 21 | 171 => 183 | 173 => 185 | 212 => 214 | 51 => 133 | 20 => 20 | 213 => 215 | 232 => 236 | 233 => 237 | 80 => 119 | n => n, fun | 15 => 2 | 16 => 3 | 17 => 1 | 18 => 6 | 19 => 7 | n => n⟩
theorem Tryz.laysC172 : Go.Proofs.LaysC.n172 Tryz.prog Tryz.laysC172_ren := {
  mixed := by kernel_rfl
  f129 := Tryz.func150.trans (congrArg some (by kernel_rfl))
  f171 := Tryz.func39.trans (congrArg some (by kernel_rfl))
  f172 := Tryz.func110.trans (congrArg some (by kernel_rfl))
  f205 := Tryz.func194.trans (congrArg some (by kernel_rfl))
  f243 := Tryz.func88.trans (congrArg some (by kernel_rfl))
  f244 := Tryz.func138.trans (congrArg some (by kernel_rfl))
  f245 := Tryz.func139.trans (congrArg some (by kernel_rfl))
  f246 := Tryz.func116.trans (congrArg some (by kernel_rfl))
  f247 := Tryz.func170.trans (congrArg some (by kernel_rfl))
  f279 := Tryz.func171.trans (congrArg some (by kernel_rfl))
  f280 := Tryz.func172.trans (congrArg some (by kernel_rfl))
  f281 := Tryz.func173.trans (congrArg some (by kernel_rfl))
  f282 := Tryz.func174.trans (congrArg some (by kernel_rfl))
  f283 := Tryz.func151.trans (congrArg some (by kernel_rfl))
  f284 := Tryz.func152.trans (congrArg some (by kernel_rfl))
  f285 := Tryz.func153.trans (congrArg some (by kernel_rfl))
  f286 := Tryz.func154.trans (congrArg some (by kernel_rfl))
  f287 := Tryz.func192.trans (congrArg some (by kernel_rfl))
  f316 := Tryz.func193.trans (congrArg some (by kernel_rfl))
  f317 := Tryz.func181.trans (congrArg some (by kernel_rfl))
  f318 := Tryz.func182.trans (congrArg some (by kernel_rfl))
  f319 := Tryz.func183.trans (congrArg some (by kernel_rfl))
  f320 := Tryz.func184.trans (congrArg some (by kernel_rfl))
  f321 := Tryz.func202.trans (congrArg some (by kernel_rfl))
  f322 := Tryz.func203.trans (congrArg some (by kernel_rfl))
  f337 := Tryz.func196.trans (congrArg some (by kernel_rfl))
  f338 := Tryz.func197.trans (congrArg some (by kernel_rfl))
  t0 := Tryz.underlying0
  a0 := Tryz.isAgg0
  z0 := Tryz.sizeOf0
  v0 := Tryz.zeroValue0
  t2 := Tryz.underlying2
  a2 := Tryz.isAgg2
  z2 := Tryz.sizeOf2
  v2 := Tryz.zeroValue2
  t3 := Tryz.underlying3
  a3 := Tryz.isAgg3
  z3 := Tryz.sizeOf3
  v3 := Tryz.zeroValue3
  t4 := Tryz.underlying4
  a4 := Tryz.isAgg4
  z4 := Tryz.sizeOf4
  v4 := Tryz.zeroValue4
  t5 := Tryz.underlying5
  a5 := Tryz.isAgg5
  z5 := Tryz.sizeOf5
  v5 := Tryz.zeroValue5
  t9 := Tryz.underlying9
  a9 := Tryz.isAgg9
  z9 := Tryz.sizeOf9
  v9 := Tryz.zeroValue9
  t20 := Tryz.underlying20
  a20 := Tryz.isAgg20
  z20 := Tryz.sizeOf20
  v20 := Tryz.zeroValue20
  t21 := Tryz.underlying21
  a21 := Tryz.isAgg21
  z21 := Tryz.sizeOf21
  v21 := Tryz.zeroValue21
  t37 := Tryz.underlying100
  a37 := Tryz.isAgg100
  z37 := Tryz.sizeOf100
  v37 := Tryz.zeroValue100
  t46 := Tryz.underlying139
  a46 := Tryz.isAgg139
  z46 := Tryz.sizeOf139
  v46 := Tryz.zeroValue139
  t51 := Tryz.underlying133
  a51 := Tryz.isAgg133
  z51 := Tryz.sizeOf133
  v51 := Tryz.zeroValue133
  t53 := Tryz.underlying102
  a53 := Tryz.isAgg102
  z53 := Tryz.sizeOf102
  v53 := Tryz.zeroValue102
  t75 := Tryz.underlying125
  a75 := Tryz.isAgg125
  z75 := Tryz.sizeOf125
  v75 := Tryz.zeroValue125
  t76 := Tryz.underlying126
  a76 := Tryz.isAgg126
  z76 := Tryz.sizeOf126
  v76 := Tryz.zeroValue126
  t85 := Tryz.underlying201
  a85 := Tryz.isAgg201
  z85 := Tryz.sizeOf201
  v85 := Tryz.zeroValue201
  t127 := Tryz.underlying151
  a127 := Tryz.isAgg151
  z127 := Tryz.sizeOf151
  v127 := Tryz.zeroValue151
  t143 := Tryz.underlying233
  a143 := Tryz.isAgg233
  z143 := Tryz.sizeOf233
  v143 := Tryz.zeroValue233
  t145 := Tryz.underlying235
  a145 := Tryz.isAgg235
  z145 := Tryz.sizeOf235
  v145 := Tryz.zeroValue235
  t167 := Tryz.underlying200
  a167 := Tryz.isAgg200
  z167 := Tryz.sizeOf200
  v167 := Tryz.zeroValue200
  t168 := Tryz.underlying203
  a168 := Tryz.isAgg203
  z168 := Tryz.sizeOf203
  v168 := Tryz.zeroValue203
  t171 := Tryz.underlying183
  a171 := Tryz.isAgg183
  z171 := Tryz.sizeOf183
  v171 := Tryz.zeroValue183
  t173 := Tryz.underlying185
  a173 := Tryz.isAgg185
  z173 := Tryz.sizeOf185
  v173 := Tryz.zeroValue185
  t175 := Tryz.underlying218
  a175 := Tryz.isAgg218
  z175 := Tryz.sizeOf218
  v175 := Tryz.zeroValue218
  t210 := Tryz.underlying221
  a210 := Tryz.isAgg221
  z210 := Tryz.sizeOf221
  v210 := Tryz.zeroValue221
  t212 := Tryz.underlying214
  a212 := Tryz.isAgg214
  z212 := Tryz.sizeOf214
  v212 := Tryz.zeroValue214
  t213 := Tryz.underlying215
  a213 := Tryz.isAgg215
  z213 := Tryz.sizeOf215
  t232 := Tryz.underlying236
  a232 := Tryz.isAgg236
  z232 := Tryz.sizeOf236
  v232 := Tryz.zeroValue236
  t233 := Tryz.underlying237
  a233 := Tryz.isAgg237
  z233 := Tryz.sizeOf237
  v233 := Tryz.zeroValue237
  g15 := by kernel_rfl
  g16 := by kernel_rfl
  g17 := by kernel_rfl
  g18 := by kernel_rfl
  g19 := by kernel_rfl
  t80 := Tryz.underlying119
  a80 := Tryz.isAgg119
  z80 := Tryz.sizeOf119
  v80 := Tryz.zeroValue119
  i0 := by kernel_rfl
  i2 := by kernel_rfl
  i3 := by kernel_rfl
  i4 := by kernel_rfl
  i5 := by kernel_rfl
  i9 := by kernel_rfl
  i20 := by kernel_rfl
  i21 := by kernel_rfl
  i37 := by kernel_rfl
  i46 := by kernel_rfl
  i51 := by kernel_rfl
  i53 := by kernel_rfl
  i75 := by kernel_rfl
  i76 := by kernel_rfl
  i80 := by kernel_rfl
  i85 := by kernel_rfl
  i127 := by kernel_rfl
  i143 := by kernel_rfl
  i145 := by kernel_rfl
  i167 := by kernel_rfl
  i168 := by kernel_rfl
  i171 := by kernel_rfl
  i173 := by kernel_rfl
  i175 := by kernel_rfl
  i210 := by kernel_rfl
  i212 := by kernel_rfl
  i232 := by kernel_rfl
  i233 := by kernel_rfl
  m15 := by kernel_rfl
  m16 := by kernel_rfl
  m17 := by kernel_rfl
  m18 := by kernel_rfl
  m19 := by kernel_rfl
  c0 := by kernel_rfl
  c2 := by kernel_rfl
  c3 := by kernel_rfl
  c4 := by kernel_rfl
  c5 := by kernel_rfl
  c9 := by kernel_rfl
  c20 := by kernel_rfl
  c21 := by kernel_rfl
  c37 := by kernel_rfl
  c46 := by kernel_rfl
  c51 := by kernel_rfl
  c53 := by kernel_rfl
  c75 := by kernel_rfl
  c76 := by kernel_rfl
  c80 := by kernel_rfl
  c85 := by kernel_rfl
  c127 := by kernel_rfl
  c143 := by kernel_rfl
  c145 := by kernel_rfl
  c167 := by kernel_rfl
  c168 := by kernel_rfl
  c171 := by kernel_rfl
  c173 := by kernel_rfl
  c175 := by kernel_rfl
  c210 := by kernel_rfl
  c212 := by kernel_rfl
  c213 := by kernel_rfl
  c232 := by kernel_rfl
  c233 := by kernel_rfl }
open Go.RowKit in
theorem Tryz.strconv_Atoi_ok (s : ByteArray) (hmax : s.size ≤ 9223372036854775806) (v : Int) (h : Lib.atoiAll s.data.toList = .ok v) (w : World) :
    Calls Tryz.prog 110 #[.string s] w fun e w' => e = .returned (.tuple #[.int .i64 v, .nilIface]) ∧ (w' = w ∨ ∃ t, w' = Lib.bytesWorld w 5 t) := Any.strconv_Atoi_ok Tryz.laysC172 s hmax v h w
def Tryz.lays145_ren : Go.Shelf.Ren := ⟨fun | 145 => 106 | 220 => 130 | 219 => 165 | 217 => 185 | 225 => 186 | 224 => 187 | 267 => 188 | 266 => 198 | 314 => 199 | n => n, fun | 9 => 9 | 4 => 4 | 59 => 143 | 3 => 3 | 5 => 5 | 46 => 139 | 146 => 192 | 51 => 133 | n => n, fun | 1 => 0 | n => n⟩
theorem Tryz.lays145 : Go.Proofs.Lays.n145 Tryz.prog Tryz.lays145_ren := {
  mixed := by kernel_rfl
  f145 := Tryz.func106.trans (congrArg some (by kernel_rfl))
  f217 := Tryz.func185.trans (congrArg some (by kernel_rfl))
  f219 := Tryz.func165.trans (congrArg some (by kernel_rfl))
  f220 := Tryz.func130.trans (congrArg some (by kernel_rfl))
  f224 := Tryz.func187.trans (congrArg some (by kernel_rfl))
  f225 := Tryz.func186.trans (congrArg some (by kernel_rfl))
  f266 := Tryz.func198.trans (congrArg some (by kernel_rfl))
  f267 := Tryz.func188.trans (congrArg some (by kernel_rfl))
  f314 := Tryz.func199.trans (congrArg some (by kernel_rfl))
  t3 := Tryz.underlying3
  a3 := Tryz.isAgg3
  z3 := Tryz.sizeOf3
  v3 := Tryz.zeroValue3
  t4 := Tryz.underlying4
  a4 := Tryz.isAgg4
  z4 := Tryz.sizeOf4
  v4 := Tryz.zeroValue4
  t5 := Tryz.underlying5
  a5 := Tryz.isAgg5
  z5 := Tryz.sizeOf5
  v5 := Tryz.zeroValue5
  t9 := Tryz.underlying9
  a9 := Tryz.isAgg9
  z9 := Tryz.sizeOf9
  v9 := Tryz.zeroValue9
  t46 := Tryz.underlying139
  a46 := Tryz.isAgg139
  z46 := Tryz.sizeOf139
  v46 := Tryz.zeroValue139
  t51 := Tryz.underlying133
  a51 := Tryz.isAgg133
  z51 := Tryz.sizeOf133
  v51 := Tryz.zeroValue133
  t59 := Tryz.underlying143
  a59 := Tryz.isAgg143
  z59 := Tryz.sizeOf143
  v59 := Tryz.zeroValue143
  t146 := Tryz.underlying192
  a146 := Tryz.isAgg192
  z146 := Tryz.sizeOf192
  v146 := Tryz.zeroValue192
  g1 := by kernel_rfl }
open Go.RowKit Go.Lib in
theorem Tryz.strings_Cut (s sep : ByteArray) (m : Int) (w : World) (hs : s.size < 4294967281) (hm : w.cell? ⟨0, 0, none⟩ = some (.int .i64 m)) :
    Calls Tryz.prog 106 #[.string s, .string sep] w fun e w' => e = .returned (.tuple #[.string ⟨(Lib.cut s.data.toList sep.data.toList).1.toArray⟩, .string ⟨(Lib.cut s.data.toList sep.data.toList).2.1.toArray⟩, .bool (Lib.cut s.data.toList sep.data.toList).2.2]) ∧ ∃ n, w' = w.drewN n := Any.strings_Cut Tryz.lays145 s sep m w hs hm
def Tryz.laysM219_ren : Go.Shelf.Ren := ⟨fun | 219 => 165 | 217 => 185 | 225 => 186 | 224 => 187 | 267 => 188 | 266 => 198 | 314 => 199 | n => n, fun | 9 => 9 | 3 => 3 | 4 => 4 | 5 => 5 | 46 => 139 | 146 => 192 | 51 => 133 | n => n, fun | 1 => 0 | n => n⟩
theorem Tryz.laysM219 : Go.Proofs.LaysM.n219 Tryz.prog Tryz.laysM219_ren := {
  mixed := by kernel_rfl
  f217 := Tryz.func185.trans (congrArg some (by kernel_rfl))
  f219 := Tryz.func165.trans (congrArg some (by kernel_rfl))
  f224 := Tryz.func187.trans (congrArg some (by kernel_rfl))
  f225 := Tryz.func186.trans (congrArg some (by kernel_rfl))
  f266 := Tryz.func198.trans (congrArg some (by kernel_rfl))
  f267 := Tryz.func188.trans (congrArg some (by kernel_rfl))
  f314 := Tryz.func199.trans (congrArg some (by kernel_rfl))
  t3 := Tryz.underlying3
  a3 := Tryz.isAgg3
  z3 := Tryz.sizeOf3
  v3 := Tryz.zeroValue3
  t4 := Tryz.underlying4
  a4 := Tryz.isAgg4
  z4 := Tryz.sizeOf4
  v4 := Tryz.zeroValue4
  t5 := Tryz.underlying5
  a5 := Tryz.isAgg5
  z5 := Tryz.sizeOf5
  v5 := Tryz.zeroValue5
  t9 := Tryz.underlying9
  a9 := Tryz.isAgg9
  z9 := Tryz.sizeOf9
  v9 := Tryz.zeroValue9
  t46 := Tryz.underlying139
  a46 := Tryz.isAgg139
  z46 := Tryz.sizeOf139
  v46 := Tryz.zeroValue139
  t51 := Tryz.underlying133
  a51 := Tryz.isAgg133
  z51 := Tryz.sizeOf133
  v51 := Tryz.zeroValue133
  t146 := Tryz.underlying192
  a146 := Tryz.isAgg192
  z146 := Tryz.sizeOf192
  v146 := Tryz.zeroValue192
  g1 := by kernel_rfl
  i3 := by kernel_rfl
  i4 := by kernel_rfl
  i5 := by kernel_rfl
  i9 := by kernel_rfl
  i46 := by kernel_rfl
  i51 := by kernel_rfl
  i146 := by kernel_rfl
  m1 := by kernel_rfl
  s1_3 := fun w h => Go.Proofs.cell_of_shapedOpen_int (zero := #[.int .i64 0]) (t := 3) h (of_decide_eq_true (by kernel_rfl)) (by kernel_rfl) rfl (by kernel_rfl) (by kernel_rfl) Tryz.underlying3 }
def Tryz.laysSlM6_f86_ren : Go.Shelf.Ren := ⟨fun | 6 => 86 | 8 => 115 | 9 => 114 | 19 => 149 | 20 => 150 | 21 => 140 | 22 => 141 | 23 => 142 | 24 => 143 | 25 => 144 | 26 => 145 | 27 => 146 | 28 => 147 | 29 => 148 | 36 => 175 | 31 => 176 | 32 => 177 | 37 => 178 | 38 => 179 | 39 => 180 | 41 => 195 | n => n, fun | 27 => 41 | 29 => 9 | 3 => 3 | 32 => 139 | 26 => 41 | 0 => 0 | 44 => 133 | 46 => 102 | 4 => 4 | 36 => 176 | 35 => 175 | 41 => 98 | 5 => 5 | 9 => 9 | 53 => 206 | 57 => 210 | 63 => 223 | 64 => 224 | n => n, fun | n => n⟩
theorem Tryz.laysSlM6_f86 : Go.Proofs.SlLaysM.n6 Tryz.prog Tryz.laysSlM6_f86_ren := {
  mixed := by kernel_rfl
  f6 := ⟨Tryz.f86.name, by decide, Tryz.func86.trans (congrArg some (by kernel_rfl))⟩
  f8 := Tryz.func115.trans (congrArg some (by kernel_rfl))
  f9 := ⟨Tryz.f114.name, by decide, Tryz.func114.trans (congrArg some (by kernel_rfl))⟩
  f19 := Tryz.func149.trans (congrArg some (by kernel_rfl))
  f20 := Tryz.func150.trans (congrArg some (by kernel_rfl))
  f21 := ⟨Tryz.f140.name, by decide, Tryz.func140.trans (congrArg some (by kernel_rfl))⟩
  f22 := ⟨Tryz.f141.name, by decide, Tryz.func141.trans (congrArg some (by kernel_rfl))⟩
  f23 := ⟨Tryz.f142.name, by decide, Tryz.func142.trans (congrArg some (by kernel_rfl))⟩
  f24 := ⟨Tryz.f143.name, by decide, Tryz.func143.trans (congrArg some (by kernel_rfl))⟩
  f25 := ⟨Tryz.f144.name, by decide, Tryz.func144.trans (congrArg some (by kernel_rfl))⟩
  f26 := ⟨Tryz.f145.name, by decide, Tryz.func145.trans (congrArg some (by kernel_rfl))⟩
  f27 := ⟨Tryz.f146.name, by decide, Tryz.func146.trans (congrArg some (by kernel_rfl))⟩
  f28 := ⟨Tryz.f147.name, by decide, Tryz.func147.trans (congrArg some (by kernel_rfl))⟩
  f29 := ⟨Tryz.f148.name, by decide, Tryz.func148.trans (congrArg some (by kernel_rfl))⟩
  f31 := Tryz.func176.trans (congrArg some (by kernel_rfl))
  f32 := Tryz.func177.trans (congrArg some (by kernel_rfl))
  f36 := ⟨Tryz.f175.name, by decide, Tryz.func175.trans (congrArg some (by kernel_rfl))⟩
  f37 := ⟨Tryz.f178.name, by decide, Tryz.func178.trans (congrArg some (by kernel_rfl))⟩
  f38 := ⟨Tryz.f179.name, by decide, Tryz.func179.trans (congrArg some (by kernel_rfl))⟩
  f39 := ⟨Tryz.f180.name, by decide, Tryz.func180.trans (congrArg some (by kernel_rfl))⟩
  f41 := ⟨Tryz.f195.name, by decide, Tryz.func195.trans (congrArg some (by kernel_rfl))⟩
  t0 := Tryz.underlying0
  a0 := Tryz.isAgg0
  z0 := Tryz.sizeOf0
  v0 := Tryz.zeroValue0
  t3 := Tryz.underlying3
  a3 := Tryz.isAgg3
  z3 := Tryz.sizeOf3
  v3 := Tryz.zeroValue3
  t4 := Tryz.underlying4
  a4 := Tryz.isAgg4
  z4 := Tryz.sizeOf4
  v4 := Tryz.zeroValue4
  t5 := Tryz.underlying5
  a5 := Tryz.isAgg5
  z5 := Tryz.sizeOf5
  v5 := Tryz.zeroValue5
  t9 := Tryz.underlying9
  a9 := Tryz.isAgg9
  z9 := Tryz.sizeOf9
  v9 := Tryz.zeroValue9
  t26 := Tryz.underlying41
  a26 := Tryz.isAgg41
  z26 := Tryz.sizeOf41
  v26 := Tryz.zeroValue41
  t27 := Tryz.underlying41
  a27 := Tryz.isAgg41
  z27 := Tryz.sizeOf41
  v27 := Tryz.zeroValue41
  t29 := Tryz.underlying9
  a29 := Tryz.isAgg9
  z29 := Tryz.sizeOf9
  v29 := Tryz.zeroValue9
  t32 := Tryz.underlying139
  a32 := Tryz.isAgg139
  z32 := Tryz.sizeOf139
  v32 := Tryz.zeroValue139
  t35 := Tryz.underlying175
  a35 := Tryz.isAgg175
  z35 := Tryz.sizeOf175
  v35 := Tryz.zeroValue175
  t36 := Tryz.underlying176
  a36 := Tryz.isAgg176
  z36 := Tryz.sizeOf176
  v36 := Tryz.zeroValue176
  t41 := Tryz.underlying98
  a41 := Tryz.isAgg98
  z41 := Tryz.sizeOf98
  v41 := Tryz.zeroValue98
  t44 := Tryz.underlying133
  a44 := Tryz.isAgg133
  z44 := Tryz.sizeOf133
  v44 := Tryz.zeroValue133
  t46 := Tryz.underlying102
  a46 := Tryz.isAgg102
  z46 := Tryz.sizeOf102
  v46 := Tryz.zeroValue102
  t53 := Tryz.underlying206
  a53 := Tryz.isAgg206
  z53 := Tryz.sizeOf206
  v53 := Tryz.zeroValue206
  t57 := Tryz.underlying210
  a57 := Tryz.isAgg210
  z57 := Tryz.sizeOf210
  v57 := Tryz.zeroValue210
  t63 := Tryz.underlying223
  a63 := Tryz.isAgg223
  z63 := Tryz.sizeOf223
  v63 := Tryz.zeroValue223
  t64 := Tryz.underlying224
  a64 := Tryz.isAgg224
  z64 := Tryz.sizeOf224
  v64 := Tryz.zeroValue224 }
open Go.Sort Go.RowKit in
theorem Tryz.slices_Sort_string (blk off cap : Nat) (ss : List (List UInt8)) (w : World) (hH : Holds encStr w blk off ss.toArray) (hblk : blk < w.heap.size) (hsz : ss.length < 4611686018427387904) :
    Calls Tryz.prog 86 #[.slice (some ⟨blk, off, none⟩) ss.length cap] w fun e w' =>
      e = .returned (.tuple #[]) ∧ ∃ n os, w' = grow (putRow encStr (Sort.ahead w n) blk off (ss.mergeSort fun x y => decide (x ≤ y)).toArray) os := AnyM.slices_Sort_string Tryz.laysSlM6_f86 blk off cap ss w hH hblk hsz
open Go.RowKit Go.Sort in
theorem Tryz.slices_Sort_string_none (p : Option Addr) (cap : Nat) (w : World) :
    Calls Tryz.prog 86 #[.slice p 0 cap] w fun e w' => e = .returned (.tuple #[]) ∧ w' = w := AnyM.slices_Sort_string_none Tryz.laysSlM6_f86 p cap w
end Go.Proofs
namespace Go.Proofs.YtmkomlbiaebddaaGreatDoor
open Go Go.RowKit
section
variable {P : Program} {ops : Array Oper} {n : Nat} {Φ : Kinds} {w0 : World}
theorem region_mainJ {Q : Exit → Act → World → Prop} {a0 : Act} (S : ExtS ops n) (hall : ∀ vs, ∃ C T, TRun P ops n Φ w0 a0 vs C T)
    (hend : ∀ listed a w vs C T, Mid P ops n Φ w0 a0 listed a w vs C T → (∀ k, k < n → listed.getD k false = false → floats ops n k = true) → wpAny P .any ops (OnlyNormal Q) (unlisted n listed + (ops.size - n)) listed a w) :
    ∀ (m : Nat) (listed : Array Bool) (a : Act) (w : World) (vs : Nat → Gv) (C : Nat → Value) (T : Nat → Act), unlisted n listed = m → Mid P ops n Φ w0 a0 listed a w vs C T →
      wpAny P .any ops (OnlyNormal Q) (m + (ops.size - n)) listed a w
  | 0, listed, a, w, vs, C, T, hm, M => by
    have := hend _ _ _ _ _ _ M fun k hk hkl => by rw [all_listed hm k hk] at hkl; cases hkl
    rwa [hm] at this
  | m + 1, listed, a, w, vs, C, T, hm, M => by
    have hsz : ∀ i, i < n → i < listed.size := fun i hi => by rw [M.size]; exact Nat.lt_of_lt_of_le hi S.le
    have hex : ∃ i, i < n ∧ listed.getD i false = false := by
      have : ¬ unlisted n listed = 0 := by omega
      unfold unlisted at this
      rw [List.countP_eq_zero] at this
      have h2 : ∃ i, ¬ (i ∈ List.range n → ¬ ((!listed.getD i false) = true)) := Classical.not_forall.1 this
      obtain ⟨i, h⟩ := h2
      by_cases hi : i < n
      · refine ⟨i, hi, ?_⟩
        cases hp : listed.getD i false with
        | false => rfl
        | true => exact absurd (fun _ => by rw [hp]; simp) h
      · exact absurd (fun hmem => absurd (List.mem_range.1 hmem) hi) h
    obtain ⟨i, hi, hu, hleast⟩ := least_unlisted n hex
    have hirdy : ∀ oi, ops[i]? = some oi → i ∈ Region.ready .any ops listed := fun oi hoi =>
      mem_ready.2 ⟨by rw [getD_true_of (hsz i hi)]; exact hu, oi, hoi, fun e he hb => hleast _ (S.deps i oi hi hoi _ (mem_depsOf.2 ⟨e, he, hb, rfl⟩))⟩
    obtain ⟨oi, hoi, _, _⟩ := M.run.step i hi
    have hri := hirdy oi hoi
    rw [show m + 1 + (ops.size - n) = (m + (ops.size - n)) + 1 by omega]
    -- is there one that does not float, and is not listed?
    by_cases hnf : ∃ k, k < n ∧ listed.getD k false = false ∧ floats ops n k = false
    · refine ⟨fun h0 => (by rw [h0] at hri; cases hri), fun j hj => ?_⟩
      have hjn : j < n := by
        rcases Nat.lt_or_ge j n with h | h
        · exact h
        · exfalso
          obtain ⟨_, oj, hoj, hdone⟩ := mem_ready.1 hj
          obtain ⟨k, hk, hku, hkf⟩ := hnf
          rcases Nat.eq_or_lt_of_le h with h | h
          · subst h
            unfold floats at hkf
            simp only [hoj, Bool.not_eq_false', List.contains_eq_mem, decide_eq_true_eq] at hkf
            have hall : ∀ q ∈ anc ops n (depsOf oj), listed.getD q false = true :=
              anc_all (p := fun q => listed.getD q false = true) (N := n) (fun q oq hqj hq hoq r hr => M.closed q oq hqj hq hoq r hr) n _ (Nat.le_refl _) (fun q hq => by
                obtain ⟨e, he, hb, hon⟩ := mem_depsOf.1 hq
                rw [← hon]; exact hdone e he hb)
            have := hall k hkf
            rw [hku] at this; cases this
          · have hj1 := S.chain j oj h hoj
            obtain ⟨e, he, hb, hon⟩ := mem_depsOf.1 hj1
            have := hdone e he hb
            rw [hon, M.tail (j - 1) (by omega) (by have := (Array.getElem?_eq_some_iff.1 hoj).1; omega)] at this; cases this
      refine M.comes S hall hjn hj fun a' w' vs' C' T' M' => ?_
      have hju : listed.getD j false = false := by rw [← getD_true_of (hsz j hjn)]; exact (mem_ready.1 hj).1
      have := unlisted_set hjn (hsz j hjn) hju
      exact region_mainJ S hall hend m _ _ _ _ _ _ (by omega) M'
    · have := hend _ _ _ _ _ _ M fun k hk hkl => by
        cases h : floats ops n k with
        | true => rfl
        | false => exact absurd ⟨k, hk, hkl, h⟩ hnf
      rw [hm] at this
      rwa [show m + 1 + (ops.size - n) = (m + (ops.size - n)) + 1 by omega] at this
def wpJ (P : Program) (ops : Array Oper) (Q : Exit → Act → World → Prop) (J : World → Prop) : Nat → List Oper → Act → World → Prop
  | 0, l, a, w => wpList P ops Q l a w
  | _ + 1, [], a, w => Q .normal a w
  | p + 1, o :: rest, a, w => Region.wanted o (yielded ops a.tmps) = true ∧ outcome P (fun v w' => J w' ∧ wpJ P ops Q J p rest (a.put o.dst v) w') ((execOp a.eval o).run P w)
def allDone (ops : Array Oper) (n t : Nat) : Bool := match ops[t]? with
  | some o => (List.range n).all fun i => (anc ops t (depsOf o)).contains i
  | none => true
structure LeftJ (P : Program) (ops : Array Oper) (n : Nat) (J : World → Prop) (t : Nat) (listed : Array Bool) (a b : Act) (C : Nat → Value) : Prop where
  size : listed.size = ops.size
  fl : ∀ i, i < n → listed.getD i false = false → floats ops n i = true
  tu : ∀ j, t ≤ j → j < ops.size → listed.getD j false = false
  nt : n ≤ t ∧ t ≤ ops.size
  seq : Region.seqB .any ops (ops.size - t) t ((Array.range ops.size).map fun j => decide (j < t)) = true
  tl : ∀ j, n ≤ j → j < t → listed.getD j false = true
  ye : ∀ i oi, i < n → listed.getD i false = false → ops[i]? = some oi → (Region.wanted oi (yielded ops b.tmps) = true ∧ ∀ w, J w → (execOp b.eval oi).run P w = .ok (.value (C i)) w) ∨ (Region.wanted oi (yielded ops b.tmps) = false ∧ C i = undef)
  defers : a.defers = b.defers
  other : ∀ s, (∀ i oi, i < n → listed.getD i false = false → ops[i]? = some oi → oi.dst ≠ some s) → a.tmps[s]? = b.tmps[s]?
  at_ : ∀ i oi s, i < n → listed.getD i false = false → ops[i]? = some oi → oi.dst = some s → b.tmps[s]? = (a.tmps[s]?).map fun _ => C i
  cl : ∀ i oi, listed.getD i false = true → ops[i]? = some oi → ∀ j ∈ depsOf oi, listed.getD j false = true
theorem left_mainJ {Q : Exit → Act → World → Prop} {J : World → Prop} {C : Nat → Value} {l : List Oper} (hl : ∀ j : Nat, l[j]? = ops[j]?) (hll : l.length = ops.size) (S : ExtS ops n) (hops : ∀ i, i < n → ∃ o, ops[i]? = some o) :
    ∀ (m p t : Nat) (listed : Array Bool) (a b : Act) (w : World), m = unlisted n listed + (ops.size - t) → LeftJ P ops n J t listed a b C → (unlisted n listed = 0 ∨ J w) → allDone ops n (t + p) = true → wpJ P ops (OnlyNormal Q) J p (l.drop t) b w → wpAny P .any ops (OnlyNormal Q) m listed a w := by
  intro m
  induction m with
  | zero =>
    intro p t listed a b w hm H hx hdn hw
    have h0 : unlisted n listed = 0 := by omega
    have ht : t = ops.size := by have := H.nt; omega
    subst ht
    have hall := all_listed h0
    have hab : a = b := by
      have h1 : a.tmps = b.tmps := Array.ext_getElem? fun s => H.other s fun i oi hi hu => by rw [hall i hi] at hu; cases hu
      cases a; cases b
      have h2 := H.defers
      simp only at h1 h2
      rw [h1, h2]
    rw [hab]
    rw [List.drop_eq_nil_of_le (by omega)] at hw
    have hw : OnlyNormal Q .normal b w := by cases p <;> exact hw
    refine ⟨?_, hw⟩
    rw [List.eq_nil_iff_forall_not_mem]
    intro j hj
    obtain ⟨hu, oj, hoj, _⟩ := mem_ready.1 hj
    have hjs := (Array.getElem?_eq_some_iff.1 hoj).1
    rw [getD_true_of (by rw [H.size]; exact hjs)] at hu
    by_cases hjn : j < n
    · rw [hall j hjn] at hu; cases hu
    · rw [H.tl j (by omega) hjs] at hu; cases hu
  | succ m ih =>
    intro p t listed a b w hm H hx hdn hw
    have hsz : ∀ i, i < ops.size → i < listed.size := fun i hi => by rw [H.size]; exact hi
    by_cases hz : unlisted n listed = 0 ∧ p = 0
    · obtain ⟨h0, rfl⟩ := hz
      have hall := all_listed h0
      have hab : a = b := by
        have h1 : a.tmps = b.tmps := Array.ext_getElem? fun s => H.other s fun i oi hi hu => by rw [hall i hi] at hu; cases hu
        cases a; cases b
        have h2 := H.defers
        simp only at h1 h2
        rw [h1, h2]
      have hlist : listed = (Array.range ops.size).map fun j => decide (j < t) := by
        apply Array.ext (by simp [H.size])
        intro i h1 h2
        have hi : i < ops.size := by rw [← H.size]; exact h1
        have e1 : listed.getD i false = listed[i] := by simp [h1]
        simp only [Array.getElem_map, Array.getElem_range]
        rw [← e1]
        by_cases hin : i < n
        · rw [hall i hin]; have := H.nt.1; simp; omega
        · by_cases hit : i < t
          · rw [H.tl i (by omega) hit]; simp [hit]
          · rw [H.tu i (by omega) hi]; simp [hit]
      have hseq := H.seq
      rw [← hlist] at hseq
      have hdl : (l.drop t).length = ops.size - t := by simp [hll]
      have hm2 : m + 1 = (l.drop t).length := by rw [hdl, hm, h0]; omega
      rw [hab, hm2]
      rw [← hdl] at hseq
      exact wpAny_of_seq (l.drop t) t listed b w (fun j => by rw [List.getElem?_drop, hl]) hseq hw
    have hns : ∀ i, i < n → i < ops.size := fun i hi => Nat.lt_of_lt_of_le hi S.le
    -- what a float's neighbours look at
    have agree : ∀ i oi, i < n → ops[i]? = some oi → (∀ j ∈ depsOf oi, listed.getD j false = true) → ∀ s ∈ oi.looksAt ops, a.tmps[s]? = b.tmps[s]? := fun i oi hi hoi hd s hs =>
      H.other s fun j oj hj hju hoj hjd => by
        have := hd j (S.look i j oi oj s hi hj hoi hoj hjd hs)
        rw [hju] at this; cases this
    have apartT : ∀ i oi j oj, i < n → listed.getD i false = false → ops[i]? = some oi → n ≤ j → ops[j]? = some oj → (∀ e ∈ oj.after, Region.binds .any e = true → listed.getD e.on false = true) → oi.apart ops oj = true := fun i oi j oj hi hiu hoi hj hoj hd =>
      Region.free_spec hoi (S.free i hi (H.fl i hi hiu)) j oj hoj (by omega) (by
        have hjs : j < ops.size := (Array.getElem?_eq_some_iff.1 hoj).1
        have : ¬ j < n := by omega
        simp [hjs, this]) (fun e he hb heq => by
        have := hd e he hb
        rw [heq, hiu] at this; cases this)
    have hne : Region.ready .any ops listed ≠ [] := by
      intro h0
      by_cases hex : ∃ i, i < n ∧ listed.getD i false = false
      · obtain ⟨i, hi, hu, hleast⟩ := least_unlisted n hex
        obtain ⟨oi, hoi⟩ := hops i hi
        have : i ∈ Region.ready .any ops listed := mem_ready.2 ⟨by rw [getD_true_of (hsz i (hns i hi))]; exact hu, oi, hoi, fun e he hb => hleast _ (S.deps i oi hi hoi _ (mem_depsOf.2 ⟨e, he, hb, rfl⟩))⟩
        rw [h0] at this; cases this
      · have hall : ∀ i, i < n → listed.getD i false = true := fun i hi => by
          cases h : listed.getD i false with
          | true => rfl
          | false => exact absurd ⟨i, hi, h⟩ hex
        have hz : unlisted n listed = 0 := by
          unfold unlisted
          rw [List.countP_eq_zero]
          intro i hi
          simp [hall i (List.mem_range.1 hi)]
        have hlist : listed = (Array.range ops.size).map fun j => decide (j < t) := by
          apply Array.ext (by simp [H.size])
          intro i h1 h2
          have hi : i < ops.size := by rw [← H.size]; exact h1
          have e1 : listed.getD i false = listed[i] := by simp [h1]
          simp only [Array.getElem_map, Array.getElem_range]
          rw [← e1]
          by_cases hin : i < n
          · rw [hall i hin]; have := H.nt.1; simp; omega
          · by_cases hit : i < t
            · rw [H.tl i (by omega) hit]; simp [hit]
            · rw [H.tu i (by omega) hi]; simp [hit]
        have hseq := H.seq
        rw [← hlist, show ops.size - t = (ops.size - t - 1) + 1 by omega] at hseq
        unfold Region.seqB at hseq
        rw [h0] at hseq
        simp at hseq
    refine ⟨fun h0 => absurd h0 hne, fun j hj => ?_⟩
    obtain ⟨hu, oj, hoj, hdone⟩ := mem_ready.1 hj
    have hjs := (Array.getElem?_eq_some_iff.1 hoj).1
    have hju : listed.getD j false = false := by rw [← getD_true_of (hsz j hjs)]; exact hu
    have hset : ∀ k, (listed.setIfInBounds j true).getD k false = true ↔ listed.getD k false = true ∨ k = j := fun k => by
      by_cases hkj : k = j
      · subst hkj; simp [hsz k hjs]
      · rw [getD_set_ne false (Ne.symm hkj)]; simp [hkj]
    have hsetf : ∀ k, (listed.setIfInBounds j true).getD k false = false → listed.getD k false = false ∧ k ≠ j := fun k hk => by
      have := mt (hset k).2 (by rw [hk]; simp)
      simp only [not_or] at this
      exact ⟨by simpa using this.1, this.2⟩
    have hdepj : ∀ k ∈ depsOf oj, listed.getD k false = true := fun k hk => by
      obtain ⟨e, he, hb, hon⟩ := mem_depsOf.1 hk
      rw [← hon]; exact hdone e he hb
    unfold wpOp
    simp only [hoj]
    by_cases hjn : j < n
    · -- a float
      have hlook := agree j oj hjn hoj hdepj
      obtain ⟨he, hwt⟩ := same_exec (fun cs b => Region.noSelect_spec S.sel j oj cs b hoj) hlook
      have hcount := unlisted_set hjn (hsz j hjs) hju
      have next : wpAny P .any ops (OnlyNormal Q) m (listed.setIfInBounds j true) (a.put oj.dst (C j)) w := by
        refine ih p t _ _ b w (by omega) ⟨by simp [H.size], fun i hi hiu => H.fl i hi (hsetf i hiu).1, fun k h1 h2 => by rw [getD_set_ne false (by have := H.nt.1; omega)]; exact H.tu k h1 h2, H.nt, H.seq,
          fun k h1 h2 => getD_set_true (H.tl k h1 h2), fun i oi hi hiu hoi => H.ye i oi hi (hsetf i hiu).1 hoi, by rw [← H.defers]; cases oj.dst <;> rfl, fun s hs => ?_, fun i oi s hi hiu hoi hds => ?_, fun i oi hiu hoi k hk => ?_⟩ (.inr (hx.resolve_left (by omega))) hdn hw
        · rw [put_look]
          by_cases hds : oj.dst = some s
          · rw [if_pos hds, H.at_ j oj s hjn hju hoj hds]
          · rw [if_neg hds]
            refine H.other s fun i oi hi hiu hoi hd => ?_
            by_cases hij : i = j
            · subst hij
              have : oi = oj := Option.some.inj (hoi.symm.trans hoj)
              subst this
              exact hds hd
            · exact hs i oi hi (by rw [getD_set_ne false (Ne.symm hij)]; exact hiu) hoi hd
        · have hij := (hsetf i hiu).2
          rw [put_look, if_neg (S.dst j i oj oi s hjn hi hoj hoi hds hij)]
          exact H.at_ i oi s hi (hsetf i hiu).1 hoi hds
        · rcases (hset i).1 hiu with h | h
          · exact getD_set_true (H.cl i oi h hoi k hk)
          · subst h
            have : oi = oj := Option.some.inj (hoi.symm.trans hoj)
            subst this
            exact getD_set_true (hdepj k hk)
      have hJ : J w := hx.resolve_left (by omega)
      rcases H.ye j oj hjn hju hoj with ⟨h1, h2⟩ | ⟨h1, h2⟩
      · rw [if_pos (by rw [hwt]; exact h1)]
        refine .inl ?_
        unfold Oper.wp
        rw [he, h2 w hJ]
        exact next
      · rw [if_neg (by rw [hwt, h1]; simp), ← h2]
        exact next
    · -- the tail's next
      have hjt : j = t := by
        rcases Nat.lt_or_ge j t with h | h
        · rw [H.tl j (by omega) h] at hju; cases hju
        · rcases Nat.eq_or_lt_of_le h with h | h
          · exact h.symm
          · exfalso
            have hj1 := S.chain j oj (by have := H.nt.1; omega) hoj
            have := hdepj _ hj1
            rw [H.tu (j - 1) (by omega) (by omega)] at this; cases this
      subst hjt
      have hget : (l.drop j) = oj :: l.drop (j + 1) := by
        have hjl : j < l.length := by omega
        rw [List.drop_eq_getElem_cons hjl]
        congr 1
        have h1 := hl j
        rw [List.getElem?_eq_getElem hjl, hoj] at h1
        exact Option.some.inj h1
      rw [hget] at hw
      cases p with
      | zero =>
        exfalso
        refine hz ⟨?_, rfl⟩
        unfold unlisted
        rw [List.countP_eq_zero]
        intro i hi
        have hin := List.mem_range.1 hi
        unfold allDone at hdn
        rw [Nat.add_zero, hoj] at hdn
        simp only [List.all_eq_true, List.mem_range, List.contains_eq_mem, decide_eq_true_eq] at hdn
        have := anc_all (p := fun q => listed.getD q false = true) (N := j) (fun q oq _ hq hoq r hr => H.cl q oq hq hoq r hr) j _ (Nat.le_refl _) (fun q hq => hdepj q hq) i (hdn i hin)
        simp only [this]; simp
      | succ p =>
      obtain ⟨hwd, hout⟩ := hw
      have hap : ∀ i oi, i < n → listed.getD i false = false → ops[i]? = some oi → oi.apart ops oj = true := fun i oi hi hiu hoi => apartT i oi j oj hi hiu hoi (by omega) hoj hdone
      have hlook : ∀ s ∈ oj.looksAt ops, a.tmps[s]? = b.tmps[s]? := fun s hs => H.other s fun i oi hi hiu hoi hd => (Oper.apart_spec (hap i oi hi hiu hoi)).1 s hd hs
      obtain ⟨he, hwt⟩ := same_exec (fun cs b => Region.noSelect_spec S.sel j oj cs b hoj) hlook
      rw [if_pos (by rw [hwt]; exact hwd)]
      have hseq' : Region.seqB .any ops (ops.size - (j + 1)) (j + 1) ((Array.range ops.size).map fun k => decide (k < j + 1)) = true := by
        have hs := H.seq
        rw [show ops.size - j = (ops.size - (j + 1)) + 1 by omega] at hs
        unfold Region.seqB at hs
        simp only [Bool.and_eq_true] at hs
        have e : (((Array.range ops.size).map fun k => decide (k < j)).setIfInBounds j true) = (Array.range ops.size).map fun k => decide (k < j + 1) := by
          apply Array.ext_getElem?
          intro k
          by_cases hkj : j = k
          · subst hkj; simp [hjs]
          · rw [Array.getElem?_setIfInBounds_ne hkj, Array.getElem?_map, Array.getElem?_map]
            by_cases hks : k < ops.size
            · simp only [Array.getElem?_range, hks, if_true, Option.map_some, Option.some.injEq, decide_eq_decide]
              omega
            · simp [Array.getElem?_range, hks]
        rw [← e]
        exact hs.2
      have keep : ∀ v, LeftJ P ops n J (j + 1) (listed.setIfInBounds j true) (a.put oj.dst v) (b.put oj.dst v) C := fun v => by
        refine ⟨by simp [H.size], fun i hi hiu => H.fl i hi (hsetf i hiu).1, fun k h1 h2 => by rw [getD_set_ne false (by omega)]; exact H.tu k (by omega) h2, ⟨by omega, by omega⟩, hseq',
          fun k h1 h2 => (hset k).2 (by rcases Nat.lt_or_ge k j with h | h; exact .inl (H.tl k h1 h); exact .inr (by omega)), fun i oi hi hiu hoi => ?_, ?_, fun s hs => ?_, fun i oi s hi hiu hoi hds => ?_, fun i oi hiu hoi k hk => ?_⟩
        · have h3 := (Oper.apart_spec (hap i oi hi (hsetf i hiu).1 hoi)).2.2
          have hse := execOp_put oi (fun cs b => Region.noSelect_spec S.sel i oi cs b hoi) b oj.dst v (fun d hd => h3 d hd)
          have hsw := wanted_put (ops := ops) oi b oj.dst v (fun d hd => h3 d hd)
          rw [hse, hsw]
          exact H.ye i oi hi (hsetf i hiu).1 hoi
        · have := H.defers
          cases oj.dst <;> exact this
        · rw [put_look, put_look, H.other s fun i oi hi hiu hoi hd => hs i oi hi (by rw [getD_set_ne false (by omega)]; exact hiu) hoi hd]
        · have h2 := (Oper.apart_spec (hap i oi hi (hsetf i hiu).1 hoi)).2.1 s hds
          rw [put_look, put_look, if_neg h2, if_neg h2]
          exact H.at_ i oi s hi (hsetf i hiu).1 hoi hds
        · rcases (hset i).1 hiu with h | h
          · exact getD_set_true (H.cl i oi h hoi k hk)
          · subst h
            have : oi = oj := Option.some.inj (hoi.symm.trans hoj)
            subst this
            exact getD_set_true (hdepj k hk)
      have hun : unlisted n (listed.setIfInBounds j true) = unlisted n listed := by
        unfold unlisted
        refine List.countP_congr fun i hi => ?_
        rw [getD_set_ne false (by have := List.mem_range.1 hi; omega)]
      refine .inl ?_
      rw [← he] at hout
      exact outcome_wp hout fun v w' ⟨hJ, hrest⟩ => ih p (j + 1) _ _ _ w' (by rw [hun]; omega) (keep v) (.inr hJ) (by rw [show j + 1 + p = j + (p + 1) by omega]; exact hdn) hrest
end
theorem wp_region_extJ {P : Program} {id : Nat} {l : List Oper} {Q : Exit → Act → World → Prop} {a : Act} {w : World} (n p : Nat) (Φ : Kinds) (J : World → Prop) (hX : Φ xm = some (.inr fun _ w => J w)) (hJ : ∀ w', Ext w.drew w' → J w') (hdn : allDone l.toArray n (n + p) = true) (hm : P.follows .mixedOrders = true) (hB : extB l.toArray n = true)
    (h : ∀ vs, wpT P l.toArray n Φ w.drew vs (fun a' => ∀ w', Ext w.drew w' → factsL Φ vs w' (List.range n) → Apart l.toArray n Φ vs → wpJ P l.toArray (OnlyNormal Q) J p (l.drop n) a' w') 0 (l.take n) a) :
    (Code.region id l.toArray true).wp P Q a w := by
  have S := extS_of hB
  refine Code.wp_mono OnlyNormal.imp ?_
  refine wp_region_any hm ?_
  have hle : n ≤ l.length := by simpa using S.le
  have hlen : (l.take n).length = n := by simp [hle]
  have hget : ∀ j o, (l.take n)[j]? = some o → l.toArray[0 + j]? = some o := fun j o hj => by
    rw [Nat.zero_add, List.getElem?_toArray]
    rw [List.getElem?_take] at hj
    split at hj
    · exact hj
    · cases hj
  have hall : ∀ vs, ∃ C T, TRun P l.toArray n Φ w.drew a vs C T ∧ ∀ w', Ext w.drew w' → factsL Φ vs w' (List.range n) → Apart l.toArray n Φ vs → wpJ P l.toArray (OnlyNormal Q) J p (l.drop n) (T n) w' := fun vs => by
    obtain ⟨C, T, hT, hst, hF⟩ := wpT_run (l.take n) 0 a hget (h vs)
    rw [hlen, Nat.zero_add] at hF
    exact ⟨C, T, ⟨hT, fun i hi => hst i (Nat.zero_le _) (by rw [hlen]; omega)⟩, hF⟩
  have hall' : ∀ vs, ∃ C T, TRun P l.toArray n Φ w.drew a vs C T := fun vs => let ⟨C, T, R, _⟩ := hall vs; ⟨C, T, R⟩
  have hfalse : ∀ j, (Array.replicate l.toArray.size false).getD j false = false := fun j => getD_replicate_false _ _
  obtain ⟨C, T, R⟩ := hall' (fun _ => ⟨undef, fun _ => false⟩)
  have M0 : Mid P l.toArray n Φ w.drew a (Array.replicate l.toArray.size false) a w.drew (fun _ => ⟨undef, fun _ => false⟩) C T :=
    ⟨by simp, fun i oi _ hl => (by rw [hfalse] at hl; cases hl), fun t _ _ => hfalse t, R,
      ⟨rfl, fun _ _ => rfl, fun j oj t _ hl => (by rw [hfalse] at hl; cases hl)⟩, Ext.refl _, fun j _ hl => (by rw [hfalse] at hl; cases hl), fun j _ hl => (by rw [hfalse] at hl; cases hl), fun j _ _ _ _ hl => (by rw [hfalse] at hl; cases hl)⟩
  have hcount : unlisted n (Array.replicate l.toArray.size false) = n := by
    unfold unlisted
    rw [List.countP_eq_length.2 (fun j _ => by rw [hfalse]; rfl)]
    simp
  have := region_mainJ (Q := Q) S hall' (fun listed a' w' vs C T M hfl => ?_) n _ a w.drew _ C T hcount M0
  · have e : n + (l.toArray.size - n) = l.toArray.size := by have := S.le; omega
    rw [e] at this
    exact this
  · obtain ⟨C', T', R', hF⟩ := hall vs
    have hops : ∀ i, i < n → ∃ o, l.toArray[i]? = some o := fun i hi => let ⟨o, ho, _⟩ := R'.step i hi; ⟨o, ho⟩
    -- of a float nothing is known ahead
    have kind : ∀ j, j < n → floats l.toArray n j = true → Φ j = none := fun j hj hf => by
      obtain ⟨o, _, _, hok⟩ := R'.step j hj
      unfold okAt at hok
      cases hk : Φ j with
      | none => rfl
      | some x => cases x with
        | inl x => simp only [hk] at hok; rw [hok.2.1] at hf; cases hf
        | inr φ => simp only [hk] at hok; rw [hok.2.1] at hf; cases hf
    have facts : ∀ j, j < n → factAt Φ vs w' j := fun j hj => by
      cases hl : listed.getD j false with
      | true => exact M.facts j hj hl
      | false => unfold factAt; rw [kind j hj (hfl j hj hl)]; trivial
    have hag : ∀ j, j < n → C j = C' j := fun j hj => TRun.agree S M.run R' (L := fun _ => True) M.world (fun _ _ _ _ _ _ _ => trivial) (fun _ _ _ => rfl) (fun j hj _ => facts j hj) (fun j hj _ => facts j hj) j hj trivial
    have hx := hF w' M.world (factsL_iff.2 fun j hj => facts j (List.mem_range.1 hj)) (fun j k hj hk hjk => by
      have nr : ∀ j, j < n → listed.getD j false = false → relK Φ j = false := fun j hj hl => relK_none (fun φ e => by rw [kind j hj (hfl j hj hl)] at e; cases e)
      cases hl : listed.getD j false with
      | false => exact .no_l (nr j hj hl)
      | true =>
        cases hl2 : listed.getD k false with
        | false => exact .no_r (nr k hk hl2)
        | true => exact M.apart j k hj hk hjk hl hl2)
    have hN := R'.holds S n (Nat.le_refl _)
    refine left_mainJ (J := J) (C := C') (l := l) (fun j => by rw [List.getElem?_toArray]) (by simp) S hops _ p n listed a' (T' n) w' rfl ?_ (.inr (hJ w' M.world)) hdn hx
    refine ⟨M.size, hfl, M.tail, ⟨Nat.le_refl _, S.le⟩, S.seq, fun j h1 h2 => absurd h1 (by omega), fun i oi hi hiu hoi => ?_, M.frame.defers.trans hN.defers.symm, fun s hs => ?_, fun i oi s hi hiu hoi hds => ?_, fun i oi hiu hoi k hk => ?_⟩
    · obtain ⟨o2, ho2, _, hok⟩ := R'.step i hi
      have : o2 = oi := Option.some.inj (ho2.symm.trans hoi)
      subst this
      have hlook := (R'.holds S i (by omega)).same S hN hi hoi (S.deps i o2 hi hoi) (fun j hj => by have := S.deps i o2 hi hoi j hj; omega)
      obtain ⟨he, hwt⟩ := same_exec (fun cs b => Region.noSelect_spec S.sel i o2 cs b hoi) hlook
      unfold okAt at hok
      rw [kind i hi (hfl i hi hiu)] at hok
      simp only at hok
      unfold pureOK at hok
      rw [if_pos (hfl i hi hiu)] at hok
      rw [← he, ← hwt]
      exact hok.imp (fun ⟨h1, h2⟩ => ⟨h1, fun w hw => h2 w fun _ => .inr (by unfold jx; rw [hX]; exact hw)⟩) fun h => h
    · by_cases hex : ∃ j oj, j < n ∧ l.toArray[j]? = some oj ∧ oj.dst = some s
      · obtain ⟨j, oj, hj, hoj, hd⟩ := hex
        have hl : listed.getD j false = true := by
          cases hl : listed.getD j false with
          | true => rfl
          | false => exact absurd hd (hs j oj hj hl hoj)
        rw [M.frame.at_ j oj s hj hl hoj hd, hN.at_ j oj s hj hj hoj hd, hag j hj]
      · rw [M.frame.other s fun j oj hj _ hoj hd => hex ⟨j, oj, hj, hoj, hd⟩, hN.other s fun j oj hj _ hoj hd => hex ⟨j, oj, hj, hoj, hd⟩]
    · rw [hN.at_ i oi s hi hi hoi hds, M.frame.other s fun j oj hj hl hoj hd => ?_]
      by_cases hij : j = i
      · subst hij; rw [hiu] at hl; cases hl
      · exact S.dst j i oj oi s hj hi hoj hoi hds (Ne.symm hij) hd
    · by_cases hin : i < n
      · exact M.closed i oi hin hiu hoi k hk
      · rw [M.tail i (by omega) (Array.getElem?_eq_some_iff.1 hoi).1] at hiu; cases hiu
end Go.Proofs.YtmkomlbiaebddaaGreatDoor
namespace Go.Proofs.YtmkomlbiaebddaaGreatDoor.Am
open Go Go.RowKit
inductive Ty where
  | i (k : IntKind) | b | s | er | sl (e : Ty) | pr (a c : Ty) | un | mp (a c : Ty)
def den : Ty → Type
  | .i k => match k with
    | .u8 => UInt8 | .u16 => UInt16 | .u32 => UInt32 | .u64 => UInt64
    | .i8 => Int | .i16 => Int | .i32 => Int | .i64 => Int
  | .b => Bool
  | .s => List UInt8
  | .er => Bool
  | .sl e => List (den e)
  | .pr a c => den a × den c
  | .un => Unit
  | .mp a c => List (den a × den c)
def ikEq (a c : IntKind) : Option (PLift (a = c)) := match a, c with
  | .i8, .i8 => some ⟨rfl⟩ | .i16, .i16 => some ⟨rfl⟩ | .i32, .i32 => some ⟨rfl⟩ | .i64, .i64 => some ⟨rfl⟩
  | .u8, .u8 => some ⟨rfl⟩ | .u16, .u16 => some ⟨rfl⟩ | .u32, .u32 => some ⟨rfl⟩ | .u64, .u64 => some ⟨rfl⟩
  | _, _ => none
def tyEq : (a c : Ty) → Option (PLift (a = c))
  | .i k, .i k' => match ikEq k k' with
    | some ⟨h⟩ => some ⟨by rw [h]⟩
    | none => none
  | .b, .b => some ⟨rfl⟩
  | .s, .s => some ⟨rfl⟩
  | .un, .un => some ⟨rfl⟩
  | .er, .er => some ⟨rfl⟩
  | .sl a, .sl c => match tyEq a c with
    | some ⟨h⟩ => some ⟨by rw [h]⟩
    | none => none
  | .pr a x, .pr c y => match tyEq a c, tyEq x y with
    | some ⟨h⟩, some ⟨k⟩ => some ⟨by rw [h, k]⟩
    | _, _ => none
  | .mp a x, .mp c y => match tyEq a c, tyEq x y with
    | some ⟨h⟩, some ⟨k⟩ => some ⟨by rw [h, k]⟩
    | _, _ => none
  | _, _ => none
def castD {a c : Ty} (h : a = c) (x : den a) : den c := h ▸ x
def tsz : Ty → Nat
  | .pr a c => tsz a + tsz c
  | .un => 0
  | _ => 1
def one : Ty → Bool
  | .pr _ _ => false
  | .un => false
  | _ => true
def toI : (k : IntKind) → den (.i k) → Int
  | .u8, x => ((x : UInt8).toNat : Int)
  | .u16, x => ((x : UInt16).toNat : Int)
  | .u32, x => ((x : UInt32).toNat : Int)
  | .u64, x => ((x : UInt64).toNat : Int)
  | .i8, x => x
  | .i16, x => x
  | .i32, x => x
  | .i64, x => x
def ofI : (k : IntKind) → Int → den (.i k)
  | .u8, x => i8 x
  | .u16, x => i16 x
  | .u32, x => i32 x
  | .u64, x => i64 x
  | .i8, x => IntKind.i8.wrap x
  | .i16, x => IntKind.i16.wrap x
  | .i32, x => IntKind.i32.wrap x
  | .i64, x => w64 x
def exI : (k : IntKind) → Int → den (.i k)
  | .u8, x => i8 x
  | .u16, x => i16 x
  | .u32, x => i32 x
  | .u64, x => i64 x
  | .i8, x => x
  | .i16, x => x
  | .i32, x => x
  | .i64, x => x
def bitD (op : BinOp) : (k : IntKind) → den (.i k) → den (.i k) → Option (den (.i k))
  | .u8, x, y => match op with
    | .and => some (@HAnd.hAnd UInt8 UInt8 UInt8 _ x y)
    | .or => some (@HOr.hOr UInt8 UInt8 UInt8 _ x y)
    | .xor => some (@HXor.hXor UInt8 UInt8 UInt8 _ x y)
    | _ => none
  | .u16, _, _ => none
  | .u32, x, y => match op with
    | .and => some (@HAnd.hAnd UInt32 UInt32 UInt32 _ x y)
    | .or => some (@HOr.hOr UInt32 UInt32 UInt32 _ x y)
    | .xor => some (@HXor.hXor UInt32 UInt32 UInt32 _ x y)
    | _ => none
  | .u64, x, y => match op with
    | .and => some (@HAnd.hAnd UInt64 UInt64 UInt64 _ x y)
    | .or => some (@HOr.hOr UInt64 UInt64 UInt64 _ x y)
    | .xor => some (@HXor.hXor UInt64 UInt64 UInt64 _ x y)
    | _ => none
  | .i8, x, y => bits? op .i8 x y
  | .i16, x, y => bits? op .i16 x y
  | .i32, x, y => bits? op .i32 x y
  | .i64, x, y => bits? op .i64 x y
where bits? (op : BinOp) (k : IntKind) (x y : Int) : Option Int := match op with
  | .and => some (bits .and k x y)
  | .or => some (bits .or k x y)
  | .xor => some (bits .xor k x y)
  | .andNot => some (bits .andNot k x y)
  | _ => none
inductive SV where
  | v (t : Ty) (x : den t)
  | nils | nilp | nilm | nilf | undef
  /-- what was not done -/
  | skp
  /-- a slice of no elements and no room -/
  | emp
  /-- a slice that has no room behind its end -/
  | cl (e : Ty) (xs : List (den e))
  /-- a slice that is not nil -/
  | nn (e : Ty) (xs : List (den e))
  | mpr (id : Nat)
  | ptr (id off : Nat)
  | rp (t : Ty) (x : den t) (off : Nat)
  | own (id ver : Nat)
  | ep (id ver : Nat) (i : Int) (off : Nat)
  | fn (f : Nat) (a c : List SV)
  | ag (l : List SV)
  | tup (l : List SV)
inductive AO where
  | blk (T : TypeId) (cs : List SV)
  | osl (ver : Nat) (e : Ty) (T : TypeId) (xs : List (den e))
  | mp (gen : Nat) (K V : Ty) (es : List (den K × den V))
  | dead
structure St where
  sl : List (Nat × SV)
  hp : List AO
def lkS : List (Nat × SV) → Nat → SV
  | [], _ => .undef
  | (d, x) :: m, t => bif Nat.beq d t then x else lkS m t
def atN {α : Type} : List α → Nat → Option α
  | [], _ => none
  | x :: _, 0 => some x
  | _ :: l, n + 1 => atN l n
def setN {α : Type} : List α → Nat → α → List α
  | [], _, _ => []
  | _ :: l, 0, y => y :: l
  | x :: l, n + 1, y => x :: setN l n y
def St.put (σ : St) (d : Nat) (x : SV) : St := ⟨(d, x) :: σ.sl, σ.hp⟩
def cellsOf : (t : Ty) → den t → List SV
  | .pr a c, x => cellsOf a x.1 ++ cellsOf c x.2
  | .un, _ => []
  | .i k, x => [.v (.i k) x]
  | .b, x => [.v .b x]
  | .s, x => [.v .s x]
  | .er, x => [.v .er x]
  | .sl e, x => [.v (.sl e) x]
  | .mp a c, x => [.v (.mp a c) x]
def svOf (t : Ty) (x : den t) : SV := bif one t then .v t x else .ag (cellsOf t x)
def pc (l : List SV) (o n : Nat) : List SV := (l.drop o).take n
def layS : List SV → Nat → List SV → List SV
  | l, _, [] => l
  | [], _, _ => []
  | _ :: l, 0, x :: xs => x :: layS l 0 xs
  | y :: l, o + 1, xs => y :: layS l o xs
inductive TD where
  | int (k : IntKind) | b | s | sl (E : TypeId) | st (fs : List (TypeId × Nat)) | pt (E : TypeId) | ar (n : Nat) (E : TypeId) | map (K V : TypeId) | fn | ifc | ot
structure TI where
  td : TD
  sz : Nat
  z : List SV
  ty : Ty
  nb : Nat
def TI.agg (t : TI) : Bool := match t.td with
  | .st _ => true
  | .ar _ _ => true
  | _ => false
def svAt (f : TI) (l : List SV) : Option SV := bif Nat.beq l.length f.sz && Nat.blt 0 f.sz then (bif f.agg then some (.ag l) else match l with
  | [x] => some x
  | _ => none) else none
abbrev TE := List (Nat × TI)
def tyAt : TE → Nat → Option TI
  | [], _ => none
  | (d, x) :: m, t => bif Nat.beq d t then some x else tyAt m t
def ofCell (hp : List AO) : (t : Ty) → SV → Option (den t)
  | t, .v t' x => match tyEq t' t with
    | some ⟨h⟩ => some (castD h x)
    | none => none
  | .sl e, .nils => some ([] : List (den e))
  | .sl e, .emp => some ([] : List (den e))
  | .sl e, .cl e' xs => match tyEq e' e with
    | some ⟨h⟩ => some (castD (by rw [h] : Ty.sl e' = Ty.sl e) xs)
    | none => none
  | .sl e, .nn e' xs => match tyEq e' e with
    | some ⟨h⟩ => some (castD (by rw [h] : Ty.sl e' = Ty.sl e) xs)
    | none => none
  | .sl e, .own id ver => match atN hp id with
    | some (.osl ver' e' _ xs) => bif Nat.beq ver ver' then (match tyEq e' e with
      | some ⟨h⟩ => some (castD (by rw [h] : Ty.sl e' = Ty.sl e) xs)
      | none => none) else none
    | _ => none
  | _, _ => none
def ofCells (hp : List AO) : (t : Ty) → List SV → Option (den t)
  | .pr a c, l => match ofCells hp a (l.take (tsz a)), ofCells hp c (l.drop (tsz a)) with
    | some x, some y => some (x, y)
    | _, _ => none
  | .un, l => match l with
    | [] => some ()
    | _ => none
  | t, l => match l with
    | [x] => ofCell hp t x
    | _ => none
def ofSV (hp : List AO) (t : Ty) : SV → Option (den t)
  | .ag l => bif one t then none else ofCells hp t l
  | x => bif one t then ofCell hp t x else none
def cellL : SV → List SV
  | .ag l => l
  | x => [x]
def ofConst : Value → Option SV
  | .bool x => some (.v .b x)
  | .int k n => bif decide (toI k (ofI k n) = n) then some (.v (.i k) (ofI k n)) else none
  | .string x => some (.v .s x.data.toList)
  | .slice none 0 0 => some .nils
  | .pointer none => some .nilp
  | .map none => some .nilm
  | .nilFunc => some .nilf
  | .nilIface => some (.v .er false)
  | _ => none
def ev (σ : St) : Operand → Option SV
  | .tmp t => some (lkS σ.sl t)
  | .const c => ofConst c
  | .func f => some (.fn f [] [])
  | .global _ => none
end Go.Proofs.YtmkomlbiaebddaaGreatDoor.Am
namespace Go.Proofs.YtmkomlbiaebddaaGreatDoor.Am
open Go Go.RowKit
variable {β : Type}
abbrev prodD : List Ty → Type
  | [] => Unit
  | [t] => den t
  | t :: t' :: l => den t × prodD (t' :: l)
def ofSVs (hp : List AO) : (l : List Ty) → List SV → Option (prodD l)
  | [], [] => some ()
  | [t], [x] => ofSV hp t x
  | t :: t' :: l, x :: xs => match ofSV hp t x, ofSVs hp (t' :: l) xs with
    | some a, some r => some (a, r)
    | _, _ => none
  | _, _ => none
def toSVs : (l : List Ty) → prodD l → List SV
  | [], _ => []
  | [t], x => [svOf t x]
  | t :: t' :: l, x => svOf t x.1 :: toSVs (t' :: l) x.2
def resSV (l : List Ty) (x : prodD l) : SV := match toSVs l x with
  | [x] => x
  | l => .tup l
def ownsC : SV → List Nat
  | .own id _ => [id]
  | _ => []
def owns (x : SV) : List Nat := (cellL x).flatMap ownsC
def frzC (id ver : Nat) (e : Ty) (xs : List (den e)) : SV → SV
  | .own i w => bif Nat.beq i id && Nat.beq w ver then .v (.sl e) xs else .own i w
  | x => x
def frzS (id ver : Nat) (e : Ty) (xs : List (den e)) : SV → SV
  | .ag l => .ag (l.map (frzC id ver e xs))
  | .tup l => .tup (l.map fun x => match x with
    | .ag l => .ag (l.map (frzC id ver e xs))
    | x => frzC id ver e xs x)
  | x => frzC id ver e xs x
def frz (σ : St) (id : Nat) : St := match atN σ.hp id with
  | some (.osl ver e _ xs) => ⟨σ.sl.map fun p => (p.1, frzS id ver e xs p.2), (setN σ.hp id .dead).map fun o => match o with
    | .blk T cs => .blk T (cs.map (frzC id ver e xs))
    | o => o⟩
  | _ => σ
def frzL (σ : St) : List Nat → St
  | [] => σ
  | i :: l => frzL (frz σ i) l
def hasSl : Ty → Bool
  | .sl _ => true
  | .pr a c => hasSl a || hasSl c
  | .mp _ _ => true
  | _ => false
inductive Sh where
  | h (t : Ty)
  | own (id : Nat)
  | ptr (id off : Nat)
  | nilp
  | nils
  | mpr (id : Nat)
  /-- a slice without room behind its end -/
  | hc (e : Ty)
  /-- a pointer to what is only read -/
  | hr (t : Ty)
  | fn (f : Nat) (a c : List Sh)
  | ag (l : List Sh)
inductive OSh where
  | blk (T : TypeId) (l : List Sh)
  | osl (e : Ty) (T : TypeId)
  /-- kp: no new key came since -/
  | mp (kp : Bool) (K V : Ty)
  | dead
structure Shp where
  sl : List (Nat × Sh)
  hp : List OSh
def Sh.tysB : Sh → List Ty
  | .h t => [t]
  | .hc e => [.sl e]
  | .hr t => [t]
  | _ => []
def Sh.tysC : Sh → List Ty
  | .fn _ a c => a.flatMap Sh.tysB ++ c.flatMap Sh.tysB
  | x => x.tysB
def Sh.tys : Sh → List Ty
  | .ag l => l.flatMap Sh.tysC
  | x => x.tysC
def OSh.tys : OSh → List Ty
  | .blk _ l => l.flatMap Sh.tysC
  | .osl e _ => [.sl e]
  | .mp _ K V => [.mp K V]
  | .dead => []
def Shp.tys (s : Shp) : List Ty := s.sl.flatMap (fun p => p.2.tys) ++ s.hp.flatMap OSh.tys
def Sh.needB : Sh → SV → List Nat
  | .h _, .own id _ => [id]
  | _, _ => []
def needBs : List Sh → List SV → List Nat
  | a :: l, x :: xs => a.needB x ++ needBs l xs
  | _, _ => []
def Sh.needC : Sh → SV → List Nat
  | .fn _ a c, .fn _ a' c' => needBs a a' ++ needBs c c'
  | a, x => a.needB x
def needCs : List Sh → List SV → List Nat
  | a :: l, x :: xs => a.needC x ++ needCs l xs
  | _, _ => []
def Sh.need : Sh → SV → List Nat
  | .h _, x => owns x
  | .ag l, .ag xs => needCs l xs
  | a, x => a.needC x
def needHp (hp : List AO) : List OSh → List Nat → List Nat
  | .blk _ l :: os, id :: ids => (match atN hp id with
    | some (.blk _ cs) => needCs l cs
    | _ => []) ++ needHp hp os ids
  | _ :: os, _ :: ids => needHp hp os ids
  | _, _ => []
def Sh.bindB : Sh → SV → List (Nat × Nat)
  | .own k, .own id _ => [(k, id)]
  | .ptr k _, .ptr id _ => [(k, id)]
  | .mpr k, .mpr id => [(k, id)]
  | _, _ => []
def bindBs : List Sh → List SV → List (Nat × Nat)
  | a :: l, x :: xs => a.bindB x ++ bindBs l xs
  | _, _ => []
def Sh.bindC : Sh → SV → List (Nat × Nat)
  | .fn _ a c, .fn _ a' c' => bindBs a a' ++ bindBs c c'
  | a, x => a.bindB x
def bindCs : List Sh → List SV → List (Nat × Nat)
  | a :: l, x :: xs => a.bindC x ++ bindCs l xs
  | _, _ => []
def Sh.bindS : Sh → SV → List (Nat × Nat)
  | .ag l, .ag xs => bindCs l xs
  | a, x => a.bindC x
def lkN : List (Nat × Nat) → Nat → Option Nat
  | [], _ => none
  | (k, i) :: l, t => bif Nat.beq k t then some i else lkN l t
def bindHp (hp : List AO) : Nat → List OSh → List (Nat × Nat) → List (Nat × Nat)
  | _, [], b => b
  | k, .blk _ l :: os, b => bindHp hp (k + 1) os (match lkN b k with
    | some id => match atN hp id with
      | some (.blk _ cs) => b ++ bindCs l cs
      | _ => b
    | none => b)
  | k, _ :: os, b => bindHp hp (k + 1) os b
def rhoL (n : Nat) (b : List (Nat × Nat)) : Nat → List OSh → List Nat
  | _, [] => []
  | k, _ :: os => (match lkN b k with
    | some id => id
    | none => n) :: rhoL n b (k + 1) os
def live : OSh → Bool
  | .dead => false
  | _ => true
def hasLive (id : Nat) : List OSh → List Nat → Bool
  | o :: os, i :: ids => (live o && Nat.beq i id) || hasLive id os ids
  | _, _ => false
def dist : List OSh → List Nat → Bool
  | o :: os, i :: ids => (!(live o) || !(hasLive i os ids)) && dist os ids
  | _, _ => true
def Sh.getB (ρ : List Nat) (hp hq : List AO) : Sh → SV → Option (List SV)
  | .h t, x => bif one t then (match ofCell hq t x with
    | some y => some [.v t y]
    | none => none) else none
  | .own k, .own id ver => match atN ρ k, atN hp id with
    | some id', some (.osl ver' _ _ _) => bif Nat.beq id' id && Nat.beq ver ver' then some [] else none
    | _, _ => none
  | .ptr k off, .ptr id off' => match atN ρ k with
    | some id' => bif Nat.beq id' id && Nat.beq off off' then some [] else none
    | none => none
  | .mpr k, .mpr id => match atN ρ k with
    | some id' => bif Nat.beq id' id then some [] else none
    | none => none
  | .nilp, .nilp => some []
  | .nils, .nils => some []
  | .hc e, .cl e' xs => match tyEq e' e with
    | some ⟨q⟩ => some [.v (.sl e) (castD (by rw [q] : Ty.sl e' = Ty.sl e) xs)]
    | none => none
  | .hr t, .rp t' x 0 => match tyEq t' t with
    | some ⟨q⟩ => some [svOf t (castD q x)]
    | none => none
  | .hr t, .ptr id 0 => match atN hq id with
    | some (.blk _ cs) => match ofCells hq t cs with
      | some y => some [svOf t y]
      | none => none
    | _ => none
  | _, _ => none
def getBs (ρ : List Nat) (hp hq : List AO) : List Sh → List SV → Option (List SV)
  | [], [] => some []
  | a :: l, x :: xs => match a.getB ρ hp hq x, getBs ρ hp hq l xs with
    | some p, some q => some (p ++ q)
    | _, _ => none
  | _, _ => none
def Sh.getC (ρ : List Nat) (hp hq : List AO) : Sh → SV → Option (List SV)
  | .fn f a c, .fn f' a' c' => bif Nat.beq f f' then (match getBs ρ hp hq a a', getBs ρ hp hq c c' with
    | some p, some q => some (p ++ q)
    | _, _ => none) else none
  | a, x => a.getB ρ hp hq x
def getCs (ρ : List Nat) (hp hq : List AO) : List Sh → List SV → Option (List SV)
  | [], [] => some []
  | a :: l, x :: xs => match a.getC ρ hp hq x, getCs ρ hp hq l xs with
    | some p, some q => some (p ++ q)
    | _, _ => none
  | _, _ => none
def Sh.get (ρ : List Nat) (hp hq : List AO) : Sh → SV → Option (List SV)
  | .h t, x => match ofSV hq t x with
    | some y => some [svOf t y]
    | none => none
  | .ag l, .ag xs => getCs ρ hp hq l xs
  | .ag _, _ => none
  | a, x => a.getC ρ hp hq x
def getL (ρ : List Nat) (hp hq : List AO) : List Sh → List SV → Option (List SV)
  | [], [] => some []
  | a :: l, x :: xs => match a.get ρ hp hq x, getL ρ hp hq l xs with
    | some p, some q => some (p ++ q)
    | _, _ => none
  | _, _ => none
def getSl (ρ : List Nat) (σ : St) : List (Nat × Sh) → Option (List SV)
  | [] => some []
  | (d, a) :: l => match a.get ρ σ.hp [] (lkS σ.sl d), getSl ρ σ l with
    | some p, some q => some (p ++ q)
    | _, _ => none
def getHp (ρ : List Nat) (hp : List AO) : List OSh → List Nat → Option (List SV)
  | [], _ => some []
  | .blk T l :: os, id :: ids => match atN hp id with
    | some (.blk T' cs) => bif Nat.beq T T' then (match getCs ρ hp [] l cs, getHp ρ hp os ids with
      | some p, some q => some (p ++ q)
      | _, _ => none) else none
    | _ => none
  | .osl e T :: os, id :: ids => match atN hp id with
    | some (.osl _ e' T' ys) => bif Nat.beq T T' then (match tyEq e' e, getHp ρ hp os ids with
      | some ⟨h⟩, some q => some (.v (.sl e) (castD (by rw [h] : Ty.sl e' = Ty.sl e) ys) :: q)
      | _, _ => none) else none
    | _ => none
  | .mp kp K V :: os, id :: ids => match atN hp id with
    | some (.mp g K' V' es) => bif (!kp) || Nat.beq g 0 then (match tyEq (.mp K' V') (.mp K V), getHp ρ hp os ids with
      | some ⟨h⟩, some q => some (.v (.mp K V) (castD h es) :: q)
      | _, _ => none) else none
    | _ => none
  | .dead :: os, _ :: ids => getHp ρ hp os ids
  | _, _ => none
def Sh.putB : Sh → List SV → SV × List SV
  | .h _, x :: l => (x, l)
  | .own id, l => (.own id 0, l)
  | .ptr id off, l => (.ptr id off, l)
  | .mpr id, l => (.mpr id, l)
  | .nilp, l => (.nilp, l)
  | .nils, l => (.nils, l)
  | .hc e, .v (.sl e') xs :: l => (match tyEq e' e with
    | some ⟨q⟩ => .cl e (castD (by rw [q] : Ty.sl e' = Ty.sl e) xs)
    | none => .undef, l)
  | .hr t, x :: l => (match ofSV [] t x with
    | some y => .rp t y 0
    | none => .undef, l)
  | _, l => (.undef, l)
def putBs : List Sh → List SV → List SV × List SV
  | [], l => ([], l)
  | a :: s, l => ((a.putB l).1 :: (putBs s (a.putB l).2).1, (putBs s (a.putB l).2).2)
def Sh.putC : Sh → List SV → SV × List SV
  | .fn f a c, l => (.fn f (putBs a l).1 (putBs c (putBs a l).2).1, (putBs c (putBs a l).2).2)
  | a, l => a.putB l
def putCs : List Sh → List SV → List SV × List SV
  | [], l => ([], l)
  | a :: s, l => ((a.putC l).1 :: (putCs s (a.putC l).2).1, (putCs s (a.putC l).2).2)
def Sh.put : Sh → List SV → SV × List SV
  | .ag s, l => (.ag (putCs s l).1, (putCs s l).2)
  | a, l => a.putC l
def putL : List Sh → List SV → List SV × List SV
  | [], l => ([], l)
  | a :: s, l => ((a.put l).1 :: (putL s (a.put l).2).1, (putL s (a.put l).2).2)
def putSl : List (Nat × Sh) → List SV → List (Nat × SV) × List SV
  | [], l => ([], l)
  | (d, a) :: s, l => ((d, (a.put l).1) :: (putSl s (a.put l).2).1, (putSl s (a.put l).2).2)
def putHp : List OSh → List SV → List AO
  | [], _ => []
  | .blk T s :: os, l => .blk T (putCs s l).1 :: putHp os (putCs s l).2
  | .osl e T :: os, .v (.sl e') y :: l => (match tyEq e' e with
    | some ⟨h⟩ => .osl 0 e T (castD (by rw [h] : Ty.sl e' = Ty.sl e) y)
    | none => .dead) :: putHp os l
  | .osl _ _ :: os, l => .dead :: putHp os l
  | .mp kp K V :: os, .v (.mp K' V') y :: l => (match tyEq (.mp K' V') (.mp K V) with
    | some ⟨h⟩ => .mp (bif kp then 0 else 1) K V (castD h y)
    | none => .dead) :: putHp os l
  | .mp _ _ _ :: os, l => .dead :: putHp os l
  | .dead :: os, l => .dead :: putHp os l
def idB : Nat → Nat → List (Nat × Nat)
  | _, 0 => []
  | k, n + 1 => (k, k) :: idB (k + 1) n
def Shp.rho (N0 : Nat) (s : Shp) (σ : St) : List Nat := rhoL σ.hp.length (bindHp σ.hp 0 s.hp (idB 0 N0 ++ s.sl.flatMap fun p => p.2.bindS (lkS σ.sl p.1))) 0 s.hp
def Shp.need (N0 : Nat) (s : Shp) (σ : St) : List Nat := s.sl.flatMap (fun p => p.2.need (lkS σ.sl p.1)) ++ needHp σ.hp s.hp (s.rho N0 σ)
def Shp.get1 (s : Shp) (ρ : List Nat) (σ : St) : Option (prodD s.tys) := bif dist s.hp ρ then (match getSl ρ σ s.sl, getHp ρ σ.hp s.hp ρ with
  | some p, some q => ofSVs [] s.tys (p ++ q)
  | _, _ => none) else none
def pinOk : Nat → List AO → List OSh → Bool
  | 0, _, _ => true
  | n + 1, .osl ver _ _ _ :: l, .osl _ _ :: os => Nat.beq ver 0 && pinOk n l os
  | n + 1, _ :: l, _ :: os => pinOk n l os
  | _, _, _ => true
def Shp.get (N0 : Nat) (s : Shp) (σ : St) : Option (prodD s.tys) := bif Nat.ble N0 s.hp.length && pinOk N0 σ.hp s.hp then s.get1 (s.rho N0 σ) (frzL σ (s.need N0 σ)) else none
def Shp.put (s : Shp) (x : prodD s.tys) : St := ⟨(putSl s.sl (toSVs s.tys x)).1, putHp s.hp (putSl s.sl (toSVs s.tys x)).2⟩
structure PC where
  ash : List Sh
  rts : List Ty
  p : prodD (ash.flatMap Sh.tys) → Option (prodD rts)
  /-- its result is a slice that has no room behind its end -/
  cl : Bool
def clS (b : Bool) (x : SV) : SV := bif b then (match x with
  | .v (.sl e) xs => .cl e xs
  | x => x) else x
def resPC (c : PC) (y : prodD c.rts) : SV := clS c.cl (resSV c.rts y)
def DS : List (Option Nat × Shp) → Type
  | [] => Empty
  | [a] => prodD a.2.tys
  | a :: b :: l => prodD a.2.tys ⊕ DS (b :: l)
structure SC where
  I : Shp
  nr : Nat
  outs : List (Option Nat × Shp)
  p : prodD I.tys → Option (DS outs)
structure CT where
  pc : List (Nat × PC)
  sc : List (Nat × SC)
  keep : Bool
def pcAt : List (Nat × PC) → Nat → Option PC
  | [], _ => none
  | (d, x) :: m, t => bif Nat.beq d t then some x else pcAt m t
def scAt : List (Nat × SC) → Nat → List SC
  | [], _ => []
  | (d, x) :: m, t => bif Nat.beq d t then x :: scAt m t else scAt m t
def keq : (t : Ty) → den t → den t → Bool
  | .i k, x, y => decide (toI k x = toI k y)
  | .b, x, y => @BEq.beq Bool _ x y
  | .s, x, y => @BEq.beq (List UInt8) _ x y
  | .pr a c, x, y => keq a x.1 y.1 && keq c x.2 y.2
  | .un, _, _ => true
  | _, _, _ => false
def klt : (t : Ty) → den t → den t → Bool
  | .i k, x, y => decide (toI k x < toI k y)
  | .b, x, y => !(show Bool from x) && y
  | .s, x, y => Op.bytesLess x y
  | .pr a c, x, y => klt a x.1 y.1 || (keq a x.1 y.1 && klt c x.2 y.2)
  | _, _, _ => false
section
variable {α γ : Type}
def mget (eq : α → α → Bool) : List (α × γ) → α → Option γ
  | [], _ => none
  | (k', v) :: m, k => bif eq k' k then some v else mget eq m k
def mhas (eq : α → α → Bool) : List (α × γ) → α → Bool
  | [], _ => false
  | (k', _) :: m, k => eq k' k || mhas eq m k
def mgetD (eq : α → α → Bool) (m : List (α × γ)) (k : α) (z : γ) : γ := match mget eq m k with
  | some v => v
  | none => z
def mrep (eq : α → α → Bool) : List (α × γ) → α → γ → List (α × γ)
  | [], _, _ => []
  | (k', v') :: m, k, v => bif eq k' k then (k, v) :: m else (k', v') :: mrep eq m k v
def mins (lt : α → α → Bool) : List (α × γ) → α → γ → List (α × γ)
  | [], k, v => [(k, v)]
  | (k', v') :: m, k, v => bif lt k' k then (k', v') :: mins lt m k v else (k, v) :: (k', v') :: m
def mset (eq lt : α → α → Bool) (m : List (α × γ)) (k : α) (v : γ) : List (α × γ) := bif mhas eq m k then mrep eq m k v else mins lt m k v
def mdel (eq : α → α → Bool) : List (α × γ) → α → List (α × γ)
  | [], _ => []
  | (k', v') :: m, k => bif eq k' k then m else (k', v') :: mdel eq m k
end
def kOk : Ty → Bool
  | .i _ => true
  | .s => true
  | _ => false
def nofn : SV → Bool
  | .fn _ _ _ => false
  | _ => true
def noag : SV → Bool
  | .ag _ => false
  | _ => true
def notu : SV → Bool
  | .undef => false
  | .skp => false
  | .tup _ => false
  | _ => true
def bindS (o : Option SV) (k : SV → Option β) : Option β := match o with
  | some x => k x
  | none => none
def arith (op : BinOp) (a c : Int) : Option Int := match op with
  | .add => some (a + c)
  | .sub => some (a - c)
  | .mul => some (a * c)
  | _ => none
def isU16 : IntKind → Bool
  | .u16 => true
  | _ => false
def cmpI (op : BinOp) (a c : Int) : Option Bool := match op with
  | .eql => some (a == c)
  | .neq => some (a != c)
  | .lss => some (decide (a < c))
  | .leq => some (decide (a ≤ c))
  | .gtr => some (decide (c < a))
  | .geq => some (decide (c ≤ a))
  | _ => none
def eqK (τ : TE) (T : TypeId) (op : BinOp) (t : Bool) (k : SV → Option β) : Option β := match tyAt τ T with
  | some ⟨.pt _, _, _, _, _⟩ => match op with
    | .eql => k (.v .b t)
    | .neq => k (.v .b (!t))
    | _ => none
  | _ => none
def eqN (τ : TE) (T : TypeId) (op : BinOp) (t : Bool) (k : SV → Option β) : Option β := match tyAt τ T with
  | some ⟨.sl _, _, _, _, _⟩ => match op with
    | .eql => k (.v .b t)
    | .neq => k (.v .b (!t))
    | _ => none
  | _ => none
def eqM (τ : TE) (T : TypeId) (op : BinOp) (t : Bool) (k : SV → Option β) : Option β := match tyAt τ T with
  | some ⟨.map _ _, _, _, _, _⟩ => match op with
    | .eql => k (.v .b t)
    | .neq => k (.v .b (!t))
    | _ => none
  | _ => none
def eqI : List SV → List SV → Option Bool
  | [.v (.i q) a], [.v (.i q') c] => match ikEq q' q with
    | some ⟨_⟩ => some (decide (toI q a = toI q' c))
    | none => none
  | _, _ => none
def eqBo : List SV → List SV → Option Bool
  | [.v .b a], [.v .b c] => some (@BEq.beq Bool _ a c)
  | _, _ => none
def eqSt : List SV → List SV → Option Bool
  | [.v .s a], [.v .s c] => some (@BEq.beq (List UInt8) _ a c)
  | _, _ => none
def eqF (τ : TE) (q : TypeId → List SV → List SV → Option Bool) : List (TypeId × Nat) → List SV → List SV → Option Bool
  | [], _, _ => some true
  | [(F, o)], l, l' => match tyAt τ F with
    | some f => q F (pc l o f.sz) (pc l' o f.sz)
    | none => none
  | (F, o) :: fs, l, l' => match tyAt τ F with
    | some f => match q F (pc l o f.sz) (pc l' o f.sz), eqF τ q fs l l' with
      | some a, some b => some (a && b)
      | _, _ => none
    | none => none
def eqT (τ : TE) : Nat → TypeId → List SV → List SV → Option Bool
  | 0, _, _, _ => none
  | n + 1, T, l, l' => match tyAt τ T with
    | some f => bif Nat.beq l.length f.sz && Nat.beq l'.length f.sz then (match f.td with
      | .st fs => eqF τ (eqT τ n) fs l l'
      | .int _ => eqI l l'
      | .b => eqBo l l'
      | .s => eqSt l l'
      | _ => none) else none
    | none => none
def binAg (τ : TE) (T : TypeId) (op : BinOp) (l l' : List SV) (k : SV → Option β) : Option β := match tyAt τ T with
  | some f => bif f.agg then (match eqT τ 8 T l l' with
    | some t => match op with
      | .eql => k (.v .b t)
      | .neq => k (.v .b (!t))
      | _ => none
    | none => none) else none
  | none => none
def bin (τ : TE) (T : TypeId) (op : BinOp) (x y : SV) (k : SV → Option β) : Option β := match x, y with
  | .v (.i q) a, .v (.i q') c => match op with
    | .shl => bif isU16 q then none else Option.bind (chk (decide (0 ≤ toI q' c))) fun _ => k (.v (.i q) (exI q (shlI q (toI q a) (toI q' c))))
    | .shr => bif isU16 q then none else Option.bind (chk (decide (0 ≤ toI q' c))) fun _ => k (.v (.i q) (exI q (shrI q (toI q a) (toI q' c))))
    | op => match ikEq q' q with
      | none => none
      | some ⟨h⟩ => match op with
        | .quo => Option.bind (chk (toI q' c != 0)) fun _ => k (.v (.i q) (ofI q (Int.tdiv (toI q a) (toI q' c))))
        | .rem => bif isU16 q then none else Option.bind (chk (decide (0 < toI q' c))) fun _ => k (.v (.i q) (exI q (Int.tmod (toI q a) (toI q' c))))
        | op => match arith op (toI q a) (toI q' c) with
          | some r => k (.v (.i q) (ofI q r))
          | none => match cmpI op (toI q a) (toI q' c) with
            | some t => k (.v .b t)
            | none => match bitD op q a (castD (by rw [h] : Ty.i q' = Ty.i q) c) with
              | some r => k (.v (.i q) r)
              | none => none
  | .v .s a, .v .s c => match op with
    | .add => Option.bind (app a c) fun r => k (.v .s r)
    | .eql => k (.v .b (@BEq.beq (List UInt8) _ a c))
    | .neq => k (.v .b (@bne (List UInt8) _ a c))
    | .lss => k (.v .b (Op.bytesLess a c))
    | .leq => k (.v .b (Op.bytesLess a c || @BEq.beq (List UInt8) _ a c))
    | .gtr => k (.v .b (!(Op.bytesLess a c || @BEq.beq (List UInt8) _ a c)))
    | .geq => k (.v .b (!(Op.bytesLess a c)))
    | _ => none
  | .v .b a, .v .b c => match tyAt τ T with
    | some ⟨.b, _, _, _, _⟩ => match op with
      | .eql => k (.v .b (@BEq.beq Bool _ a c))
      | .neq => k (.v .b (@bne Bool _ a c))
      | _ => none
    | _ => none
  | .nils, .nils => eqN τ T op true k
  | .nn _ _, .nils => eqN τ T op false k
  | .nilm, .nilm => eqM τ T op true k
  | .nilp, .nilp => eqK τ T op true k
  | .ptr _ _, .nilp => eqK τ T op false k
  | .rp _ _ _, .nilp => eqK τ T op false k
  | .ag l, .ag l' => binAg τ T op l l' k
  | _, _ => none
def un (op : UnOp) (x : SV) (k : SV → Option β) : Option β := match op, x with
  | .not, .v .b t => k (.v .b (!t))
  | .neg, .v (.i q) a => k (.v (.i q) (ofI q (0 - toI q a)))
  | _, _ => none
def elemAt (τ : TE) (T : TypeId) : Option TI := match tyAt τ T with
  | some ⟨.sl E, _, _, _, _⟩ => tyAt τ E
  | _ => none
def lenSV (τ : TE) (T : TypeId) (hp : List AO) (x : SV) (k : Int → Option β) : Option β := match tyAt τ T with
  | some ⟨.s, _, _, _, _⟩ => match x with
    | .v .s l => k (List.length l : Int)
    | _ => none
  | some ⟨.sl _, _, _, _, _⟩ => match x with
    | .v (.sl _) l => k (List.length l : Int)
    | .cl _ l => k (List.length l : Int)
    | .nils => k 0
    | .own id ver => match atN hp id with
      | some (.osl ver' _ _ xs) => bif Nat.beq ver ver' then k (xs.length : Int) else none
      | _ => none
    | _ => none
  | some ⟨.map _ _, _, _, _, _⟩ => match x with
    | .mpr id => match atN hp id with
      | some (.mp _ _ _ es) => k (es.length : Int)
      | _ => none
    | _ => none
  | _ => none
def deref (hp : List AO) (p : SV) (sz : Nat) (k : List SV → Option β) : Option β := match p with
  | .ptr id off => match atN hp id with
    | some (.blk _ cs) => k (pc cs off sz)
    | _ => none
  | .rp t x off => bif Nat.ble (off + sz) (tsz t) then k (pc (cellsOf t x) off sz) else none
  | .ep id ver i off => match atN hp id with
    | some (.osl ver' e _ xs) => bif Nat.beq ver ver' && Nat.ble (off + sz) (tsz e) then Option.bind (idx xs i) fun x => k (pc (cellsOf e x) off sz) else none
    | _ => none
  | _ => none
def ptrAdd (hp : List AO) (p : SV) (n : Nat) : Option SV := match p with
  | .ptr id off => match atN hp id with
    | some (.blk _ _) => some (.ptr id (off + n))
    | _ => none
  | .rp t x off => some (.rp t x (off + n))
  | .ep id ver i off => match atN hp id with
    | some (.osl ver' _ _ _) => bif Nat.beq ver ver' then some (.ep id ver i (off + n)) else none
    | _ => none
  | _ => none
def intOf : SV → Option Int
  | .v (.i q) a => some (toI q a)
  | _ => none
def fieldAt (τ : TE) (T i : Nat) : Option (Nat × TI) := match tyAt τ T with
  | some ⟨.st fs, _, _, _, _⟩ => match atN fs i with
    | some (F, o) => match tyAt τ F with
      | some f => some (o, f)
      | none => none
    | none => none
  | _ => none
def sizes (τ : TE) : List (TypeId × Nat) → Option (List (Nat × Nat))
  | [] => some []
  | (F, o) :: l => match tyAt τ F, sizes τ l with
    | some f, some r => some ((o, f.sz) :: r)
    | _, _ => none
def putParts (pl : List (Nat × Nat)) (σ : St) : List (Nat × Operand) → List SV → Option (List SV)
  | [], l => some l
  | (i, x) :: ps, l => match ev σ x, atN pl i with
    | some sv, some (o, z) => bif Nat.beq (cellL sv).length z && Nat.ble (o + z) l.length && notu sv then putParts pl σ ps (layS l o (cellL sv)) else none
    | _, _ => none
def pickSV (t : Bool) (x y : SV) (k : SV → Option β) : Option β := match x, y with
  | .v a x, .v c y => match tyEq c a with
    | some ⟨h⟩ => k (.v a (bif t then x else castD h y))
    | none => none
  | x, y => bif t then k x else k y
def idxA (hp : List AO) (f : TI) (x : SV) (i : Int) (k : SV → Option β) : Option β := match x with
  | .v (.sl e) xs => bif Nat.beq f.sz (tsz e) then Option.bind (idx xs i) fun x => k (.rp e x 0) else none
  | .own id ver => match atN hp id with
    | some (.osl ver' e _ xs) => bif Nat.beq ver ver' && Nat.beq f.sz (tsz e) then Option.bind (chk (decide (0 ≤ i) && decide (i < (xs.length : Int)))) fun _ => k (.ep id ver i 0) else none
    | _ => none
  | _ => none
def kTd : TD → Ty → Bool
  | .int _, .i _ => true
  | .s, .s => true
  | _, _ => false
def vTd (f : TI) (V : Ty) : Bool := bif f.agg then !(one V) else one V
def optI (σ : St) : Option Operand → Option (Option Int)
  | none => some none
  | some x => match ev σ x with
    | some (.v (.i q) a) => some (some (toI q a))
    | _ => none
def subO {α : Type} (xs : List α) : Option Int → Option Int → Option (List α)
  | some lo, some hi => sub3 xs lo hi
  | some lo, none => subL xs lo
  | none, some hi => subH xs hi
  | none, none => some xs
def bOk : SV → Bool
  | .fn _ _ _ => false
  | .undef => false
  | .skp => false
  | .tup _ => false
  | .ag l => l.all nofn
  | _ => true
def evs (σ : St) : List Operand → Option (List SV)
  | [] => some []
  | x :: l => match ev σ x, evs σ l with
    | some a, some r => some (a :: r)
    | _, _ => none
def isC0 : Operand → Bool
  | .const (.int _ 0) => true
  | _ => false
def op1b (τ : TE) (σ : St) (o : Op) (k : SV → Option β) : Option β := match o with
  | .slice T x lo hi none => match optI σ lo, optI σ hi with
    | some a, some b => match tyAt τ T with
      | some ⟨.s, _, _, _, _⟩ => match ev σ x with
        | some (.v .s l) => Option.bind (subO l a b) fun r => k (.v .s r)
        | _ => none
      | some ⟨.sl E, _, _, _, _⟩ => match tyAt τ E, ev σ x with
        | some f, some (.v (.sl e) xs) => bif Nat.beq f.sz (tsz e) then Option.bind (subO xs a b) fun r => k (.v (.sl e) r) else none
        | some f, some (.cl e xs) => bif Nat.beq f.sz (tsz e) then Option.bind (subO xs a b) fun r => k (.v (.sl e) r) else none
        | some f, some .nils => bif Nat.beq f.sz (tsz f.ty) then Option.bind (subO ([] : List (den f.ty)) a b) fun r => k (.v (.sl f.ty) r) else none
        | _, _ => none
      | _ => none
    | _, _ => none
  | .slice T x none (some hi) (some mx) => match elemAt τ T, ev σ hi, ev σ mx, ev σ x with
    | some f, some (.v (.i q) b), some (.v (.i q') c), some (.v (.sl e) xs) => bif Nat.beq f.sz (tsz e) then (bif isC0 hi && isC0 mx then k .emp else Option.bind (chk (decide (toI q b = toI q' c))) fun _ => Option.bind (subH xs (toI q b)) fun r => k (.cl e r)) else none
    | some f, some (.v (.i _) _), some (.v (.i _) _), some (.nn e _) => bif Nat.beq f.sz (tsz e) && (isC0 hi && isC0 mx) then k .emp else none
    | _, _, _, _ => none
  | .convert T D x => match tyAt τ T, tyAt τ D with
    | some ⟨.sl E, _, _, _, _⟩, some ⟨.s, _, _, _, _⟩ => match tyAt τ E with
      | some ⟨.int .u8, _, _, _, _⟩ => bindS (ev σ x) fun x => match ofCell σ.hp (.sl (.i .u8)) x with
        | some l => k (.v .s l)
        | none => none
      | _ => none
    | _, _ => none
  | .lookup T m x ok => match tyAt τ T with
    | some ⟨.map Kt Vt, _, _, _, _⟩ => match tyAt τ Kt, tyAt τ Vt, ev σ m, ev σ x with
      | some kt, some f, some (.mpr id), some x => match atN σ.hp id with
        | some (.mp _ K V es) => match ofSV [] K x, ofCells [] V f.z with
          | some key, some z => bif kTd kt.td K && vTd f V then (bif ok then k (.tup [svOf V (mgetD (keq K) es key z), .v .b (mhas (keq K) es key)]) else k (svOf V (mgetD (keq K) es key z))) else none
          | _, _ => none
        | _ => none
      | _, _, _, _ => none
    | _ => none
  | .makeFunc (.func f) a c => match evs σ a.toList, evs σ c.toList with
    | some a, some c => bif a.all bOk && c.all bOk then k (.fn f a c) else none
    | _, _ => none
  | .call ⟨.builtin .max, ⟨[x, y]⟩, _⟩ => match ev σ x, ev σ y with
    | some (.v (.i .i64) a), some (.v (.i .i64) b) => k (.v (.i .i64) (bif decide (toI .i64 a ≤ toI .i64 b) then b else a))
    | _, _ => none
  | .call ⟨.builtin .min, ⟨[x, y]⟩, _⟩ => match ev σ x, ev σ y with
    | some (.v (.i .i64) a), some (.v (.i .i64) b) => k (.v (.i .i64) (bif decide (toI .i64 a ≤ toI .i64 b) then a else b))
    | _, _ => none
  | _ => none
def op1 (τ : TE) (σ : St) (o : Op) (k : SV → Option β) : Option β := match o with
  | .move x => bindS (ev σ x) k
  | .assign x => bindS (ev σ x) k
  | .pick c a b => match ev σ c with
    | some (.v .b t) => bindS (ev σ a) fun x => bindS (ev σ b) fun y => pickSV t x y k
    | _ => none
  | .binOp op T x (.const .nilIface) _ => match tyAt τ T, ev σ x with
    | some ⟨.ifc, _, _, _, _⟩, some (.v .er a) => match op with
      | .eql => k (.v .b (!(show Bool from a)))
      | .neq => k (.v .b a)
      | _ => none
    | _, _ => none
  | .binOp op T x y _ => bindS (ev σ x) fun x => bindS (ev σ y) fun y => bin τ T op x y k
  | .unOp op _ x => bindS (ev σ x) fun x => un op x k
  | .convert T D x => match ev σ x, tyAt τ T, tyAt τ D with
    | some (.v (.i q) a), some _, some ⟨.int q', _, _, _, _⟩ => k (.v (.i q') (ofI q' (toI q a)))
    | _, _, _ => op1b τ σ (.convert T D x) k
  | .call ⟨.builtin .len, ⟨[x]⟩, ⟨[T]⟩⟩ => bindS (ev σ x) fun x => lenSV τ T σ.hp x fun n => k (.v (.i .i64) n)
  | .load T a => match tyAt τ T with
    | some f => bindS (ev σ a) fun p => deref σ.hp p f.sz fun l => bindS (svAt f l) k
    | none => none
  | .field T x i => match fieldAt τ T i with
    | some (o, f) => bindS (ev σ x) fun x => match x with
      | .ag l => bindS (svAt f (pc l o f.sz)) k
      | _ => none
    | none => none
  | .fieldAddr T x i => match fieldAt τ T i with
    | some (o, f) => bif Nat.blt 0 f.sz then bindS (ev σ x) fun x => bindS (ptrAdd σ.hp x o) k else none
    | none => none
  | .indexAddr T x i => match elemAt τ T with
    | some f => bindS (ev σ x) fun x => bindS (ev σ i) fun i => match i with
      | .v (.i q) i => idxA σ.hp f x (toI q i) k
      | _ => none
    | none => none
  | .index T x i => match tyAt τ T with
    | some ⟨.s, _, _, _, _⟩ => bindS (ev σ x) fun x => bindS (ev σ i) fun i => match x, i with
      | .v .s l, .v (.i q) i => Option.bind (idx l (toI q i)) fun c => k (.v (.i .u8) c)
      | _, _ => none
    | _ => none
  | .extract x i => bindS (ev σ x) fun x => match x with
    | .tup l => bindS (atN l i) k
    | _ => none
  | .build T ps => match tyAt τ T with
    | some ⟨.st fs, _, z, _, _⟩ => match sizes τ fs with
      | some pl => match putParts pl σ ps.toList z with
        | some l => k (.ag l)
        | none => none
      | none => none
    | _ => none
  | .nilCheck x => bindS (ev σ x) fun x => bindS (ptrAdd σ.hp x 0) k
  | o => op1b τ σ o k
def op0 (τ : TE) (σ : St) (o : Op) (k : SV → Option β) : Option β := match o with
  | .move x => op1 τ σ (.move x) k
  | .assign x => op1 τ σ (.assign x) k
  | .pick c a b => op1 τ σ (.pick c a b) k
  | .binOp op T x y T' => op1 τ σ (.binOp op T x y T') k
  | .unOp op T x => op1 τ σ (.unOp op T x) k
  | .convert T D x => match ev σ x, tyAt τ T, tyAt τ D with
    | some (.v (.i q) a), some _, some ⟨.int q', _, _, _, _⟩ => k (.v (.i q') (ofI q' (toI q a)))
    | _, _, _ => none
  | .field T x i => op1 τ σ (.field T x i) k
  | .extract x i => op1 τ σ (.extract x i) k
  | _ => none
def slOk (e : TI) : Bool := Nat.blt 0 e.sz && Nat.ble e.nb 2048 && (e.agg || Nat.beq e.sz 1)
def callee (σ : St) (x : Operand) (ash : List Operand) : Option (Nat × List SV) := match ev σ x, evs σ ash with
  | some (.fn f a c), some xs => some (f, a ++ xs ++ c)
  | _, _ => none
def argS : Nat → List SV → List (Nat × SV)
  | _, [] => []
  | i, x :: l => (i, x) :: argS (i + 1) l
def argPC (c : PC) (hq : List AO) (xs : List SV) : Option (prodD (c.ash.flatMap Sh.tys)) := match getL [] [] hq c.ash xs with
  | some p => ofSVs [] _ p
  | none => none
def leaveF (os : List OSh) (ρ : List Nat) (base k : Nat) : Nat := match atN os k, atN ρ k with
  | some o, some id => bif live o then id else base
  | _, _ => base + 1 + (k - os.length)
def srcK (i : Nat) : List OSh → List Nat → Nat → Option Nat
  | o :: os, id :: ids, k => bif live o && Nat.beq id i then some k else srcK i os ids (k + 1)
  | _, _, _ => none
def mapI {α γ : Type} (g : Nat → α → γ) : Nat → List α → List γ
  | _, [] => []
  | i, x :: l => g i x :: mapI g (i + 1) l
def verAt (hp : List AO) (id : Nat) : Nat := match atN hp id with
  | some (.osl v _ _ _) => v
  | _ => 0
def renB (f v : Nat → Nat) : SV → SV
  | .ptr id off => .ptr (f id) off
  | .own id _ => .own (f id) (v id)
  | .ep id _ i off => .ep (f id) (v id) i off
  | .mpr id => .mpr (f id)
  | x => x
def renV (f v : Nat → Nat) : SV → SV
  | .ag l => .ag (l.map (renB f v))
  | x => renB f v x
def renC (f v : Nat → Nat) : SV → SV
  | .fn g a c => .fn g (a.map (renV f v)) (c.map (renV f v))
  | x => renB f v x
def renA (f v : Nat → Nat) : SV → SV
  | .ag l => .ag (l.map (renC f v))
  | x => renC f v x
def renN (f v : Nat → Nat) : AO → AO
  | .blk T cs => .blk T (cs.map (renC f v))
  | o => o
def renO (f v : Nat → Nat) : AO → Option AO → AO
  | _, some (.blk T cs) => .blk T (cs.map (renC f v))
  | .osl r _ _ _, some (.osl _ e T xs) => .osl r e T xs
  | .mp g' _ _ _, some (.mp g K V es) => .mp (g + g') K V es
  | _, _ => .dead
def backHp (f v : Nat → Nat) (os : List OSh) (ρ : List Nat) (hpo hp : List AO) : List AO := mapI (fun i o => match srcK i os ρ 0 with
  | some k => renO f v o (atN hpo k)
  | none => o) 0 hp
def resL (sl : List (Nat × SV)) : Nat → Nat → List SV
  | _, 0 => []
  | i, n + 1 => lkS sl i :: resL sl (i + 1) n
def resT : List SV → SV
  | [x] => x
  | l => .tup l
def leave (os : List OSh) (ρ : List Nat) (nr : Nat) (σ σo : St) (k : SV → St → Option β) : Option β :=
  bif (resL σo.sl 0 nr).all notu then k (resT ((resL σo.sl 0 nr).map (renA (leaveF os ρ σ.hp.length) fun id => verAt σ.hp (leaveF os ρ σ.hp.length id))))
    ⟨σ.sl, backHp (leaveF os ρ σ.hp.length) (fun id => verAt σ.hp (leaveF os ρ σ.hp.length id)) os ρ σo.hp σ.hp ++ (.dead :: (σo.hp.drop os.length).map (renN (leaveF os ρ σ.hp.length) fun id => verAt σ.hp (leaveF os ρ σ.hp.length id)))⟩ else none
inductive Ex where
  | normal | exit (id : Nat) | ret
def exOf : Option Nat → Ex
  | none => .normal
  | some n => bif Nat.beq n 1000000 then .ret else .exit n
def St.app (σ : St) (l : List (Nat × SV)) : St := ⟨σ.sl ++ l, σ.hp⟩
def out (kp : List (Nat × SV)) : (outs : List (Option Nat × Shp)) → DS outs → (Ex → St → Option β) → Option β
  | [], _, _ => none
  | [a], x, k => k (exOf a.1) ((a.2.put x).app kp)
  | a :: b :: l, x, k => match x with
    | .inl x => k (exOf a.1) ((a.2.put x).app kp)
    | .inr x => out kp (b :: l) x k
def callSC (σ : St) (x : Operand) (ash : List Operand) (xs : List SV) (k : SV → St → Option β) : List SC → Option β
  | [] => none
  | c :: l => bif Nat.beq xs.length c.I.sl.length then (match callee (frzL σ (c.I.need 0 ⟨argS 0 xs, σ.hp⟩)) x ash with
    | some (_, xs') => match c.I.get1 (c.I.rho 0 ⟨argS 0 xs', (frzL σ (c.I.need 0 ⟨argS 0 xs, σ.hp⟩)).hp⟩) ⟨argS 0 xs', (frzL σ (c.I.need 0 ⟨argS 0 xs, σ.hp⟩)).hp⟩ with
      | some a => Option.bind (c.p a) fun d => out [] c.outs d fun _ σo => leave c.I.hp (c.I.rho 0 ⟨argS 0 xs', (frzL σ (c.I.need 0 ⟨argS 0 xs, σ.hp⟩)).hp⟩) c.nr (frzL σ (c.I.need 0 ⟨argS 0 xs, σ.hp⟩)) σo k
      | none => callSC σ x ash xs k l
    | none => none) else callSC σ x ash xs k l
def callPC (Γ : CT) (σ : St) (x : Operand) (ash : List Operand) (k : SV → St → Option β) : Option β := match callee σ x ash with
  | some (f, xs) => match pcAt Γ.pc f with
    | some c => bif c.rts.any hasSl then (match callee (frzL σ (xs.flatMap owns)) x ash with
        | some (_, xs') => match argPC c [] xs' with
          | some a => Option.bind (c.p a) fun y => k (resPC c y) (frzL σ (xs.flatMap owns))
          | none => callSC σ x ash xs k (scAt Γ.sc f)
        | none => none)
      else (match argPC c σ.hp xs with
        | some a => Option.bind (c.p a) fun y => k (resPC c y) σ
        | none => callSC σ x ash xs k (scAt Γ.sc f))
    | none => callSC σ x ash xs k (scAt Γ.sc f)
  | none => none
def bslL (σ : St) (e : Ty) : Nat → List (Nat × Operand) → Option (List (den e))
  | _, [] => some []
  | i, (j, x) :: l => bif Nat.beq i j then (match ev σ x with
    | some x => match ofSV [] e x, bslL σ e (i + 1) l with
      | some y, some r => some (y :: r)
      | _, _ => none
    | none => none) else none
def ownsL (σ : St) : List Operand → List Nat
  | [] => []
  | x :: l => match ev σ x with
    | some x => owns x ++ ownsL σ l
    | none => ownsL σ l
def srcL (τ : TE) (hp : List AO) (T T' : TypeId) (e : Ty) (y : SV) : Option (List (den e)) := bif Nat.beq T T' then ofCell hp (.sl e) y else match tyAt τ T' with
  | some ⟨.s, _, _, _, _⟩ => match y with
    | .v .s l => match tyEq (.i .u8) e with
      | some ⟨h⟩ => some (castD (by rw [h] : Ty.sl (.i .u8) = Ty.sl e) (show List UInt8 from l))
      | none => none
    | _ => none
  | _ => none
def op2b (τ : TE) (Γ : CT) (σ : St) (o : Op) (k : SV → St → Option β) : Option β := match o with
  | .call ⟨.builtin .append, ⟨[x, y]⟩, ⟨[T, T']⟩⟩ => match tyAt τ T, ev σ x, ev σ y with
    | some ⟨.sl E, _, _, _, _⟩, some x, some y => match tyAt τ E with
      | some f => bif slOk f then (match x with
        | .own id ver => match atN σ.hp id with
          | some (.osl ver' e E' xs) => bif Nat.beq ver ver' && Nat.beq E E' && Nat.beq f.sz (tsz e) then (match srcL τ σ.hp T T' e y with
            | some ys => Option.bind (app xs ys) fun r => k (.own id (ver + 1)) ⟨σ.sl, setN σ.hp id (.osl (ver + 1) e E r)⟩
            | none => none) else none
          | _ => none
        | .nils => bif Nat.beq f.sz (tsz f.ty) then (match srcL τ σ.hp T T' f.ty y with
            | some ys => Option.bind (app [] ys) fun r => k (.own σ.hp.length 0) ⟨σ.sl, σ.hp ++ [.osl 0 f.ty E r]⟩
            | none => none) else none
        | .emp => bif Nat.beq f.sz (tsz f.ty) && Nat.beq T T' then (match ofCell σ.hp (.sl f.ty) y with
            | some ys => Option.bind (app [] ys) fun r => k (.own σ.hp.length 0) ⟨σ.sl, σ.hp ++ [.osl 0 f.ty E r]⟩
            | none => none) else none
        | .cl e xs => bif Nat.beq f.sz (tsz e) && Nat.beq T T' then (match ofCell σ.hp (.sl e) y with
            | some ys => Option.bind (app xs ys) fun r => k (.v (.sl e) r) σ
            | none => none) else none
        | _ => none) else none
      | none => none
    | _, _, _ => none
  | .buildSlice T n ps => match tyAt τ T with
    | some ⟨.sl E, _, _, _, _⟩ => match tyAt τ E with
      | some f => bif slOk f && Nat.beq f.sz (tsz f.ty) && Nat.beq n ps.toList.length && Nat.ble (n * f.sz) 65536 then (match bslL (frzL σ (ownsL σ (ps.toList.map (·.2)))) f.ty 0 ps.toList with
        | some r => k (.own (frzL σ (ownsL σ (ps.toList.map (·.2)))).hp.length 0) ⟨(frzL σ (ownsL σ (ps.toList.map (·.2)))).sl, (frzL σ (ownsL σ (ps.toList.map (·.2)))).hp ++ [.osl 0 f.ty E r]⟩
        | none => none) else none
      | none => none
    | _ => none
  | .slice T x lo hi none => match ev σ x with
    | some (.own id _) => op1b τ (frz σ id) (.slice T x lo hi none) fun x => k x (frz σ id)
    | _ => op1b τ σ (.slice T x lo hi none) fun x => k x σ
  | .makeMap T none => match tyAt τ T with
    | some ⟨.map K V, _, _, _, _⟩ => match tyAt τ K, tyAt τ V with
      | some a, some c => k (.mpr σ.hp.length) ⟨σ.sl, σ.hp ++ [.mp 0 a.ty c.ty []]⟩
      | _, _ => none
    | _ => none
  | .mapUpdate T m x y => match tyAt τ T with
    | some ⟨.map Kt _, _, _, _, _⟩ => match tyAt τ Kt, ev σ m, ev σ x, ev (frzL σ (ownsL σ [y])) y with
      | some kt, some (.mpr id), some x, some y' => match atN (frzL σ (ownsL σ [y])).hp id with
        | some (.mp g K V es) => match ofSV [] K x, ofSV [] V y' with
          | some key, some v => bif kTd kt.td K then (bif Γ.keep then Option.bind (chk (mhas (keq K) es key)) fun _ => k .undef ⟨(frzL σ (ownsL σ [y])).sl, setN (frzL σ (ownsL σ [y])).hp id (.mp g K V (mrep (keq K) es key v))⟩
            else k .undef ⟨(frzL σ (ownsL σ [y])).sl, setN (frzL σ (ownsL σ [y])).hp id (.mp (g + 1) K V (mset (keq K) (klt K) es key v))⟩) else none
          | _, _ => none
        | _ => none
      | _, _, _, _ => none
    | _ => none
  | .call ⟨.builtin .delete, ⟨[m, x]⟩, ⟨[T, _]⟩⟩ => match tyAt τ T with
    | some ⟨.map Kt _, _, _, _, _⟩ => match tyAt τ Kt, ev σ m, ev σ x with
      | some kt, some (.mpr id), some x => match atN σ.hp id with
        | some (.mp g K V es) => match ofSV [] K x with
          | some key => bif kTd kt.td K then k (.tup []) ⟨σ.sl, setN σ.hp id (.mp g K V (mdel (keq K) es key))⟩ else none
          | none => none
        | _ => none
      | _, _, _ => none
    | _ => none
  | .convert T D x => match tyAt τ T, tyAt τ D with
    | some ⟨.s, _, _, _, _⟩, some ⟨.sl E, _, _, _, _⟩ => match tyAt τ E, ev σ x with
      | some ⟨.int .u8, _, _, _, _⟩, some (.v .s l) => k (.own σ.hp.length 0) ⟨σ.sl, σ.hp ++ [.osl 0 (.i .u8) E l]⟩
      | _, _ => none
    | _, _ => op1 τ σ (.convert T D x) fun x => k x σ
  | o => op1 τ σ o fun x => k x σ
def op2 (τ : TE) (Γ : CT) (σ : St) (o : Op) (T : TypeId) (k : SV → St → Option β) : Option β := match o with
  | .call ⟨.value x, ash, _⟩ => callPC Γ σ x ash.toList k
  | .makeSlice T n c => match tyAt τ T, ev σ n, ev σ c with
    | some ⟨.sl E, _, _, _, _⟩, some (.v (.i q) n), some (.v (.i q') c) => match tyAt τ E with
      | some e => match ofCells [] e.ty e.z with
        | some z => bif slOk e then Option.bind (chk (decide (toI q n ≤ toI q' c) && decide (toI q' c ≤ (LIM : Int)))) fun _ => Option.bind (mkL (toI q n) z) fun xs => k (.own σ.hp.length 0) ⟨σ.sl, σ.hp ++ [.osl 0 e.ty E xs]⟩ else none
        | none => none
      | none => none
    | _, _, _ => none
  | .store T a x => match tyAt τ T, ev σ a, ev σ x with
    | some f, some (.ptr id off), some x => match atN σ.hp id with
      | some (.blk B cs) => bif Nat.beq (cellL x).length f.sz && Nat.ble (off + f.sz) cs.length && notu x then k .undef ⟨σ.sl, setN σ.hp id (.blk B (layS cs off (cellL x)))⟩ else none
      | _ => none
    | some f, some (.ep id ver i 0), some x => match atN σ.hp id with
      | some (.osl ver' e E xs) => bif Nat.beq ver ver' && Nat.beq f.sz (tsz e) then (match ofSV [] e x with
        | some y => Option.bind (setL xs i y) fun r => k .undef ⟨σ.sl, setN σ.hp id (.osl ver' e E r)⟩
        | none => none) else none
      | _ => none
    | some f, some (.ep id ver i off), some x => match atN σ.hp id with
      | some (.osl ver' e E xs) => bif Nat.beq ver ver' && (Nat.beq (cellL x).length f.sz && Nat.ble (off + f.sz) (tsz e) && notu x) then Option.bind (idx xs i) fun x0 => (match ofCells [] e (layS (cellsOf e x0) off (cellL x)) with
        | some y => Option.bind (setL xs i y) fun r => k .undef ⟨σ.sl, setN σ.hp id (.osl ver' e E r)⟩
        | none => none) else none
      | _ => none
    | _, _, _ => none
  | .alloc T => match tyAt τ T with
    | some f => bif f.agg || Nat.beq f.sz 1 then k (.ptr σ.hp.length 0) ⟨σ.sl, σ.hp ++ [.blk T f.z]⟩ else none
    | none => none
  | .box T x => match tyAt τ T, ev σ x with
    | some f, some x => bif Nat.beq (cellL x).length f.sz && notu x then k (.ptr σ.hp.length 0) ⟨σ.sl, σ.hp ++ [.blk T (cellL x)]⟩ else none
    | _, _ => none
  | o => op2b τ Γ σ o k
inductive Mk where
  | sl (d : Nat) (e : Ty) (T : TypeId)
  | cell (d i : Nat) (e : Ty) (T : TypeId)
inductive Hint where
  | loop (mk : List Mk) (s : Shp) (kp : List Nat) (outs : List (Option Nat × Shp))
  | join (mk : List Mk) (kp : List Nat) (outs : List (Option Nat × Shp))
  /-- A region whose order is open: the first nh operations are its head; those of them that are not waited for may run beside the next p, which write into the objects W alone. -/
  | reg (nh : Nat) (W : List Nat) (p : Nat)
  /-- Such a region, whose floats look at no memory. -/
  | regn (nh : Nat)
  /-- Likewise, and its head's last operation lays a new object. -/
  | rega (nh : Nat)
abbrev HT := List (Nat × Hint)
def htAt : HT → Nat → Option Hint
  | [], _ => none
  | (d, x) :: m, t => bif Nat.beq d t then some x else htAt m t
end Go.Proofs.YtmkomlbiaebddaaGreatDoor.Am
namespace Go.Proofs.YtmkomlbiaebddaaGreatDoor.Am
open Go Go.RowKit
def isEx : Option Nat → Ex → Bool
  | none, .normal => true
  | some n, .exit i => Nat.beq n i && !(Nat.beq n 1000000)
  | some n, .ret => Nat.beq n 1000000
  | _, _ => false
def mapO {α γ : Type} (f : α → γ) : Option α → Option γ
  | some x => some (f x)
  | none => none
def dstsL : List Oper → List Nat
  | [] => []
  | o :: l => match o.dst with
    | some d => d :: dstsL l
    | none => dstsL l
def dstsC : Code → List Nat
  | .region _ ops _ => dstsL ops.toList
  | .seq a b => dstsC a ++ dstsC b
  | .cond _ a b => dstsC a ++ dstsC b
  | .block _ b => dstsC b
  | .loop b => dstsC b
  | _ => []
def hasN : List Nat → Nat → Bool
  | [], _ => false
  | x :: l, t => Nat.beq x t || hasN l t
def plainK : SV → Bool
  | .v _ _ => true
  | .nils => true
  | .nilp => true
  | .emp => true
  | .cl _ _ => true
  | .rp _ _ _ => true
  | _ => false
def keepS (D : List Nat) (σ : St) : List Nat → List (Nat × SV)
  | [] => []
  | t :: l => bif !(hasN D t) && plainK (lkS σ.sl t) then (t, lkS σ.sl t) :: keepS D σ l else keepS D σ l
def inj (N0 : Nat) : (outs : List (Option Nat × Shp)) → Ex → St → Option (DS outs)
  | [], _, _ => none
  | [a], e, σ => bif isEx a.1 e then a.2.get N0 σ else none
  | a :: b :: l, e, σ => bif isEx a.1 e then (match a.2.get N0 σ with
    | some x => some (.inl x)
    | none => mapO Sum.inr (inj N0 (b :: l) e σ)) else mapO Sum.inr (inj N0 (b :: l) e σ)
def headId : Code → Nat
  | .region id _ _ => id
  | .seq a _ => headId a
  | .block id _ => 100000 + id
  | .loop b => 200000 + headId b
  | .cond _ a _ => 300000 + headId a
  | _ => 999999
def gslot (all : List Oper) (j : Nat) : Option Nat := match atN all j with
  | some o => o.dst
  | none => none
def putD {β : Type} (n : Nat) (d : Option Nat) (x : SV) (σ : St) (k : St → Option β) : Option β := match d with
  | none => k σ
  | some d => bif Nat.blt d n then k (σ.put d x) else none
def steps {β : Type} (n : Nat) (τ : TE) (Γ : CT) (all : List Oper) : List Oper → St → (St → Option β) → Option β
  | [], σ, k => k σ
  | o :: l, σ, k => match o.guard with
    | none => op2 τ Γ σ o.op o.type fun x σ => putD n o.dst x σ fun σ => steps n τ Γ all l σ k
    | some (j, b) => match gslot all j with
      | some d => match lkS σ.sl d with
        | .v .b t => bif (show Bool from t) then (bif b then op2 τ Γ (σ.put d (.v .b true)) o.op o.type fun x σ => putD n o.dst x σ fun σ => steps n τ Γ all l σ k
            else putD n o.dst .skp (σ.put d (.v .b true)) fun σ => steps n τ Γ all l σ k)
          else (bif b then putD n o.dst .skp (σ.put d (.v .b false)) fun σ => steps n τ Γ all l σ k
            else op2 τ Γ (σ.put d (.v .b false)) o.op o.type fun x σ => putD n o.dst x σ fun σ => steps n τ Γ all l σ k)
        | .skp => putD n o.dst .skp σ fun σ => steps n τ Γ all l σ k
        | _ => none
      | none => none
def lkD : List (Nat × Nat) → Nat → Option Nat
  | [], _ => none
  | (d, j) :: D, t => bif Nat.beq d t then some j else lkD D t
def delD : List (Nat × Nat) → Nat → List (Nat × Nat)
  | [], _ => []
  | (d, j) :: D, t => bif Nat.beq d t then delD D t else (d, j) :: delD D t
def mask (deps : List Nat) : List (Nat × Nat) → List (Nat × SV) → List (Nat × SV)
  | [], l => l
  | (d, j) :: D, l => bif hasN deps j then mask deps D l else (d, .undef) :: mask deps D l
def sval : SV → Option Value
  | .v (.i k) x => some (.int k (toI k x))
  | .v .b x => some (.bool x)
  | .v .s x => some (str x)
  | .nils => some (.slice none 0 0)
  | .nilp => some (.pointer none)
  | _ => none
def svals : List SV → Option (List Value)
  | [] => some []
  | x :: l => match sval x, svals l with
    | some a, some r => some (a :: r)
    | _, _ => none
def svalA : SV → Option Value
  | .ag l => match svals l with
    | some us => some (.agg us.toArray)
    | none => none
  | x => sval x
def svalAs : List SV → Option (List Value)
  | [] => some []
  | x :: l => match svalA x, svalAs l with
    | some a, some r => some (a :: r)
    | _, _ => none
def svalR : SV → Option Value
  | .tup l => match svalAs l with
    | some us => some (.tuple us.toArray)
    | none => none
  | x => svalA x
def hput {β : Type} (n : Nat) (dst : Option Nat) (x : SV) (i : Nat) (abs : Bool) (σ : St) (D : List (Nat × Nat)) (k : St → List (Nat × Nat) → Option β) : Option β := match dst with
  | none => k σ D
  | some d => bif Nat.blt d n then k (σ.put d x) (bif abs then delD D d else match svalR x with
    | some _ => delD D d
    | none => (d, i) :: delD D d) else none
def hcall {β : Type} (Γ : CT) (σ : St) (x : Operand) (ash : List Operand) (k : SV → Option β) : Option β := match callee σ x ash with
  | some (f, xs) => match pcAt Γ.pc f with
    | some c => match argPC c (bif c.rts.any hasSl then [] else σ.hp) xs with
      | some a => Option.bind (c.p a) fun y => k (resPC c y)
      | none => none
    | none => none
  | none => none
def memOp : Op → Bool
  | .load _ _ => true
  | .fieldAddr _ _ _ => true
  | .indexAddr _ _ _ => true
  | .index _ _ _ => true
  | .nilCheck _ => true
  | .build _ _ => true
  | .lookup _ _ _ _ => true
  | .call ⟨.builtin .len, _, _⟩ => true
  | _ => false
def killL (W : List Nat) : Nat → List AO → List AO
  | _, [] => []
  | i, o :: l => (bif hasN W i then .dead else o) :: killL W (i + 1) l
def okF (W : List Nat) : SV → Bool
  | .ptr id _ => !(hasN W id)
  | x => plainK x
def fop {β : Type} (τ : TE) (J : Option (List Nat)) (σ : St) (D : List (Nat × Nat)) (o : Op) (k : SV → Option β) : Option β := match J with
  | none => op0 τ ⟨mask [] D σ.sl, σ.hp⟩ o k
  | some W => bif memOp o then op1 τ ⟨mask [] D σ.sl, killL W 0 σ.hp⟩ o fun x => bif okF W x then k x else none
    else op0 τ ⟨mask [] D σ.sl, σ.hp⟩ o k
def hbsl {β : Type} (τ : TE) (σ : St) (T N : Nat) (ps : List (Nat × Operand)) (k : SV → Option β) : Option β := match tyAt τ T with
  | some ⟨.sl E, _, _, _, _⟩ => match tyAt τ E with
    | some f => bif slOk f && Nat.beq f.sz (tsz f.ty) && Nat.beq N ps.length && Nat.ble (N * f.sz) 65536 then (match bslL σ f.ty 0 ps with
      | some r => k (.v (.sl f.ty) r)
      | none => none) else none
    | none => none
  | _ => none
def hdo {β : Type} (n : Nat) (τ : TE) (Γ : CT) (J : Option (List Nat)) (ops : Array Oper) (nh : Nat) (o : Oper) (i : Nat) (σ : St) (D : List (Nat × Nat)) (k : St → List (Nat × Nat) → Option β) : Option β :=
  bif floats ops nh i then fop τ J σ D o.op fun x => hput n o.dst x i true σ D k
  else match o.op with
    | .call ⟨.value y, ash, _⟩ => hcall Γ ⟨mask (depsOf o) D σ.sl, σ.hp⟩ y ash.toList fun x => hput n o.dst x i false σ D k
    | .buildSlice T N ps => hbsl τ ⟨mask (depsOf o) D σ.sl, σ.hp⟩ T N ps.toList fun x => hput n o.dst x i false σ D k
    | op => op1 τ ⟨mask (depsOf o) D σ.sl, σ.hp⟩ op fun x => hput n o.dst x i false σ D k
def heads {β : Type} (n : Nat) (τ : TE) (Γ : CT) (J : Option (List Nat)) (ops : Array Oper) (all : List Oper) (nh : Nat) : List Oper → Nat → St → List (Nat × Nat) → (St → Option β) → Option β
  | [], _, σ, _, k => k σ
  | o :: l, i, σ, D, k => match o.guard with
    | none => hdo n τ Γ J ops nh o i σ D fun σ D => heads n τ Γ J ops all nh l (i + 1) σ D k
    | some (j, b) => match gslot all j with
      | some d => match lkD D d, lkS σ.sl d with
        | none, .v .b t => bif (show Bool from t) then (bif b then hdo n τ Γ J ops nh o i (σ.put d (.v .b true)) D fun σ D => heads n τ Γ J ops all nh l (i + 1) σ D k
            else hput n o.dst .skp i true (σ.put d (.v .b true)) D fun σ D => heads n τ Γ J ops all nh l (i + 1) σ D k)
          else (bif b then hput n o.dst .skp i true (σ.put d (.v .b false)) D fun σ D => heads n τ Γ J ops all nh l (i + 1) σ D k
            else hdo n τ Γ J ops nh o i (σ.put d (.v .b false)) D fun σ D => heads n τ Γ J ops all nh l (i + 1) σ D k)
        | none, .skp => hput n o.dst .skp i true σ D fun σ D => heads n τ Γ J ops all nh l (i + 1) σ D k
        | _, _ => none
      | none => none
def inHead (Γ : CT) : Op → Bool
  | .store _ _ _ => false
  | .alloc _ => false
  | .box _ _ => false
  | .makeSlice _ _ _ => false
  | .buildSlice _ _ _ => false
  | .mapUpdate _ _ _ _ => false
  | .insert _ _ _ _ => false
  | .makeMap _ _ => false
  | .range _ _ => false
  | .next _ _ => false
  | .call ⟨.builtin .len, _, _⟩ => true
  | .call ⟨.value (.func f), _, _⟩ => match pcAt Γ.pc f with
    | some _ => true
    | none => false
  | .call ⟨.builtin _, _, _⟩ => false
  | _ => true
def headN (Γ : CT) : List Oper → Nat
  | [] => 0
  | o :: l => bif inHead Γ o.op then headN Γ l + 1 else 0
def mvOp : Op → Bool
  | .move _ => true
  | .assign _ => true
  | .pick _ _ _ => true
  | .unOp _ _ _ => true
  | _ => false
def okP (W : List Nat) (σ : St) : Op → Bool
  | .store _ a _ => match ev σ a with
    | some (.ptr id _) => hasN W id
    | _ => false
  | o => mvOp o || memOp o
def stepsP {β : Type} (n : Nat) (τ : TE) (Γ : CT) (W : List Nat) (all : List Oper) : Nat → List Oper → St → (St → Option β) → Option β
  | 0, l, σ, k => steps n τ Γ all l σ k
  | _ + 1, [], σ, k => k σ
  | p + 1, o :: l, σ, k => match o.guard with
    | none => bif okP W σ o.op then op2 τ Γ σ o.op o.type fun x σ => putD n o.dst x σ fun σ => stepsP n τ Γ W all p l σ k else none
    | some _ => none
def drawn0 {β : Type} (n : Nat) (τ : TE) (Γ : CT) (nh : Nat) (ops : Array Oper) (σ : St) (k : St → Option β) : Option β :=
  bif extB ops nh && Nat.ble ops.toList.length 1000000 then heads n τ Γ none ops ops.toList nh (ops.toList.take nh) 0 σ [] fun σ => steps n τ Γ ops.toList (ops.toList.drop nh) σ k else none
def drawnA {β : Type} (n : Nat) (τ : TE) (Γ : CT) (nh : Nat) (ops : Array Oper) (σ : St) (k : St → Option β) : Option β := match atN ops.toList nh with
  | some ⟨some d, .alloc T, _, _, _, none⟩ => match tyAt τ T with
    | some f => bif (f.agg || Nat.beq f.sz 1) && (Nat.blt d n && (!(floats ops (nh + 1) nh) && (extB ops (nh + 1) && Nat.ble ops.toList.length 1000000))) then heads n τ Γ none ops ops.toList (nh + 1) (ops.toList.take nh) 0 σ [] fun σ => steps n τ Γ ops.toList (ops.toList.drop (nh + 1)) ⟨(d, .ptr σ.hp.length 0) :: σ.sl, σ.hp ++ [.blk T f.z]⟩ k else none
    | none => none
  | _ => none
def drawn {β : Type} (n : Nat) (τ : TE) (Γ : CT) (η : HT) (id : Nat) (ops : Array Oper) (σ : St) (k : St → Option β) : Option β := match htAt η (3000000 + id) with
  | some (.reg nh W p) => bif extB ops nh && Nat.ble ops.toList.length 1000000 && allDone ops nh (nh + p) then heads n τ Γ (some W) ops ops.toList nh (ops.toList.take nh) 0 σ [] fun σ => stepsP n τ Γ W ops.toList p (ops.toList.drop nh) σ k else none
  | some (.regn nh) => drawn0 n τ Γ nh ops σ k
  | some (.rega nh) => drawnA n τ Γ nh ops σ k
  | _ => drawn0 n τ Γ (headN Γ ops.toList) ops σ k
def nx {β : Type} (k : Ex → St → Option β) (n : St → Option β) : Ex → St → Option β
  | .normal, σ => n σ
  | e, σ => k e σ
def blk {β : Type} (id : Nat) (k : Ex → St → Option β) : Ex → St → Option β
  | .exit i, σ => bif Nat.beq i id then k .normal σ else k (.exit i) σ
  | e, σ => k e σ
def isNl : SV → Bool
  | .nils => true
  | .emp => true
  | _ => false
def mk1 (σ : St) : Mk → St
  | .sl d e T => bif isNl (lkS σ.sl d) then ⟨(d, .own σ.hp.length 0) :: σ.sl, σ.hp ++ [.osl 0 e T []]⟩ else σ
  | .cell d i e T => match lkS σ.sl d with
    | .ptr id _ => match atN σ.hp id with
      | some (.blk T' cs) => match atN cs i with
        | some c => bif isNl c then ⟨σ.sl, setN (σ.hp ++ [.osl 0 e T []]) id (.blk T' (setN cs i (.own σ.hp.length 0)))⟩ else σ
        | none => σ
      | _ => σ
    | _ => σ
def layMk (σ : St) : List Mk → St
  | [] => σ
  | x :: l => layMk (mk1 σ x) l
def run (N0 n : Nat) (τ : TE) (Γ : CT) (η : HT) : Code → {β : Type} → St → (Ex → St → Option β) → Option β
  | .skip, _, σ, k => k .normal σ
  | .region id ops d, _, σ, k => bif d then drawn n τ Γ η id ops σ (k .normal) else steps n τ Γ ops.toList ops.toList σ (k .normal)
  | .seq a b, _, σ, k => match htAt η (2000000 + headId b) with
    | some (.join mk kp outs) => Option.bind (run N0 n τ Γ η a (layMk σ mk) (inj N0 outs)) fun d => out (keepS (dstsC a) (layMk σ mk) kp) outs d (nx k fun σ => run N0 n τ Γ η b σ k)
    | _ => run N0 n τ Γ η a σ (nx k fun σ => run N0 n τ Γ η b σ k)
  | .cond c a b, _, σ, k => match ev σ c with
    | some (.v .b t) => bif t then run N0 n τ Γ η a σ k else run N0 n τ Γ η b σ k
    | _ => none
  | .block id b, _, σ, k => match htAt η (100000 + id) with
    | some (.join mk kp outs) => Option.bind (run N0 n τ Γ η b (layMk σ mk) (blk id (inj N0 outs))) fun d => out (keepS (dstsC b) (layMk σ mk) kp) outs d k
    | _ => run N0 n τ Γ η b σ (blk id k)
  | .loop b, _, σ, k => match htAt η (200000 + headId b) with
    | some (.loop mk s kp outs) => match s.get N0 (layMk σ mk) with
      | some s0 => Option.bind (iter (fun x => run N0 n τ Γ η b ((s.put x).app (keepS (dstsC b) (layMk σ mk) kp)) (nx (fun e σ => mapO Sum.inr (inj N0 outs e σ)) fun σ => mapO Sum.inl (s.get N0 σ))) s0) fun d => out (keepS (dstsC b) (layMk σ mk) kp) outs d k
      | none => none
    | _ => none
  | .exit id, _, σ, k => k (.exit id) σ
  | .ret, _, σ, k => k .ret σ
  | _, _, _, _ => none
def resV (τ : TE) (σ : St) : ResultVar → Option SV
  | .tmp t => some (lkS σ.sl t)
  | .cell t T => match tyAt τ T with
    | some f => deref σ.hp (lkS σ.sl t) f.sz fun l => svAt f l
    | none => none
def resVs (τ : TE) (σ : St) : List ResultVar → Option (List SV)
  | [] => some []
  | r :: l => match resV τ σ r, resVs τ σ l with
    | some x, some y => some (x :: y)
    | _, _ => none
def fin (τ : TE) (f : Func) (rts : List Ty) (e : Ex) (σ : St) : Option (prodD rts) := match e with
  | .exit _ => none
  | _ => match resVs τ σ f.results.toList with
    | some l => match resVs τ (frzL σ (l.flatMap owns)) f.results.toList with
      | some l => ofSVs [] rts l
      | none => none
    | none => none
def fnP (τ : TE) (Γ : CT) (η : HT) (f : Func) (ash : List Sh) (rts : List Ty) (a : prodD (ash.flatMap Sh.tys)) : Option (prodD rts) := match f.body with
  | none => none
  | some c => run 0 f.ntmps τ Γ η c ⟨argS 0 (putL ash (toSVs _ a)).1, []⟩ (fin τ f rts)
def finS (τ : TE) (f : Func) (N0 : Nat) (outs : List (Option Nat × Shp)) (e : Ex) (σ : St) : Option (DS outs) := match e with
  | .exit _ => none
  | _ => match resVs τ σ f.results.toList with
    | some l => inj N0 outs .normal ⟨argS 0 l, σ.hp⟩
    | none => none
def fnS (τ : TE) (Γ : CT) (η : HT) (f : Func) (I : Shp) (outs : List (Option Nat × Shp)) (a : prodD I.tys) : Option (DS outs) := match f.body with
  | none => none
  | some c => run I.hp.length f.ntmps τ Γ η c (I.put a) (finS τ f I.hp.length outs)
end Go.Proofs.YtmkomlbiaebddaaGreatDoor.Am
