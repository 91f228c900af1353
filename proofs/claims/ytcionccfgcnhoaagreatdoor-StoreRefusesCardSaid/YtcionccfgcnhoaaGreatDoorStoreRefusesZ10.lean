/-
  Shelf, SnL, Sn0, Sn1, E30, E31, Fi1, Fi2, SortLay, SortS, Fi3, Fi4, Fi5
-/
import Derived.Test.YtcionccfgcnhoaaGreatDoorStoreRefusesZ9
import Derived.Shelf.Strings.Builder1
import Derived.Shelf.Strings.Builder2
import Derived.Shelf.Small.Bits
import Derived.Shelf.Small.Wraps
import Derived.Shelf.Strings.BuilderF
import Derived.Shelf.Strconv.Atoi
import Derived.Shelf.Strconv.Itoa0
import Derived.Shelf.Strconv.Itoa1
import Derived.Shelf.LaysM
import Derived.Shelf.Strconv.Itoa2
import Derived.Shelf.Strconv.Itoa3
import Derived.Shelf.Strconv.AtoiErrFast
import Derived.Shelf.Strconv.ParseIntEmpty
import Derived.Shelf.Strconv.AtoiFail
import Derived.Shelf.Strconv.Clone
import Derived.Shelf.Strconv.SyntaxError
import Derived.Shelf.LaysC
import Derived.Shelf.Strconv.ToError
import Derived.Shelf.Strconv.Lower
import Derived.Shelf.Strconv.ParseUint10
import Derived.Shelf.Strconv.ParseUint10Empty
import Derived.Shelf.Strconv.ParseUint10Any
import Derived.Shelf.Strconv.ParseInt10
import Derived.Shelf.Strconv.AtoiLong
import Derived.Shelf.Strconv.AtoiInnerAll
import Derived.Shelf.Strconv.RangeError
import Derived.Shelf.Strconv.ToErrorRange
import Derived.Shelf.Strconv.AtoiAll
import Derived.Shelf.Strconv.ErrVarAll
import Derived.Shelf.Strings.Prefix
import Derived.Shelf.Bits.Mul64
import Derived.Shelf.Strings.Repeat
import Derived.Shelf.Slices.In.SortNone
import Derived.Test.YtcionccfgcnhoaaGreatDoorProg
import Derived.Lib.AtoiAll
import Derived.Lib.ItoaNum
import Derived.Lib.Repeat
import Derived.Lib.Strings
import Derived.MapKept
import Derived.Laws.NewFold
import Derived.Shelf.Slices.In.SortAlone
namespace Go.Proofs
open Go.Shelf
def Tryz.lays103_ren : Go.Shelf.Ren := ⟨fun | 103 => 138 | 210 => 174 | 206 => 137 | n => n, fun | 9 => 9 | 4 => 4 | 24 => 201 | 3 => 3 | n => n, fun | n => n⟩
theorem Tryz.lays103 : Go.Proofs.Lays.n103 Tryz.prog Tryz.lays103_ren := {
  mixed := by kernel_rfl
  f103 := Tryz.func138.trans (congrArg some (by kernel_rfl))
  f206 := Tryz.func137.trans (congrArg some (by kernel_rfl))
  f210 := Tryz.func174.trans (congrArg some (by kernel_rfl))
  t3 := Tryz.underlying3
  a3 := Tryz.isAgg3
  z3 := Tryz.sizeOf3
  v3 := Tryz.zeroValue3
  t4 := Tryz.underlying4
  a4 := Tryz.isAgg4
  z4 := Tryz.sizeOf4
  v4 := Tryz.zeroValue4
  t9 := Tryz.underlying9
  a9 := Tryz.isAgg9
  z9 := Tryz.sizeOf9
  v9 := Tryz.zeroValue9
  t24 := Tryz.underlying201
  a24 := Tryz.isAgg201
  z24 := Tryz.sizeOf201
  v24 := Tryz.zeroValue201 }
open Go.RowKit in
theorem Tryz.strings_CutPrefix (s p : ByteArray) (w : World) :
    Calls Tryz.prog 138 #[.string s, .string p] w fun e w' => e = .returned (.tuple #[.string ⟨(Lib.trimPrefix s.data.toList p.data.toList).toArray⟩, .bool (Lib.hasPrefix s.data.toList p.data.toList)]) ∧ w' = w := Any.strings_CutPrefix Tryz.lays103 s p w
def Tryz.laysM171_ren : Go.Shelf.Ren := ⟨fun | 171 => 57 | 243 => 100 | 246 => 144 | 283 => 177 | 284 => 178 | 285 => 179 | 286 => 180 | 129 => 162 | 317 => 201 | 318 => 202 | 319 => 203 | 320 => 204 | 337 => 221 | 338 => 222 | n => n, fun | 3 => 3 | 9 => 9 | 2 => 2 | 4 => 4 | 171 => 235 | 0 => 0 | 53 => 35 | 37 => 80 | 5 => 5 | 173 => 237 | 212 => 260 | 51 => 193 | 20 => 20 | 213 => 261 | 46 => 159 | 232 => 287 | 233 => 288 | n => n, fun | 17 => 0 | 18 => 4 | 19 => 5 | n => n⟩
theorem Tryz.laysM171 : Go.Proofs.LaysM.n171 Tryz.prog Tryz.laysM171_ren := {
  mixed := by kernel_rfl
  f129 := Tryz.func162.trans (congrArg some (by kernel_rfl))
  f171 := Tryz.func57.trans (congrArg some (by kernel_rfl))
  f243 := Tryz.func100.trans (congrArg some (by kernel_rfl))
  f246 := Tryz.func144.trans (congrArg some (by kernel_rfl))
  f283 := Tryz.func177.trans (congrArg some (by kernel_rfl))
  f284 := Tryz.func178.trans (congrArg some (by kernel_rfl))
  f285 := Tryz.func179.trans (congrArg some (by kernel_rfl))
  f286 := Tryz.func180.trans (congrArg some (by kernel_rfl))
  f317 := Tryz.func201.trans (congrArg some (by kernel_rfl))
  f318 := Tryz.func202.trans (congrArg some (by kernel_rfl))
  f319 := Tryz.func203.trans (congrArg some (by kernel_rfl))
  f320 := Tryz.func204.trans (congrArg some (by kernel_rfl))
  f337 := Tryz.func221.trans (congrArg some (by kernel_rfl))
  f338 := Tryz.func222.trans (congrArg some (by kernel_rfl))
  t0 := Tryz.underlying0
  a0 := Tryz.isAgg0
  z0 := Tryz.sizeOf0
  v0 := Tryz.zeroValue0
  t2 := Tryz.underlying2
  a2 := Tryz.isAgg2
  z2 := Tryz.sizeOf2
  v2 := Tryz.zeroValue2
  t3 := Tryz.underlying3
  a3 := Tryz.isAgg3
  z3 := Tryz.sizeOf3
  v3 := Tryz.zeroValue3
  t4 := Tryz.underlying4
  a4 := Tryz.isAgg4
  z4 := Tryz.sizeOf4
  v4 := Tryz.zeroValue4
  t5 := Tryz.underlying5
  a5 := Tryz.isAgg5
  z5 := Tryz.sizeOf5
  v5 := Tryz.zeroValue5
  t9 := Tryz.underlying9
  a9 := Tryz.isAgg9
  z9 := Tryz.sizeOf9
  v9 := Tryz.zeroValue9
  t20 := Tryz.underlying20
  a20 := Tryz.isAgg20
  z20 := Tryz.sizeOf20
  v20 := Tryz.zeroValue20
  t37 := Tryz.underlying80
  a37 := Tryz.isAgg80
  z37 := Tryz.sizeOf80
  v37 := Tryz.zeroValue80
  t46 := Tryz.underlying159
  a46 := Tryz.isAgg159
  z46 := Tryz.sizeOf159
  v46 := Tryz.zeroValue159
  t51 := Tryz.underlying193
  a51 := Tryz.isAgg193
  z51 := Tryz.sizeOf193
  v51 := Tryz.zeroValue193
  t53 := Tryz.underlying35
  a53 := Tryz.isAgg35
  z53 := Tryz.sizeOf35
  v53 := Tryz.zeroValue35
  t171 := Tryz.underlying235
  a171 := Tryz.isAgg235
  z171 := Tryz.sizeOf235
  v171 := Tryz.zeroValue235
  t173 := Tryz.underlying237
  a173 := Tryz.isAgg237
  z173 := Tryz.sizeOf237
  v173 := Tryz.zeroValue237
  t212 := Tryz.underlying260
  a212 := Tryz.isAgg260
  z212 := Tryz.sizeOf260
  v212 := Tryz.zeroValue260
  t213 := Tryz.underlying261
  a213 := Tryz.isAgg261
  z213 := Tryz.sizeOf261
  t232 := Tryz.underlying287
  a232 := Tryz.isAgg287
  z232 := Tryz.sizeOf287
  v232 := Tryz.zeroValue287
  t233 := Tryz.underlying288
  a233 := Tryz.isAgg288
  z233 := Tryz.sizeOf288
  v233 := Tryz.zeroValue288
  g17 := by kernel_rfl
  g18 := by kernel_rfl
  g19 := by kernel_rfl
  i0 := by kernel_rfl
  i2 := by kernel_rfl
  i3 := by kernel_rfl
  i4 := by kernel_rfl
  i5 := by kernel_rfl
  i9 := by kernel_rfl
  i20 := by kernel_rfl
  i37 := by kernel_rfl
  i46 := by kernel_rfl
  i51 := by kernel_rfl
  i53 := by kernel_rfl
  i171 := by kernel_rfl
  i173 := by kernel_rfl
  i212 := by kernel_rfl
  i232 := by kernel_rfl
  i233 := by kernel_rfl
  m17 := by kernel_rfl
  m18 := by kernel_rfl
  m19 := by kernel_rfl }
open Go.RowKit Go.Sort Go.Lib in
theorem Tryz.strconv_Itoa (n : Int) (h0 : -9223372036854775808 ≤ n) (h1 : n ≤ 9223372036854775807) (w : World) (htab : Lib.TabIs Tryz.prog w "internal/strconv.uint64pow10" .u64 Lib.pow10Tab) :
    Calls Tryz.prog 57 #[.int .i64 n] w fun e w' => e = .returned (.string ⟨(Lib.itoa n).toArray⟩) ∧ ∃ k os, w' = grow (w.drewN k) os := Any.strconv_Itoa Tryz.laysM171 n h0 h1 w htab
def Tryz.laysC172_ren : Go.Shelf.Ren := ⟨fun | 172 => 139 | 244 => 175 | 245 => 176 | 247 => 196 | 279 => 197 | 280 => 198 | 281 => 199 | 282 => 200 | 287 => 218 | 316 => 219 | 171 => 57 | 205 => 220 | 321 => 228 | 322 => 229 | 243 => 100 | 246 => 144 | 283 => 177 | 284 => 178 | 285 => 179 | 286 => 180 | 129 => 162 | 317 => 201 | 318 => 202 | 319 => 203 | 320 => 204 | 337 => 221 | 338 => 222 | n => n, fun | 9 => 9 | 3 => 3 | 75 => 167 | 76 => 168 | 4 => 4 | 5 => 5 | 167 => 253 | 37 => 80 | 0 => 0 | 85 => 254 | 2 => 2 | 168 => 256 | 53 => 35 | 175 => 273 | 46 => 159 | 210 => 277 | 127 => 213 | 145 => 286 | 143 => 284 | 21 => 21 | 171 => 235 | 173 => 237 | 212 => 260 | 51 => 193 | 20 => 20 | 213 => 261 | 232 => 287 | 233 => 288 | 80 => 170 | n => n, fun | 15 => 2 | 16 => 3 | 17 => 0 | 18 => 4 | 19 => 5 | n => n⟩
theorem Tryz.laysC172 : Go.Proofs.LaysC.n172 Tryz.prog Tryz.laysC172_ren := {
  mixed := by kernel_rfl
  f129 := Tryz.func162.trans (congrArg some (by kernel_rfl))
  f171 := Tryz.func57.trans (congrArg some (by kernel_rfl))
  f172 := Tryz.func139.trans (congrArg some (by kernel_rfl))
  f205 := Tryz.func220.trans (congrArg some (by kernel_rfl))
  f243 := Tryz.func100.trans (congrArg some (by kernel_rfl))
  f244 := Tryz.func175.trans (congrArg some (by kernel_rfl))
  f245 := Tryz.func176.trans (congrArg some (by kernel_rfl))
  f246 := Tryz.func144.trans (congrArg some (by kernel_rfl))
  f247 := Tryz.func196.trans (congrArg some (by kernel_rfl))
  f279 := Tryz.func197.trans (congrArg some (by kernel_rfl))
  f280 := Tryz.func198.trans (congrArg some (by kernel_rfl))
  f281 := Tryz.func199.trans (congrArg some (by kernel_rfl))
  f282 := Tryz.func200.trans (congrArg some (by kernel_rfl))
  f283 := Tryz.func177.trans (congrArg some (by kernel_rfl))
  f284 := Tryz.func178.trans (congrArg some (by kernel_rfl))
  f285 := Tryz.func179.trans (congrArg some (by kernel_rfl))
  f286 := Tryz.func180.trans (congrArg some (by kernel_rfl))
  f287 := Tryz.func218.trans (congrArg some (by kernel_rfl))
  f316 := Tryz.func219.trans (congrArg some (by kernel_rfl))
  f317 := Tryz.func201.trans (congrArg some (by kernel_rfl))
  f318 := Tryz.func202.trans (congrArg some (by kernel_rfl))
  f319 := Tryz.func203.trans (congrArg some (by kernel_rfl))
  f320 := Tryz.func204.trans (congrArg some (by kernel_rfl))
  f321 := Tryz.func228.trans (congrArg some (by kernel_rfl))
  f322 := Tryz.func229.trans (congrArg some (by kernel_rfl))
  f337 := Tryz.func221.trans (congrArg some (by kernel_rfl))
  f338 := Tryz.func222.trans (congrArg some (by kernel_rfl))
  t0 := Tryz.underlying0
  a0 := Tryz.isAgg0
  z0 := Tryz.sizeOf0
  v0 := Tryz.zeroValue0
  t2 := Tryz.underlying2
  a2 := Tryz.isAgg2
  z2 := Tryz.sizeOf2
  v2 := Tryz.zeroValue2
  t3 := Tryz.underlying3
  a3 := Tryz.isAgg3
  z3 := Tryz.sizeOf3
  v3 := Tryz.zeroValue3
  t4 := Tryz.underlying4
  a4 := Tryz.isAgg4
  z4 := Tryz.sizeOf4
  v4 := Tryz.zeroValue4
  t5 := Tryz.underlying5
  a5 := Tryz.isAgg5
  z5 := Tryz.sizeOf5
  v5 := Tryz.zeroValue5
  t9 := Tryz.underlying9
  a9 := Tryz.isAgg9
  z9 := Tryz.sizeOf9
  v9 := Tryz.zeroValue9
  t20 := Tryz.underlying20
  a20 := Tryz.isAgg20
  z20 := Tryz.sizeOf20
  v20 := Tryz.zeroValue20
  t21 := Tryz.underlying21
  a21 := Tryz.isAgg21
  z21 := Tryz.sizeOf21
  v21 := Tryz.zeroValue21
  t37 := Tryz.underlying80
  a37 := Tryz.isAgg80
  z37 := Tryz.sizeOf80
  v37 := Tryz.zeroValue80
  t46 := Tryz.underlying159
  a46 := Tryz.isAgg159
  z46 := Tryz.sizeOf159
  v46 := Tryz.zeroValue159
  t51 := Tryz.underlying193
  a51 := Tryz.isAgg193
  z51 := Tryz.sizeOf193
  v51 := Tryz.zeroValue193
  t53 := Tryz.underlying35
  a53 := Tryz.isAgg35
  z53 := Tryz.sizeOf35
  v53 := Tryz.zeroValue35
  t75 := Tryz.underlying167
  a75 := Tryz.isAgg167
  z75 := Tryz.sizeOf167
  v75 := Tryz.zeroValue167
  t76 := Tryz.underlying168
  a76 := Tryz.isAgg168
  z76 := Tryz.sizeOf168
  v76 := Tryz.zeroValue168
  t85 := Tryz.underlying254
  a85 := Tryz.isAgg254
  z85 := Tryz.sizeOf254
  v85 := Tryz.zeroValue254
  t127 := Tryz.underlying213
  a127 := Tryz.isAgg213
  z127 := Tryz.sizeOf213
  v127 := Tryz.zeroValue213
  t143 := Tryz.underlying284
  a143 := Tryz.isAgg284
  z143 := Tryz.sizeOf284
  v143 := Tryz.zeroValue284
  t145 := Tryz.underlying286
  a145 := Tryz.isAgg286
  z145 := Tryz.sizeOf286
  v145 := Tryz.zeroValue286
  t167 := Tryz.underlying253
  a167 := Tryz.isAgg253
  z167 := Tryz.sizeOf253
  v167 := Tryz.zeroValue253
  t168 := Tryz.underlying256
  a168 := Tryz.isAgg256
  z168 := Tryz.sizeOf256
  v168 := Tryz.zeroValue256
  t171 := Tryz.underlying235
  a171 := Tryz.isAgg235
  z171 := Tryz.sizeOf235
  v171 := Tryz.zeroValue235
  t173 := Tryz.underlying237
  a173 := Tryz.isAgg237
  z173 := Tryz.sizeOf237
  v173 := Tryz.zeroValue237
  t175 := Tryz.underlying273
  a175 := Tryz.isAgg273
  z175 := Tryz.sizeOf273
  v175 := Tryz.zeroValue273
  t210 := Tryz.underlying277
  a210 := Tryz.isAgg277
  z210 := Tryz.sizeOf277
  v210 := Tryz.zeroValue277
  t212 := Tryz.underlying260
  a212 := Tryz.isAgg260
  z212 := Tryz.sizeOf260
  v212 := Tryz.zeroValue260
  t213 := Tryz.underlying261
  a213 := Tryz.isAgg261
  z213 := Tryz.sizeOf261
  t232 := Tryz.underlying287
  a232 := Tryz.isAgg287
  z232 := Tryz.sizeOf287
  v232 := Tryz.zeroValue287
  t233 := Tryz.underlying288
  a233 := Tryz.isAgg288
  z233 := Tryz.sizeOf288
  v233 := Tryz.zeroValue288
  g15 := by kernel_rfl
  g16 := by kernel_rfl
  g17 := by kernel_rfl
  g18 := by kernel_rfl
  g19 := by kernel_rfl
  t80 := Tryz.underlying170
  a80 := Tryz.isAgg170
  z80 := Tryz.sizeOf170
  v80 := Tryz.zeroValue170
  i0 := by kernel_rfl
  i2 := by kernel_rfl
  i3 := by kernel_rfl
  i4 := by kernel_rfl
  i5 := by kernel_rfl
  i9 := by kernel_rfl
  i20 := by kernel_rfl
  i21 := by kernel_rfl
  i37 := by kernel_rfl
  i46 := by kernel_rfl
  i51 := by kernel_rfl
  i53 := by kernel_rfl
  i75 := by kernel_rfl
  i76 := by kernel_rfl
  i80 := by kernel_rfl
  i85 := by kernel_rfl
  i127 := by kernel_rfl
  i143 := by kernel_rfl
  i145 := by kernel_rfl
  i167 := by kernel_rfl
  i168 := by kernel_rfl
  i171 := by kernel_rfl
  i173 := by kernel_rfl
  i175 := by kernel_rfl
  i210 := by kernel_rfl
  i212 := by kernel_rfl
  i232 := by kernel_rfl
  i233 := by kernel_rfl
  m15 := by kernel_rfl
  m16 := by kernel_rfl
  m17 := by kernel_rfl
  m18 := by kernel_rfl
  m19 := by kernel_rfl
  c0 := by kernel_rfl
  c2 := by kernel_rfl
  c3 := by kernel_rfl
  c4 := by kernel_rfl
  c5 := by kernel_rfl
  c9 := by kernel_rfl
  c20 := by kernel_rfl
  c21 := by kernel_rfl
  c37 := by kernel_rfl
  c46 := by kernel_rfl
  c51 := by kernel_rfl
  c53 := by kernel_rfl
  c75 := by kernel_rfl
  c76 := by kernel_rfl
  c80 := by kernel_rfl
  c85 := by kernel_rfl
  c127 := by kernel_rfl
  c143 := by kernel_rfl
  c145 := by kernel_rfl
  c167 := by kernel_rfl
  c168 := by kernel_rfl
  c171 := by kernel_rfl
  c173 := by kernel_rfl
  c175 := by kernel_rfl
  c210 := by kernel_rfl
  c212 := by kernel_rfl
  c213 := by kernel_rfl
  c232 := by kernel_rfl
  c233 := by kernel_rfl }
open Go.RowKit in
theorem Tryz.strconv_Atoi_ok (s : ByteArray) (hmax : s.size ≤ 9223372036854775806) (v : Int) (h : Lib.atoiAll s.data.toList = .ok v) (w : World) :
    Calls Tryz.prog 139 #[.string s] w fun e w' => e = .returned (.tuple #[.int .i64 v, .nilIface]) ∧ (w' = w ∨ ∃ t, w' = Lib.bytesWorld w 5 t) := Any.strconv_Atoi_ok Tryz.laysC172 s hmax v h w
open Go.RowKit in
theorem Tryz.strconv_Atoi_syntax_var (s : ByteArray) (hlim : s.size ≤ 281474976710656) (h : Lib.atoiAll s.data.toList = Lib.atoiAll []) (tp : TypeId) (p : Value) (w : World) (hvar : w.var? Tryz.prog "strconv.ErrSyntax" = some #[.iface tp p]) :
    Calls Tryz.prog 139 #[.string s] w fun e w' => ∃ N, e = .returned (.tuple #[.int .i64 0, .iface 256 (.pointer (some ⟨N, 0, none⟩))]) ∧ w.heap.size ≤ N ∧ w'.heap[N]? = some (.cells #[.string ⟨#[65, 116, 111, 105]⟩, .string s, .iface tp p] 277 (0, 0)) ∧ Below w.heap.size w w' := Any.strconv_Atoi_syntax_var Tryz.laysC172 s hlim h tp p w hvar
open Go.RowKit in
theorem Tryz.strconv_Atoi_range_var (s : ByteArray) (hlim : s.size ≤ 281474976710656) (h : Lib.atoiAll s.data.toList = .range) (tp : TypeId) (p : Value) (w : World) (hvar : w.var? Tryz.prog "strconv.ErrRange" = some #[.iface tp p]) :
    Calls Tryz.prog 139 #[.string s] w fun e w' => ∃ N, e = .returned (.tuple #[.int .i64 (Lib.atoiSat s.data.toList), .iface 256 (.pointer (some ⟨N, 0, none⟩))]) ∧ w.heap.size ≤ N ∧ w'.heap[N]? = some (.cells #[.string ⟨#[65, 116, 111, 105]⟩, .string s, .iface tp p] 277 (0, 0)) ∧ Below w.heap.size w w' := Any.strconv_Atoi_range_var Tryz.laysC172 s hlim h tp p w hvar
def Tryz.lays99_ren : Go.Shelf.Ren := ⟨fun | 99 => 92 | 206 => 137 | n => n, fun | 9 => 9 | 4 => 4 | 3 => 3 | n => n, fun | n => n⟩
theorem Tryz.lays99 : Go.Proofs.Lays.n99 Tryz.prog Tryz.lays99_ren := {
  mixed := by kernel_rfl
  f99 := Tryz.func92.trans (congrArg some (by kernel_rfl))
  f206 := Tryz.func137.trans (congrArg some (by kernel_rfl))
  t3 := Tryz.underlying3
  a3 := Tryz.isAgg3
  z3 := Tryz.sizeOf3
  v3 := Tryz.zeroValue3
  t4 := Tryz.underlying4
  a4 := Tryz.isAgg4
  z4 := Tryz.sizeOf4
  v4 := Tryz.zeroValue4
  t9 := Tryz.underlying9
  a9 := Tryz.isAgg9
  z9 := Tryz.sizeOf9
  v9 := Tryz.zeroValue9 }
open Go.RowKit Go.Lib in
theorem Tryz.strings_HasPrefix (s p : ByteArray) (w : World) :
    Calls Tryz.prog 92 #[.string s, .string p] w fun e w' => e = .returned (.bool (Lib.hasPrefix s.data.toList p.data.toList)) ∧ w' = w := Any.strings_HasPrefix Tryz.lays99 s p w
def Tryz.lays105_ren : Go.Shelf.Ren := ⟨fun | 105 => 58 | 212 => 101 | 99 => 92 | 165 => 102 | 166 => 103 | 170 => 104 | 169 => 105 | 263 => 145 | 264 => 146 | 206 => 137 | 240 => 147 | 241 => 148 | 276 => 181 | 277 => 182 | n => n, fun | 9 => 9 | 3 => 3 | 4 => 4 | 20 => 20 | 0 => 0 | 46 => 159 | 109 => 160 | 5 => 5 | 72 => 164 | 76 => 168 | 51 => 193 | 146 => 209 | 53 => 35 | 148 => 211 | 70 => 162 | 37 => 80 | 75 => 167 | 127 => 213 | 164 => 239 | 80 => 170 | n => n, fun | n => n⟩
theorem Tryz.lays105 : Go.Proofs.Lays.n105 Tryz.prog Tryz.lays105_ren := {
  mixed := by kernel_rfl
  f99 := Tryz.func92.trans (congrArg some (by kernel_rfl))
  f105 := Tryz.func58.trans (congrArg some (by kernel_rfl))
  f165 := Tryz.func102.trans (congrArg some (by kernel_rfl))
  f166 := Tryz.func103.trans (congrArg some (by kernel_rfl))
  f169 := Tryz.func105.trans (congrArg some (by kernel_rfl))
  f170 := Tryz.func104.trans (congrArg some (by kernel_rfl))
  f206 := Tryz.func137.trans (congrArg some (by kernel_rfl))
  f212 := Tryz.func101.trans (congrArg some (by kernel_rfl))
  f240 := Tryz.func147.trans (congrArg some (by kernel_rfl))
  f241 := Tryz.func148.trans (congrArg some (by kernel_rfl))
  f263 := Tryz.func145.trans (congrArg some (by kernel_rfl))
  f264 := Tryz.func146.trans (congrArg some (by kernel_rfl))
  f276 := Tryz.func181.trans (congrArg some (by kernel_rfl))
  f277 := Tryz.func182.trans (congrArg some (by kernel_rfl))
  t0 := Tryz.underlying0
  a0 := Tryz.isAgg0
  z0 := Tryz.sizeOf0
  v0 := Tryz.zeroValue0
  t3 := Tryz.underlying3
  a3 := Tryz.isAgg3
  z3 := Tryz.sizeOf3
  v3 := Tryz.zeroValue3
  t4 := Tryz.underlying4
  a4 := Tryz.isAgg4
  z4 := Tryz.sizeOf4
  v4 := Tryz.zeroValue4
  t5 := Tryz.underlying5
  a5 := Tryz.isAgg5
  z5 := Tryz.sizeOf5
  v5 := Tryz.zeroValue5
  t9 := Tryz.underlying9
  a9 := Tryz.isAgg9
  z9 := Tryz.sizeOf9
  v9 := Tryz.zeroValue9
  t20 := Tryz.underlying20
  a20 := Tryz.isAgg20
  z20 := Tryz.sizeOf20
  v20 := Tryz.zeroValue20
  t37 := Tryz.underlying80
  a37 := Tryz.isAgg80
  z37 := Tryz.sizeOf80
  v37 := Tryz.zeroValue80
  t46 := Tryz.underlying159
  a46 := Tryz.isAgg159
  z46 := Tryz.sizeOf159
  v46 := Tryz.zeroValue159
  t51 := Tryz.underlying193
  a51 := Tryz.isAgg193
  z51 := Tryz.sizeOf193
  v51 := Tryz.zeroValue193
  t53 := Tryz.underlying35
  a53 := Tryz.isAgg35
  z53 := Tryz.sizeOf35
  v53 := Tryz.zeroValue35
  t70 := Tryz.underlying162
  a70 := Tryz.isAgg162
  z70 := Tryz.sizeOf162
  v70 := Tryz.zeroValue162
  t72 := Tryz.underlying164
  a72 := Tryz.isAgg164
  z72 := Tryz.sizeOf164
  v72 := Tryz.zeroValue164
  t75 := Tryz.underlying167
  a75 := Tryz.isAgg167
  z75 := Tryz.sizeOf167
  v75 := Tryz.zeroValue167
  t76 := Tryz.underlying168
  a76 := Tryz.isAgg168
  z76 := Tryz.sizeOf168
  v76 := Tryz.zeroValue168
  t109 := Tryz.underlying160
  a109 := Tryz.isAgg160
  z109 := Tryz.sizeOf160
  v109 := Tryz.zeroValue160
  t127 := Tryz.underlying213
  a127 := Tryz.isAgg213
  z127 := Tryz.sizeOf213
  v127 := Tryz.zeroValue213
  t146 := Tryz.underlying209
  a146 := Tryz.isAgg209
  z146 := Tryz.sizeOf209
  v146 := Tryz.zeroValue209
  t148 := Tryz.underlying211
  a148 := Tryz.isAgg211
  z148 := Tryz.sizeOf211
  v148 := Tryz.zeroValue211
  t164 := Tryz.underlying239
  a164 := Tryz.isAgg239
  z164 := Tryz.sizeOf239
  v164 := Tryz.zeroValue239 }
theorem Tryz.Builder_Extra_105 : Builder.Extra Tryz.prog Tryz.lays105_ren := {
  sizeBuilder := by kernel_rfl
  liesBuilder := by kernel_rfl
  t5 := Tryz.underlying5
  a5 := Tryz.isAgg5
  z5 := Tryz.sizeOf5
  v5 := Tryz.zeroValue5
  infoByte := by kernel_rfl
  cellsByte := by kernel_rfl
  sizeByte := by kernel_rfl
  neB5 := by decide }
open Go.RowKit Go.Lib in
theorem Tryz.strings_Repeat (s : ByteArray) (c : Nat) (w : World) (hc : c ≤ 9223372036854775807) (hlen : s.size * c ≤ 140737488355328) :
    Calls Tryz.prog 58 #[.string s, .int .i64 c] w fun e w' => e = .returned (.string ⟨(Lib.repeatL s.data.toList c).toArray⟩) ∧ Below w.heap.size w w' := Any.strings_Repeat Tryz.lays105 Tryz.Builder_Extra_105 s c w hc hlen
end Go.Proofs
namespace Go.E.YtcionccfgcnhoaaGreatDoor
open Go.Proofs Go.RowKit
set_option maxRecDepth 100000
theorem after_below {m : Mem} {W W' : World} (hW : Over m W) (h : Below W.heap.size W W') (hd : Strict m W → W.drawn ≤ W'.drawn) : After m W m W' := by
  refine ⟨fun b o hb => ?_, h.size, h.tape, h.os, h.output, fun b hb hm => ⟨hm, h.block b hb⟩, hd⟩
  rw [h.block b (hW.lt hb)]; exact hW b o hb
theorem after_grow {m : Mem} {W : World} (hW : Over m W) (k : Nat) (os : Array Obj) : After m W m (Sort.grow (W.drewN k) os) := by
  have e : ∀ b, b < W.heap.size → (Sort.grow (W.drewN k) os).heap[b]? = W.heap[b]? := fun b hb => by
    show (W.heap ++ os)[b]? = _
    rw [Array.getElem?_append_left hb]
  refine ⟨fun b o hb => ?_, ?_, rfl, rfl, rfl, fun b hb hm => ⟨hm, e b hb⟩, fun _ => Nat.le_add_right _ _⟩
  · rw [e b (hW.lt hb)]; exact hW b o hb
  · show W.heap.size ≤ (W.heap ++ os).size
    rw [Array.size_append]; omega
theorem after_same {m : Mem} {W W' : World} (hW : Over m W) (h : W' = W) : After m W m W' := by subst h; exact After.refl hW
theorem enters_fn {f : FuncId} {fn : Func} (h1 : Tryz.prog.funcs[f]? = some fn) (h2 : (fn.name == "runtime.NumGoroutine") = false) (h3 : fn.body.isSome = true) : Enters Tryz.prog f := fun args w => by
  obtain ⟨c, h3⟩ := Option.isSome_iff_exists.1 h3
  have hn' : ¬ fn.name = "runtime.NumGoroutine" := by simpa using h2
  simp [callFunc, h1, h3, hn']
structure Glob (m : Mem) : Prop where
  syn : ∃ tp p T fr, m 2 = some (.cells #[.iface tp p] T fr)
  rng : ∃ tp p T fr, m 3 = some (.cells #[.iface tp p] T fr)
  tab : ∃ T fr, m 0 = some (.cells (Lib.pow10Tab.map fun z => Value.int .u64 z).toArray T fr)
theorem Glob.sub {m m' : Mem} (h : Glob m) (hs : Sub m m') : Glob m' := by
  obtain ⟨⟨a, b, c, d, h1⟩, ⟨a', b', c', d', h2⟩, ⟨e, f, h3⟩⟩ := h
  exact ⟨⟨a, b, c, d, hs _ _ h1⟩, ⟨a', b', c', d', hs _ _ h2⟩, ⟨e, f, hs _ _ h3⟩⟩
theorem Glob.weak {m : Mem} (h : Glob m) {W : World} {p : Prop} : Strict m W → p := fun s => by
  obtain ⟨tp, q, T, fr, h1⟩ := h.syn
  have h2 := s.1
  rw [h1] at h2; cases h2
theorem gSyn : Tryz.prog.globalNamed "strconv.ErrSyntax" = some 2 := by kernel_rfl
theorem gRng : Tryz.prog.globalNamed "strconv.ErrRange" = some 3 := by kernel_rfl
theorem gTab : Tryz.prog.globalNamed "internal/strconv.uint64pow10" = some 0 := by kernel_rfl
theorem varOf {m : Mem} {W : World} (hW : Over m W) {name : String} {g : Nat} {cs : Array Value} {T : TypeId} {fr : Nat × Nat} (hg : Tryz.prog.globalNamed name = some g) (h : m g = some (.cells cs T fr)) : W.var? Tryz.prog name = some cs := by
  unfold World.var?
  rw [hg]
  simp only [Option.bind_some, hW _ _ h]
theorem itoa_spec {m : Mem} (hg : Glob m) {n : Int} (h0 : -9223372036854775808 ≤ n) (h1 : n ≤ 9223372036854775807) : Ret Tryz.prog 57 [.v (.int .i64 n)] m [.v (.string ⟨(Lib.itoa n).toArray⟩)] := by
  obtain ⟨T, fr, ht⟩ := hg.tab
  refine ⟨enters_fn Tryz.func57 (by kernel_rfl) (by kernel_rfl), fun _ W hW => ?_⟩
  exact (Tryz.strconv_Itoa n h0 h1 W (varOf hW gTab ht)).mono fun e W' ⟨h2, k, os, h3⟩ => ⟨[.v (.string ⟨(Lib.itoa n).toArray⟩)], m, h2, by intro x hx; simp at hx; subst hx; rfl, ⟨rfl, rfl⟩, by subst h3; exact after_grow hW k os⟩
theorem repeat_spec {m : Mem} (hg : Glob m) {s : ByteArray} {c : Nat} (h : s.size * c ≤ 1000000) (hc : c ≤ 1000000) : Ret Tryz.prog 58 [.v (.string s), .v (.int .i64 c)] m [.v (.string ⟨(Lib.repeatL s.data.toList c).toArray⟩)] := by
  refine ⟨enters_fn Tryz.func58 (by kernel_rfl) (by kernel_rfl), fun _ W hW => ?_⟩
  exact (Tryz.strings_Repeat s c W (by omega) (by omega)).mono fun e W' ⟨h2, h3⟩ => ⟨[.v (.string ⟨(Lib.repeatL s.data.toList c).toArray⟩)], m, h2, by intro x hx; simp at hx; subst hx; rfl, ⟨rfl, rfl⟩, after_below hW h3 (hg.weak)⟩
theorem cutPrefix_spec {m : Mem} {s p : ByteArray} : Ret Tryz.prog 138 [.v (.string s), .v (.string p)] m [.v (.string ⟨(Lib.trimPrefix s.data.toList p.data.toList).toArray⟩), .v (.bool (Lib.hasPrefix s.data.toList p.data.toList))] := by
  refine ⟨enters_fn Tryz.func138 (by kernel_rfl) (by kernel_rfl), fun _ W hW => ?_⟩
  exact (Tryz.strings_CutPrefix s p W).mono fun e W' ⟨h2, h3⟩ => ⟨[.v (.string ⟨(Lib.trimPrefix s.data.toList p.data.toList).toArray⟩), .v (.bool (Lib.hasPrefix s.data.toList p.data.toList))], m, h2, by intro x hx; simp at hx; rcases hx with rfl | rfl <;> rfl, ⟨rfl, rfl⟩, after_same hW h3⟩
def AtoiR (s : ByteArray) (r : List CV) : Prop := match Lib.atoiAll s.data.toList with
  | .ok v => r = [.v (.int .i64 v), .v .nilIface]
  | _ => ∃ n te pe, r = [.v (.int .i64 n), .v (.iface te pe)]
theorem atoi_spec {m : Mem} (hg : Glob m) {s : ByteArray} (hs : s.size ≤ 1000000) : Spec Tryz.prog 139 [.v (.string s)] m fun r m' => AtoiR s r ∧ m' = m := by
  obtain ⟨tp, p, T, fr, h1⟩ := hg.syn
  obtain ⟨tp', p', T', fr', h2⟩ := hg.rng
  refine ⟨enters_fn Tryz.func139 (by kernel_rfl) (by kernel_rfl), fun _ W hW => ?_⟩
  unfold AtoiR
  cases h : Lib.atoiAll s.data.toList with
  | ok v =>
    refine (Tryz.strconv_Atoi_ok s (by omega) v h W).mono fun e W' ⟨e1, e2⟩ => ⟨[.v (.int .i64 v), .v .nilIface], m, e1, by intro x hx; simp at hx; rcases hx with rfl | rfl <;> rfl, ⟨rfl, rfl⟩, ?_⟩
    rcases e2 with rfl | ⟨t, rfl⟩
    · exact After.refl hW
    · exact after_below hW (Lib.bytesWorld_below _ _ _) (fun _ => Nat.le_succ _)
  | range =>
    refine (Tryz.strconv_Atoi_range_var s (by omega) h tp' p' W (varOf hW gRng h2)).mono fun e W' ⟨N, e1, _, _, e2⟩ => ⟨[.v (.int .i64 _), .v (.iface _ (.pointer (some ⟨N, 0, none⟩)))], m, e1, by intro x hx; simp at hx; rcases hx with rfl | rfl <;> rfl, ⟨⟨_, _, _, rfl⟩, rfl⟩, after_below hW e2 hg.weak⟩
  | _ =>
    refine (Tryz.strconv_Atoi_syntax_var s (by omega) h tp p W (varOf hW gSyn h1)).mono fun e W' ⟨N, e1, _, _, e2⟩ => ⟨[.v (.int .i64 0), .v (.iface _ (.pointer (some ⟨N, 0, none⟩)))], m, e1, by intro x hx; simp at hx; rcases hx with rfl | rfl <;> rfl, ⟨⟨_, _, _, rfl⟩, rfl⟩, after_below hW e2 hg.weak⟩
end Go.E.YtcionccfgcnhoaaGreatDoor
namespace Go.E.Sn
open Go.Lib
def dg (k : Nat) : UInt8 := UInt8.ofNat (48 + k % 10)
def dgs : Nat → Nat → List UInt8
  | 0, _ => []
  | k + 1, n => dgs k (n / 10) ++ [dg n]
def pre : List UInt8 := [115, 110, 97, 112, 45]
def nm (n : Nat) : ByteArray := ⟨(pre ++ dgs 6 n).toArray⟩
theorem dgs_len : ∀ k n, (dgs k n).length = k
  | 0, _ => rfl
  | k + 1, n => by rw [dgs, List.length_append, dgs_len k]; rfl
theorem repL_snoc (c : Nat) : repeatL [48] (c + 1) = repeatL [48] c ++ [48] := by
  induction c with
  | zero => rfl
  | succ c ih =>
    rw [repeatL]
    conv => rhs; rw [repeatL]
    rw [List.append_assoc, ← ih]
theorem repL_len (c : Nat) : (repeatL [48] c).length = c := by rw [repeatL_length]; simp
theorem dgs_zero : ∀ k, dgs k 0 = repeatL [48] k
  | 0 => rfl
  | k + 1 => by
    rw [dgs, Nat.zero_div, dgs_zero k, repL_snoc]
    rfl
theorem dec_pad : ∀ (k n : Nat), n < 10 ^ (k + 1) → (decDigits n).length ≤ k + 1 ∧ repeatL [48] (k + 1 - (decDigits n).length) ++ decDigits n = dgs (k + 1) n
  | k, n, h => by
    by_cases h10 : n < 10
    · have e : decDigits n = [UInt8.ofNat (48 + n)] := by rw [decDigits, dif_pos h10]
      rw [e]
      refine ⟨by simp, ?_⟩
      rw [dgs, show n / 10 = 0 by omega, dgs_zero, dg, Nat.mod_eq_of_lt h10]
      rfl
    · have e : decDigits n = decDigits (n / 10) ++ [UInt8.ofNat (48 + n % 10)] := by rw [decDigits, dif_neg h10]
      cases k with
      | zero => simp at h; omega
      | succ k =>
        have hk : n / 10 < 10 ^ (k + 1) := by rw [Nat.pow_succ] at h; omega
        obtain ⟨h1, h2⟩ := dec_pad k (n / 10) hk
        rw [e, List.length_append]
        refine ⟨by simp only [List.length_cons, List.length_nil]; omega, ?_⟩
        rw [dgs, ← h2, show k + 1 + 1 - ((decDigits (n / 10)).length + [UInt8.ofNat (48 + n % 10)].length) = k + 1 - (decDigits (n / 10)).length by simp only [List.length_cons, List.length_nil]; omega, List.append_assoc]
        rfl
theorem itoa_pad {n : Nat} (h : n < 1000000) : (itoa (n : Int)).length ≤ 6 ∧ repeatL [48] (6 - (itoa (n : Int)).length) ++ itoa (n : Int) = dgs 6 n := by
  have e : itoa (n : Int) = decDigits n := by rw [itoa, if_neg (by omega)]; rfl
  rw [e]
  exact dec_pad 5 n h
theorem dg_nat (k : Nat) : (dg k).toNat = 48 + k % 10 := by
  rw [dg, UInt8.toNat_ofNat']
  omega
theorem parse_snoc : ∀ (l : List UInt8) (acc : Nat) (c : UInt8) (u : Nat), parseUint10 acc l = .ok u → u < 100000000000 → 48 ≤ c.toNat ∧ c.toNat ≤ 57 → parseUint10 acc (l ++ [c]) = .ok (u * 10 + (c.toNat - 48))
  | [], acc, c, u, h, hu, hc => by
    simp only [parseUint10] at h
    injection h with h
    subst h
    rw [List.nil_append, parseUint10, if_pos hc, if_neg (by omega), if_neg (by omega), parseUint10]
  | x :: l, acc, c, u, h, hu, hc => by
    rw [List.cons_append, parseUint10]
    rw [parseUint10] at h
    split at h
    · rename_i h1
      rw [if_pos h1]
      split at h
      · cases h
      · rename_i h2
        rw [if_neg h2]
        split at h
        · cases h
        · rename_i h3
          rw [if_neg h3]
          exact parse_snoc l _ c u h hu hc
    · cases h
theorem parse_dgs : ∀ (k n : Nat), k ≤ 10 → parseUint10 0 (dgs k n) = .ok (n % 10 ^ k)
  | 0, n, _ => by rw [dgs, parseUint10, Nat.pow_zero, Nat.mod_one]
  | k + 1, n, hk => by
    have ih := parse_dgs k (n / 10) (by omega)
    have hp : 10 ^ k ≤ 10 ^ 10 := Nat.pow_le_pow_right (by decide) (by omega)
    have hlt : n / 10 % 10 ^ k < 10 ^ k := Nat.mod_lt _ (Nat.pow_pos (by decide))
    have hd := dg_nat n
    have h := parse_snoc _ 0 (dg n) _ ih (by omega) (by omega)
    rw [dgs, h]
    congr 1
    rw [hd, show 10 ^ (k + 1) = 10 * 10 ^ k by rw [Nat.pow_succ]; omega, Nat.mod_mul]
    omega
theorem atoi_dgs {n : Nat} (h : n < 1000000) : atoiAll (dgs 6 n) = .ok (n : Int) := by
  have hp := parse_dgs 6 n (by omega)
  rw [Nat.mod_eq_of_lt (by omega)] at hp
  obtain ⟨c, r, e, hc⟩ : ∃ c r, dgs 6 n = c :: r ∧ (48 ≤ c.toNat ∧ c.toNat ≤ 57) := by
    refine ⟨dg (n / 10 / 10 / 10 / 10 / 10), [dg (n / 10 / 10 / 10 / 10), dg (n / 10 / 10 / 10), dg (n / 10 / 10), dg (n / 10), dg n], rfl, ?_⟩
    rw [dg_nat]; omega
  rw [e] at hp ⊢
  have e2 : parseMag (if c.toNat = 43 ∨ c.toNat = 45 then r else c :: r) = .ok n := by
    rw [if_neg (by omega), parseMag, if_neg (by simp), hp]
  rw [atoiAll]
  simp only [e2]
  rw [if_neg (by omega), if_neg (by omega), if_neg (by omega)]
theorem dgs_inj : ∀ {k a b : Nat}, a < 10 ^ k → b < 10 ^ k → dgs k a = dgs k b → a = b
  | 0, a, b, ha, hb, _ => by simp at ha hb; omega
  | k + 1, a, b, ha, hb, h => by
    rw [dgs, dgs] at h
    obtain ⟨h1, h2⟩ := List.append_inj h (by rw [dgs_len, dgs_len])
    have h3 := dgs_inj (k := k) (by rw [Nat.pow_succ] at ha; omega) (by rw [Nat.pow_succ] at hb; omega) h1
    have h4 : dg a = dg b := by simpa using h2
    have h5 := congrArg UInt8.toNat h4
    rw [dg_nat, dg_nat] at h5
    omega
theorem dgs_cons : ∀ (k n : Nat), dgs (k + 1) n = dg (n / 10 ^ k) :: dgs k n
  | 0, n => by simp [dgs]
  | k + 1, n => by
    have ih := dgs_cons k (n / 10)
    rw [dgs, ih]
    conv => rhs; rw [dgs]
    rw [Nat.div_div_eq_div_mul, show 10 * 10 ^ k = 10 ^ (k + 1) by rw [Nat.pow_succ]; omega]
    rfl
def val (l : List Nat) : Nat := l.foldl (fun a c => 10 * a + (c - 48)) 0
end Go.E.Sn
namespace Go.E.YtcionccfgcnhoaaGreatDoor
open Go.Proofs
set_option maxRecDepth 100000
theorem mkB_append (a b : List UInt8) : (⟨a.toArray⟩ : ByteArray) ++ ⟨b.toArray⟩ = ⟨(a ++ b).toArray⟩ := by
  have h : ((⟨a.toArray⟩ : ByteArray) ++ ⟨b.toArray⟩).data = (⟨(a ++ b).toArray⟩ : ByteArray).data := by
    rw [ByteArray.data_append]; simp
  exact ByteArray.ext h
theorem mkB_size (a : List UInt8) : (⟨a.toArray⟩ : ByteArray).size = a.length := by
  show a.toArray.size = _
  simp
def isNum (n : Int) : Bool := decide (1 ≤ n) && decide (n ≤ 999999)
theorem isNumber_spec {m : Mem} {n : Int} : Ret Tryz.prog 86 [i64 n] m [boolV (isNum n)] := by
  unfold isNum
  refine en86 rfl (goY ?_)
  conv => whnf
  repeat' (first | (refine ⟨fun h => ?_, fun h => ?_⟩ <;> conv => whnf) | fail)
  · rw [of_decide_eq_true (p := 1 ≤ n) (by assumption) |> fun h => (decide_eq_true h : decide (1 ≤ n) = true), Bool.true_and]
    exact ⟨rfl, rfl⟩
  · rw [h, Bool.false_and]
    exact ⟨rfl, rfl⟩
theorem name_bad {m : Mem} {n : Int} (h : isNum n = false) : Ret Tryz.prog 50 [i64 n] m [.v (.string ByteArray.empty), i64 1] := by
  refine en50 rfl (goY ?_)
  conv => whnf
  first | refine xretk (isNumber_spec) ?_ | refine xret (isNumber_spec) ?_
  conv => whnf
  rw [h]
  refine ⟨fun _ => ?_, fun h => absurd h (by first | decide | simp)⟩
  conv => whnf
  exact ⟨rfl, rfl⟩
theorem name_ok {m : Mem} (hg : Glob m) {n : Nat} (h1 : 1 ≤ n) (h2 : n ≤ 999999) : Ret Tryz.prog 50 [i64 n] m [.v (.string (Sn.nm n)), i64 0] := by
  have hi : isNum (n : Int) = true := by simp [isNum]; omega
  obtain ⟨p1, p2⟩ := Sn.itoa_pad (n := n) (by omega)
  refine en50 rfl (goY ?_)
  conv => whnf
  first | refine xretk (isNumber_spec) ?_ | refine xret (isNumber_spec) ?_
  conv => whnf
  rw [hi]
  refine ⟨fun h => absurd h (by first | decide | simp), fun _ => ?_⟩
  conv => whnf
  first | refine xretk (itoa_spec hg (by omega) (by omega)) ?_ | refine xret (itoa_spec hg (by omega) (by omega)) ?_
  conv => whnf
  have es : ((⟨(Lib.itoa (n : Int)).toArray⟩ : ByteArray).size : Int) = ((Lib.itoa (n : Int)).length : Int) := rfl
  have ew : IntKind.i64.wrap (6 - ((⟨(Lib.itoa (n : Int)).toArray⟩ : ByteArray).size : Int)) = ((6 - (Lib.itoa (n : Int)).length : Nat) : Int) := by rw [es, wi (by omega) (by omega)]; omega
  rw [ew]
  first | refine xretk (repeat_spec hg (s := ⟨#[48]⟩) (c := 6 - (Lib.itoa (n : Int)).length) (by rw [show (⟨#[48]⟩ : ByteArray).size = 1 from rfl]; omega) (by omega)) ?_ | refine xret (repeat_spec hg (s := ⟨#[48]⟩) (c := 6 - (Lib.itoa (n : Int)).length) (by rw [show (⟨#[48]⟩ : ByteArray).size = 1 from rfl]; omega) (by omega)) ?_
  conv => whnf
  have er : Lib.repeatL (⟨#[48]⟩ : ByteArray).data.toList (6 - (Lib.itoa (n : Int)).length) = Lib.repeatL [48] (6 - (Lib.itoa (n : Int)).length) := rfl
  have hz := Sn.repL_len (6 - (Lib.itoa (n : Int)).length)
  rw [er]
  generalize Lib.repeatL [48] (6 - (Lib.itoa (n : Int)).length) = Z at p2 hz
  generalize Lib.itoa (n : Int) = D at p1 p2 hz
  refine ⟨by rw [mkB_size Z, show (⟨#[115, 110, 97, 112, 45]⟩ : ByteArray).size = 5 from rfl]; omega, ?_⟩
  conv => whnf
  have e1 : (⟨#[115, 110, 97, 112, 45]⟩ : ByteArray) = ⟨Sn.pre.toArray⟩ := rfl
  rw [e1, mkB_append]
  refine ⟨by rw [mkB_size, mkB_size, List.length_append, show Sn.pre.length = 5 from rfl]; omega, ?_⟩
  conv => whnf
  refine ⟨?_, rfl⟩
  rw [mkB_append, Sn.nm, ← p2, List.append_assoc]
noncomputable def numOf (s : ByteArray) : Option Nat := open Classical in if h : ∃ n : Nat, 1 ≤ n ∧ n ≤ 999999 ∧ Sn.nm n = s then some (Classical.choose h) else none
theorem nm_inj {a b : Nat} (ha : a ≤ 999999) (hb : b ≤ 999999) (h : Sn.nm a = Sn.nm b) : a = b := by
  have h1 : Sn.pre ++ Sn.dgs 6 a = Sn.pre ++ Sn.dgs 6 b := by
    have := congrArg (fun s : ByteArray => s.data.toList) h
    simpa [Sn.nm] using this
  exact Sn.dgs_inj (k := 6) (by omega) (by omega) (List.append_cancel_left h1)
theorem numOf_nm {n : Nat} (h1 : 1 ≤ n) (h2 : n ≤ 999999) : numOf (Sn.nm n) = some n := by
  have h : ∃ k : Nat, 1 ≤ k ∧ k ≤ 999999 ∧ Sn.nm k = Sn.nm n := ⟨n, h1, h2, rfl⟩
  unfold numOf
  rw [dif_pos h]
  obtain ⟨_, g2, g3⟩ := Classical.choose_spec h
  rw [nm_inj g2 h2 g3]
theorem numOf_some {s : ByteArray} {n : Nat} (h : numOf s = some n) : 1 ≤ n ∧ n ≤ 999999 ∧ Sn.nm n = s := by
  unfold numOf at h
  split at h
  · rename_i h1
    cases h
    exact Classical.choose_spec h1
  · cases h
theorem numOf_none {s : ByteArray} (h : ∀ n : Nat, 1 ≤ n → n ≤ 999999 → Sn.nm n ≠ s) : numOf s = none := by
  cases e : numOf s with
  | none => rfl
  | some n =>
    obtain ⟨h1, h2, h3⟩ := numOf_some e
    exact absurd h3 (h n h1 h2)
noncomputable abbrev numR (s : ByteArray) : List CV := [i64 ((numOf s).getD 0 : Nat), boolV (numOf s).isSome]
theorem trim_len (a b : List UInt8) : (Lib.trimPrefix a b).length ≤ a.length := by
  unfold Lib.trimPrefix
  split
  · rw [List.length_drop]; omega
  · exact Nat.le_refl _
theorem number_spec {m : Mem} (hg : Glob m) {s : ByteArray} (hs : s.size ≤ 1000000) : Ret Tryz.prog 93 [.v (.string s)] m (numR s) := by
  have key : ∀ n : Nat, 1 ≤ n → n ≤ 999999 → Sn.nm n = s → Lib.hasPrefix s.data.toList Sn.pre = true ∧ Lib.atoiAll (Lib.trimPrefix s.data.toList Sn.pre) = .ok (n : Int) := fun n h1 h2 h3 => by
    have e : s.data.toList = Sn.pre ++ Sn.dgs 6 n := by rw [← h3]; simp [Sn.nm]
    have hp : Lib.hasPrefix s.data.toList Sn.pre = true := by rw [e]; simp [Lib.hasPrefix]
    refine ⟨hp, ?_⟩
    rw [Lib.trimPrefix, if_pos hp, e, List.drop_left]
    exact Sn.atoi_dgs (by omega)
  refine en93 rfl (goY ?_)
  conv => whnf
  first | refine xretk (cutPrefix_spec) ?_ | refine xret (cutPrefix_spec) ?_
  conv => whnf
  have ep : (⟨#[115, 110, 97, 112, 45]⟩ : ByteArray).data.toList = Sn.pre := rfl
  rw [ep]
  have hl : (Lib.trimPrefix s.data.toList Sn.pre).length ≤ 1000000 := Nat.le_trans (trim_len _ _) (by simpa using hs)
  have hT : (⟨(Lib.trimPrefix s.data.toList Sn.pre).toArray⟩ : ByteArray).data.toList = Lib.trimPrefix s.data.toList Sn.pre := by simp
  have no : Lib.hasPrefix s.data.toList Sn.pre = false → numOf s = none := fun h => numOf_none fun n h1 h2 h3 => by have := (key n h1 h2 h3).1; rw [h] at this; cases this
  cases ha : Lib.atoiAll (Lib.trimPrefix s.data.toList Sn.pre) with
  | ok v =>
    have hv := Lib.atoiAll_bounds ha
    refine xcall (atoi_spec hg (s := ⟨(Lib.trimPrefix s.data.toList Sn.pre).toArray⟩) (by rw [mkB_size]; exact hl)) ?_
    rintro _ m' ⟨hr, rfl⟩
    conv => whnf
    unfold AtoiR at hr
    rw [hT, ha] at hr
    subst hr
    conv => whnf
    refine ⟨fun h1 => ?_, fun h1 => ?_⟩
    · conv => whnf
      rw [numR, no (by simpa using h1)]
      exact ⟨rfl, rfl⟩
    refine ⟨fun h => absurd h (by first | decide | simp), fun _ => ?_⟩
    conv => whnf
    have same : ∀ n : Nat, 1 ≤ n → n ≤ 999999 → Sn.nm n = s → v = n := fun n h1 h2 h3 => by
      have := (key n h1 h2 h3).2
      rw [ha] at this
      injection this
    cases hi : isNum v with
    | false =>
      first | refine xretk (name_bad hi) ?_ | refine xret (name_bad hi) ?_
      conv => whnf
      refine ⟨fun _ => ?_, fun h => absurd h (by first | decide | simp)⟩
      conv => whnf
      rw [numR, numOf_none fun n h1 h2 h3 => by
        have := same n h1 h2 h3
        rw [this] at hi
        have h4 : isNum (n : Int) = true := by simp [isNum]; omega
        rw [h4] at hi; cases hi]
      exact ⟨rfl, rfl⟩
    | true =>
      have hi' : 1 ≤ v ∧ v ≤ 999999 := by simpa [isNum] using hi
      obtain ⟨n, rfl⟩ : ∃ n : Nat, v = n := ⟨v.toNat, by omega⟩
      first | refine xretk (name_ok hg (n := n) (by omega) (by omega)) ?_ | refine xret (name_ok hg (n := n) (by omega) (by omega)) ?_
      conv => whnf
      refine ⟨fun h => absurd h (by first | decide | simp), fun _ => ?_⟩
      conv => whnf
      refine ⟨fun h2 => ?_, fun h2 => ?_⟩
      · conv => whnf
        have hne : Sn.nm n ≠ s := fun e => by rw [e] at h2; simp at h2
        rw [numR, numOf_none fun k h3 h4 h5 => by
          have := same k h3 h4 h5
          exact hne (by rw [show n = k by omega]; exact h5)]
        exact ⟨rfl, rfl⟩
      · have he : Sn.nm n = s := by
          rw [strEq] at h2
          have : decide (Sn.nm n = s) = true := by simpa using h2
          exact of_decide_eq_true this
        conv => whnf
        rw [numR, ← he, numOf_nm (by omega) (by omega)]
        exact ⟨rfl, rfl⟩
  | range =>
    refine xcall (atoi_spec hg (s := ⟨(Lib.trimPrefix s.data.toList Sn.pre).toArray⟩) (by rw [mkB_size]; exact hl)) ?_
    rintro _ m' ⟨hr, rfl⟩
    conv => whnf
    unfold AtoiR at hr
    rw [hT, ha] at hr
    obtain ⟨n, te, pe, rfl⟩ := hr
    have hno : numOf s = none := numOf_none fun n h1 h2 h3 => by have := (key n h1 h2 h3).2; rw [ha] at this; cases this
    conv => whnf
    rw [numR, hno]
    refine ⟨fun h1 => ?_, fun h1 => ?_⟩
    · conv => whnf
      exact ⟨rfl, rfl⟩
    refine ⟨fun _ => ?_, fun h => absurd h (by first | decide | simp)⟩
    conv => whnf
    exact ⟨rfl, rfl⟩
  | _ =>
    refine xcall (atoi_spec hg (s := ⟨(Lib.trimPrefix s.data.toList Sn.pre).toArray⟩) (by rw [mkB_size]; exact hl)) ?_
    rintro _ m' ⟨hr, rfl⟩
    conv => whnf
    unfold AtoiR at hr
    rw [hT, ha] at hr
    obtain ⟨n, te, pe, rfl⟩ := hr
    have hno : numOf s = none := numOf_none fun n h1 h2 h3 => by have := (key n h1 h2 h3).2; rw [ha] at this; cases this
    conv => whnf
    rw [numR, hno]
    refine ⟨fun h1 => ?_, fun h1 => ?_⟩
    · conv => whnf
      exact ⟨rfl, rfl⟩
    refine ⟨fun _ => ?_, fun h => absurd h (by first | decide | simp)⟩
    conv => whnf
    exact ⟨rfl, rfl⟩
end Go.E.YtcionccfgcnhoaaGreatDoor
namespace Go.E
structure Men (α : Type) where
  k : α
  v : CV
  b : Nat
def Men.entry {α : Type} (enc : α → Value) (e : Men α) : MapEntry := ⟨enc e.k, e.v.val, e.b⟩
def mapO {α : Type} (enc : α → Value) (es : List (Men α)) (clock : Nat) : Obj := .map (es.map (Men.entry enc)).toArray clock
structure KeyOk {α : Type} [DecidableEq α] (enc : α → Value) (d : TypeDesc) : Prop where
  same : ∀ a b, Instr.sameNow d (enc a) (enc b) = some (decide (a = b))
  isK : ∀ a, MapKept.IsKey d (enc a)
  bits : ∀ a, Instr.sameBits 10000 (enc a) (enc a) = true
  one : ∀ a, (enc a).oneCell' = true
theorem bytesBeq (a b : ByteArray) : (a == b) = decide (a = b) := by
  rcases a with ⟨a⟩; rcases b with ⟨b⟩
  have h : ((⟨a⟩ : ByteArray) == ⟨b⟩) = (a == b) := rfl
  rw [h]
  by_cases e : a = b
  · subst e; simp
  · have : ¬ (⟨a⟩ : ByteArray) = ⟨b⟩ := fun h => e (by injection h)
    rw [decide_eq_false this]; exact beq_false_of_ne e
theorem strKey : KeyOk Value.string .string :=
  ⟨fun a b => by simp [Instr.sameNow, bytesBeq], fun _ => trivial, fun a => by simp [Instr.sameBits, bytesBeq], fun _ => rfl⟩
section
variable {α : Type} [DecidableEq α]
def findM (k : α) (es : List (Men α)) : Option CV := (es.find? fun e => decide (k = e.k)).map (·.v)
def setM (k : α) (v : CV) (clock : Nat) : List (Men α) → List (Men α)
  | [] => [⟨k, v, clock⟩]
  | e :: es => if k = e.k then ⟨k, v, e.b⟩ :: es else e :: setM k v clock es
def clockM (k : α) (clock : Nat) (es : List (Men α)) : Nat := if (findM k es).isSome then clock else clock + 1
def delM (k : α) : List (Men α) → List (Men α)
  | [] => []
  | e :: es => if k = e.k then es else e :: delM k es
theorem findNow_eq {enc : α → Value} {d : TypeDesc} (hk : KeyOk enc d) (k : α) : ∀ (es : List (Men α)) (i : Nat),
    Instr.findNow d (enc k) (es.map (Men.entry enc)) i = some (match es.findIdx? fun e => decide (k = e.k) with
      | some j => some (i + j, ((es[j]?).map fun e => e.v.val).getD undef)
      | none => none)
  | [], i => rfl
  | e :: es, i => by
    simp only [List.map_cons, Instr.findNow, Men.entry, hk.same, List.findIdx?_cons]
    by_cases h : k = e.k
    · simp [h]
    · have ih := findNow_eq hk k es (i + 1)
      simp only [h, decide_false, if_false, Bool.false_eq_true]
      rw [ih]
      cases es.findIdx? fun e => decide (k = e.k) with
      | none => rfl
      | some j => simp only [List.getElem?_cons_succ]; congr 2; rw [Prod.mk.injEq]; exact ⟨by simp only; omega, rfl⟩
theorem find_idx (k : α) : ∀ (es : List (Men α)), (match es.findIdx? fun e => decide (k = e.k) with
    | some j => ∃ e, es[j]? = some e ∧ findM k es = some e.v ∧ e.k = k
    | none => findM k es = none)
  | [] => rfl
  | e :: es => by
    rw [List.findIdx?_cons]
    by_cases h : k = e.k
    · simp only [h, decide_true, cond_true, if_true]
      exact ⟨e, rfl, by simp [findM], rfl⟩
    · have ih := find_idx k es
      simp only [h, decide_false, if_false, Bool.false_eq_true]
      have hf : findM k (e :: es) = findM k es := by simp [findM, h]
      rw [hf]
      cases hx : es.findIdx? fun e => decide (k = e.k) with
      | none => rw [hx] at ih; exact ih
      | some j => rw [hx] at ih; exact ih
theorem set_modify (enc : α → Value) (k : α) (v : CV) (clock : Nat) : ∀ (es : List (Men α)), (match es.findIdx? fun e => decide (k = e.k) with
    | some j => (es.map (Men.entry enc)).modify j (fun e => { e with key := enc k, val := v.val }) = (setM k v clock es).map (Men.entry enc)
    | none => es.map (Men.entry enc) ++ [⟨enc k, v.val, clock⟩] = (setM k v clock es).map (Men.entry enc))
  | [] => rfl
  | e :: es => by
    rw [List.findIdx?_cons]
    by_cases h : k = e.k
    · subst h
      simp [setM, Men.entry]
    · have ih := set_modify enc k v clock es
      simp only [h, decide_false, if_false, Bool.false_eq_true]
      cases hx : es.findIdx? fun e => decide (k = e.k) with
      | none => rw [hx] at ih; simp only [Option.map_none, List.map_cons, setM, h, if_false, List.cons_append] at ih ⊢; rw [ih]
      | some j => rw [hx] at ih; simp only [Option.map_some, List.map_cons, setM, h, if_false, List.modify_succ_cons] at ih ⊢; rw [ih]
theorem del_erase (enc : α → Value) (k : α) : ∀ (es : List (Men α)), (match es.findIdx? fun e => decide (k = e.k) with
    | some j => (es.map (Men.entry enc)).eraseIdx j = (delM k es).map (Men.entry enc)
    | none => es.map (Men.entry enc) = (delM k es).map (Men.entry enc))
  | [] => rfl
  | e :: es => by
    rw [List.findIdx?_cons]
    by_cases h : k = e.k
    · subst h
      simp [delM]
    · have ih := del_erase enc k es
      simp only [h, decide_false, if_false, Bool.false_eq_true]
      cases hx : es.findIdx? fun e => decide (k = e.k) with
      | none => rw [hx] at ih; simp only [Option.map_none, List.map_cons, delM, h, if_false] at ih ⊢; rw [ih]
      | some j => rw [hx] at ih; simp only [Option.map_some, List.map_cons, delM, h, if_false, List.eraseIdx_cons_succ] at ih ⊢; rw [ih]
end
section
variable {P : Program} {T : Tab} {α : Type} [DecidableEq α] {enc : α → Value}
theorem run_checkKey' {w : World} {kt : TypeId} {d : TypeDesc} {k : Value} (hd : P.underlying kt = some d) (hk : MapKept.IsKey d k) (e : Bool) : (Instr.checkKey e 10000 kt k).run P w = .ok () w := MapKept.run_checkKey hd hk e 9999
omit [DecidableEq α] in
theorem makeMap_spec {t : TypeId} {m : Mem} : PrimSpec P (.makeMap t) [] m fun r m' => ∃ b, m b = none ∧ r = [.v (.map (some b))] ∧ m' = m.set b (mapO enc [] 0) := by
  intro _ ty W hW
  refine ⟨[.v (.map (some W.heap.size))], _, _, ?_, (by intro y hy; simp at hy; subst hy; rfl), ⟨W.heap.size, hW.none (Nat.le_refl _), rfl, rfl⟩, (After.refl hW).alloc (mapO enc [] 0)⟩
  simp [Prim.run, Prim.out, Prim.tup, resVal, CV.val, Instr.makeMap, mapO, newObj, Sem.run, Result.andThen]
theorem run_find {d : TypeDesc} {kt : TypeId} (hk : KeyOk enc d) (hd : P.underlying kt = some d) (w : World) (k : α) (es : List (Men α)) :
    (Instr.findKey kt (enc k) (es.map (Men.entry enc))).run P w = .ok (match es.findIdx? fun e => decide (k = e.k) with
      | some j => some (j, ((es[j]?).map fun e => e.v.val).getD undef)
      | none => none) w := by
  have := findNow_eq hk k es 0
  simp only [Nat.zero_add] at this
  exact MapKept.run_findKey hd this
theorem lookup_spec {mt kt et : TypeId} {d : TypeDesc} (hk : KeyOk enc d) (hm : P.underlying mt = some (.map kt et)) (hd : P.underlying kt = some d) {z : CV} (hz : (P.info? et).bind (·.zero) = some z.val) (hzok : z.ok) {m : Mem} {b clock : Nat} {es : List (Men α)} {k : α}
    (hb : m b = some (mapO enc es clock)) (hes : ∀ e ∈ es, e.v.ok) (ok : Bool) :
    PrimSpec P (.lookup mt ok) [.v (.map (some b)), .v (enc k)] m fun r m' => r = (if ok then [(findM k es).getD z, .v (.bool (findM k es).isSome)] else [(findM k es).getD z]) ∧ m = m' := by
  intro _ ty W hW
  have hWb := hW _ _ hb
  have hzv : (zeroValue et).run P W = .ok z.val W := by
    cases hi : P.info? et with
    | none => simp [hi] at hz
    | some i => simp [hi] at hz; simp [zeroValue, typeInfo, hi, hz]
  have hf := run_find hk hd W k es
  have hx := find_idx k es
  have hck : ∀ e, (Instr.checkKey e 10000 kt (enc k)).run P W = .ok () W := fun e => run_checkKey' hd (hk.isK k) e
  have hvok : ((findM k es).getD z).ok := by
    unfold findM
    cases hq : es.find? (fun e => decide (k = e.k)) with
    | none => exact hzok
    | some e => exact hes e (List.mem_of_find?_eq_some hq)
  refine ⟨_, m, W, ?_, ?_, ⟨rfl, rfl⟩, After.refl hW⟩
  · cases hi : es.findIdx? fun e => decide (k = e.k) with
    | none =>
      rw [hi] at hx hf
      simp only at hx hf
      rw [hx]
      cases ok <;> simp [Prim.run, Prim.out, Prim.tup, CV.val, resVal, Instr.lookup, run_underlying hm, MapKept.run_getObj_map hWb, hck, hf, hzv, mapO] <;> rfl
    | some j =>
      rw [hi] at hx hf
      obtain ⟨e, h1, h2, _⟩ := hx
      simp only [h1, Option.map_some, Option.getD_some] at hf
      rw [h2]
      cases ok <;> simp [Prim.run, Prim.out, Prim.tup, CV.val, resVal, Instr.lookup, run_underlying hm, MapKept.run_getObj_map hWb, hck, hf, mapO] <;> rfl
  · intro y hy
    cases ok
    · simp at hy; subst hy; exact hvok
    · simp at hy
      rcases hy with rfl | rfl
      · exact hvok
      · rfl
theorem After.put {m : Mem} {W : World} (hW : Over m W) {b : Nat} {o : Obj} (hb : m b = some o) (o' : Obj) : After m W (m.set b o') { W with heap := W.heap.setIfInBounds b o' } := by
  obtain ⟨h1, h2⟩ := MapKept.heap_set (o' := o') (hW _ _ hb)
  exact After.setObj hW hb (by simp) h1 h2
theorem mapSet_spec {mt kt et : TypeId} {d : TypeDesc} (hk : KeyOk enc d) (hm : P.underlying mt = some (.map kt et)) (hd : P.underlying kt = some d) {m : Mem} {b clock : Nat} {es : List (Men α)} {k : α} {v : CV} (hb : m b = some (mapO enc es clock)) :
    PrimSpec P (.mapUpdate mt) [.v (.map (some b)), .v (enc k), v] m fun r m' => m' = m.set b (mapO enc (setM k v clock es) (clockM k clock es)) := by
  intro _ ty W hW
  have hWb := hW _ _ hb
  have hf := run_find hk hd W k es
  have hx := find_idx k es
  have hset := set_modify enc k v clock es
  have hck : (Instr.checkKey false 10000 kt (enc k)).run P W = .ok () W := run_checkKey' hd (hk.isK k) false
  have ha : List.map CV.val [.v (.map (some b)), .v (enc k), v] = [.map (some b), enc k, v.val] := rfl
  rw [ha]
  cases hi : es.findIdx? fun e => decide (k = e.k) with
  | none =>
    rw [hi] at hx hf hset
    simp only at hx hf hset
    refine ⟨[], _, _, ?_, (by intro y hy; cases hy), rfl, After.put hW hb _⟩
    have hc : clockM k clock es = clock + 1 := by simp [clockM, hx]
    have he : (es.map (Men.entry enc)).toArray.push ⟨enc k, v.val, clock⟩ = ((setM k v clock es).map (Men.entry enc)).toArray := by
      rw [← hset]; simp
    have hr : (Instr.mapUpdate mt (.map (some b)) (enc k) v.val).run P W = .ok () { W with heap := W.heap.setIfInBounds b (mapO enc (setM k v clock es) (clockM k clock es)) } := by
      simp only [Instr.mapUpdate, Sem.run_bind, run_underlying hm, MapKept.run_getObj_map hWb, hck, hf, Result.andThen_ok, List.toList_toArray, he, hc, MapKept.run_setObj_map _ hWb, mapO]
    simp only [Prim.run, Sem.run_bind, hr, Result.andThen_ok, Sem.run_pure]
    rfl
  | some j =>
    rw [hi] at hx hf hset
    obtain ⟨e, h1, h2, h3⟩ := hx
    simp only [h1, Option.map_some, Option.getD_some] at hf hset
    refine ⟨[], _, _, ?_, (by intro y hy; cases hy), rfl, After.put hW hb _⟩
    have hc : clockM k clock es = clock := by simp [clockM, h2]
    have hkey : ((((es.map (Men.entry enc)).toArray[j]?).map (·.key)).getD (enc k)) = enc k := by
      simp [h1, Men.entry, h3]
    have hsb := hk.bits k
    have he : (es.map (Men.entry enc)).toArray.modify j (fun e => { e with key := enc k, val := v.val }) = ((setM k v clock es).map (Men.entry enc)).toArray := by
      rw [← hset]; simp
    have hr : (Instr.mapUpdate mt (.map (some b)) (enc k) v.val).run P W = .ok () { W with heap := W.heap.setIfInBounds b (mapO enc (setM k v clock es) (clockM k clock es)) } := by
      simp only [Instr.mapUpdate, Sem.run_bind, run_underlying hm, MapKept.run_getObj_map hWb, hck, hf, Result.andThen_ok, List.toList_toArray, hkey, Instr.keyThatStays, hsb, if_true, Sem.run_pure, he, hc, MapKept.run_setObj_map _ hWb, mapO]
    simp only [Prim.run, Sem.run_bind, hr, Result.andThen_ok, Sem.run_pure]
    rfl
theorem mapDel_spec {mt kt et : TypeId} {d : TypeDesc} {ats : List TypeId} (hk : KeyOk enc d) (hm : P.underlying mt = some (.map kt et)) (hd : P.underlying kt = some d) {m : Mem} {b clock : Nat} {es : List (Men α)} {k : α} (hb : m b = some (mapO enc es clock)) :
    PrimSpec P (.builtin .delete (mt :: ats)) [.v (.map (some b)), .v (enc k)] m fun r m' => r = [] ∧ m' = m.set b (mapO enc (delM k es) clock) := by
  intro _ ty W hW
  have hWb := hW _ _ hb
  have hf := run_find hk hd W k es
  have hset := del_erase enc k es
  have hck : ∀ e, (Instr.checkKey e 10000 kt (enc k)).run P W = .ok () W := fun e => run_checkKey' hd (hk.isK k) e
  refine ⟨[], _, _, ?_, (by intro y hy; cases hy), ⟨rfl, rfl⟩, After.put hW hb _⟩
  cases hi : es.findIdx? fun e => decide (k = e.k) with
  | none =>
    rw [hi] at hf hset
    simp only at hf hset
    simp [Prim.run, Prim.out, Prim.tup, CV.val, resVal, Builtin.delete_, run_underlying hm, MapKept.run_getObj_map hWb, hck, hf, mapO, MapKept.run_setObj_map _ hWb, ← hset]
  | some j =>
    rw [hi] at hf hset
    simp only at hf hset
    have he : (es.map (Men.entry enc)).toArray.eraseIdxIfInBounds j = ((delM k es).map (Men.entry enc)).toArray := by
      rw [← hset]; simp
    simp [Prim.run, Prim.out, Prim.tup, CV.val, resVal, Builtin.delete_, run_underlying hm, MapKept.run_getObj_map hWb, hck, hf, mapO, MapKept.run_setObj_map _ hWb, ← hset]
end
end Go.E
namespace Go.E
section
variable {P : Program} {α : Type} {enc : α → Value}
def iterO (b clock : Nat) (vis : List Nat) : Obj := .mapIter (some b) clock vis.toArray clock
def leftM (vis : List Nat) (es : List (Men α)) : List (Men α) := es.filter fun e => !vis.contains e.b
theorem rangeM_spec {mt kt et : TypeId} (hm : P.underlying mt = some (.map kt et)) {m : Mem} {b clock : Nat} {es : List (Men α)} (hb : m b = some (mapO enc es clock)) :
    PrimSpec P (.range mt) [.v (.map (some b))] m fun r m' => ∃ it, m it = none ∧ r = [.v (.pointer (some ⟨it, 0, none⟩))] ∧ m' = m.set it (iterO b clock []) := by
  intro _ ty W hW
  refine ⟨[.v (.pointer (some ⟨W.heap.size, 0, none⟩))], _, _, ?_, (by intro y hy; simp at hy; subst hy; rfl), ⟨W.heap.size, hW.none (Nat.le_refl _), rfl, rfl⟩, (After.refl hW).alloc (iterO b clock [])⟩
  simp [Prim.run, Prim.out, Prim.tup, resVal, CV.val, Instr.range, run_underlying hm, MapKept.run_getObj_map (hW _ _ hb), mapO, newObj, Sem.run, Result.andThen, iterO]
theorem nextM_spec {m : Mem} {it b clock : Nat} {vis : List Nat} {es : List (Men α)} (hit : m it = some (iterO b clock vis)) (hb : m b = some (mapO enc es clock)) (hborn : ∀ e ∈ es, e.b < clock) (hok : ∀ e ∈ es, e.v.ok) (hone : ∀ a, (enc a).oneCell' = true) :
    PrimSpec P (.next false) [.v (.pointer (some ⟨it, 0, none⟩))] m fun r m' => (leftM vis es = [] ∧ r = [.v (.bool false)] ∧ m' = m) ∨ ∃ e, e ∈ leftM vis es ∧ r = [.v (.bool true), .v (enc e.k), e.v] ∧ m' = m.set it (iterO b clock (vis ++ [e.b])) := by
  intro _ ty W hW
  have hWi := hW _ _ hit
  have hWb := hW _ _ hb
  have e1 : ((es.map (Men.entry enc)).toArray.filter fun e => !vis.toArray.contains e.born) = ((leftM vis es).map (Men.entry enc)).toArray := by
    simp only [List.filter_toArray, List.filter_map, leftM]
    congr 2
    exact List.filter_congr fun e _ => by simp [Men.entry]; exact decide_eq_decide.2 Iff.rfl
  have e2 : (((leftM vis es).map (Men.entry enc)).toArray.filter fun e => decide (e.born < clock)) = ((leftM vis es).map (Men.entry enc)).toArray := by
    simp only [List.filter_toArray]
    congr 1
    rw [List.filter_eq_self]
    intro x hx
    obtain ⟨e, he, rfl⟩ := List.mem_map.1 hx
    exact decide_eq_true (hborn e (List.mem_filter.1 he).1)
  have e3 : (((leftM vis es).map (Men.entry enc)).toArray.filter fun e => decide (e.born ≥ clock)) = #[] := by
    simp only [List.filter_toArray]
    have : ((leftM vis es).map (Men.entry enc)).filter (fun e => decide (e.born ≥ clock)) = [] := by
      rw [List.filter_eq_nil_iff]
      intro x hx
      obtain ⟨e, he, rfl⟩ := List.mem_map.1 hx
      have := hborn e (List.mem_filter.1 he).1
      intro h
      have h := of_decide_eq_true h
      simp only [Men.entry] at h; omega
    rw [this]
  have e4 : (!vis.toArray.isEmpty && !(es.map (Men.entry enc)).toArray.isEmpty && (es.map (Men.entry enc)).toArray.all fun e => decide (e.born ≥ clock)) = false := by
    cases es with
    | nil => simp
    | cons e es =>
      have h0 := hborn e (by simp)
      have : ((e :: es).map (Men.entry enc)).toArray.all (fun e => decide (e.born ≥ clock)) = false := by
        simp only [List.all_toArray, List.map_cons, List.all_cons, Men.entry]
        rw [decide_eq_false (show ¬ e.b ≥ clock by omega)]; rfl
      rw [this, Bool.and_false]
  have e5 : (Sem.run P (getObj it) W) = .ok (iterO b clock vis) W := by simp [getObj, Sem.run, hWi, iterO]
  cases hl : leftM vis es with
  | nil =>
    rw [hl] at e1 e2 e3
    refine ⟨[.v (.bool false)], m, W, ?_, (by intro y hy; simp at hy; subst hy; rfl), .inl ⟨rfl, rfl, rfl⟩, After.refl hW⟩
    simp only [Prim.run, List.map_cons, List.map_nil, CV.val, Instr.next, Sem.run_bind, e5, Result.andThen_ok, iterO, MapKept.run_getObj_map hWb, mapO, e4, Bool.false_eq_true, if_false, e1, List.map_nil]
    simp [Question.forced, Prim.out, Prim.tup, CV.val]
  | cons e0 es' =>
    have hpos : 0 < (leftM vis es).length := by rw [hl]; simp
    have key : ∀ (i : Nat) (W1 : World) (hi : i < (leftM vis es).length), W1.heap = W.heap → After m W m W1 →
        ∃ r m' W', (do
          setObj it (.mapIter (some b) clock (vis.toArray.push ((leftM vis es)[i]).b) clock)
          pure (.tuple #[.bool true, enc ((leftM vis es)[i]).k, ((leftM vis es)[i]).v.val] : Value) : Sem Value).run P W1 = .ok ((Prim.next false).out r) W' ∧ (∀ x ∈ r, x.ok) ∧
          ((leftM vis es = [] ∧ r = [.v (.bool false)] ∧ m' = m) ∨ ∃ e, e ∈ leftM vis es ∧ r = [.v (.bool true), .v (enc e.k), e.v] ∧ m' = m.set it (iterO b clock (vis ++ [e.b]))) ∧ After m W m' W' := by
      intro i W1 hi hheap haft
      have hW1 : Over m W1 := haft.over
      have hm1 := List.getElem_mem hi
      generalize (leftM vis es)[i] = e at hm1
      refine ⟨[.v (.bool true), .v (enc e.k), e.v], _, _, ?_, ?_, .inr ⟨e, hm1, rfl, rfl⟩, haft.trans (After.put hW1 hit _)⟩
      · simp [setObj, Sem.run, hheap, hWi, iterO, Result.andThen, Prim.out, Prim.tup, CV.val]
      · intro y hy
        simp only [List.mem_cons, List.not_mem_nil, or_false] at hy
        rcases hy with rfl | rfl | rfl
        · rfl
        · exact hone _
        · exact hok _ (List.mem_filter.1 hm1).1
    rw [← hl]
    have hne : ((leftM vis es).map (Men.entry enc)).toArray.isEmpty = false := by rw [hl]; simp
    have hsz : (((leftM vis es).map (Men.entry enc)).toArray.map some).size = (leftM vis es).length := by simp
    have hgo : (Instr.next (.pointer (some ⟨it, 0, none⟩)) false ty).run P W = ((choose (.mapNext (leftM vis es).length)).run P W).andThen fun i W1 => (match (((leftM vis es).map (Men.entry enc)).toArray.map some)[i]? with
        | some (some e) => (do setObj it (.mapIter (some b) clock (vis.toArray.push e.born) clock); pure (.tuple #[.bool true, e.key, e.val]) : Sem Value)
        | some none => pure (.tuple #[.bool false])
        | none => stuck "Next: no such candidate").run P W1 := by
      simp only [Instr.next, Sem.run_bind, e5, Result.andThen_ok, iterO, MapKept.run_getObj_map hWb, mapO, e4, Bool.false_eq_true, if_false, e1, e2, e3, hne, Array.append_empty, Array.empty_append, hsz]
      rfl
    have hpick : ∀ i (hi : i < (leftM vis es).length), (((leftM vis es).map (Men.entry enc)).toArray.map some)[i]? = some (some (Men.entry enc (leftM vis es)[i])) := fun i hi => by
      simp [hi]
    have hrun : ∀ a, (Prim.run (.next false) ty [a]) = Instr.next a false ty := fun a => rfl
    simp only [List.map_cons, List.map_nil, CV.val, hrun, hgo, run_choose]
    by_cases hf : (Question.mapNext (leftM vis es).length).forced = true
    · rw [if_pos hf]
      simp only [Result.andThen_ok, hpick 0 hpos]
      exact key 0 W hpos rfl (After.refl hW)
    · rw [if_neg hf]
      have hlt : (Question.mapNext (leftM vis es).length).cut (W.tape W.drawn (.mapNext (leftM vis es).length)) < (leftM vis es).length := Nat.mod_lt _ hpos
      simp only [Result.andThen_ok, hpick _ hlt]
      exact key _ _ hlt rfl (After.refl hW).drew
theorem entryM_spec {m : Mem} {it b clock : Nat} {vis : List Nat} {es : List (Men α)} {e : Men α} (hit : m it = some (iterO b clock (vis ++ [e.b]))) (hb : m b = some (mapO enc es clock)) (he : e ∈ es) (hd : es.Pairwise fun x y => x.b ≠ y.b) (hok : e.v.ok) (hone : (enc e.k).oneCell' = true) :
    PrimSpec P .entry [.v (.pointer (some ⟨it, 0, none⟩))] m fun r m' => r = [.v (enc e.k), e.v] ∧ m = m' := by
  intro _ ty W hW
  have hWi := hW _ _ hit
  have hWb := hW _ _ hb
  have e5 : (Sem.run P (getObj it) W) = .ok (iterO b clock (vis ++ [e.b])) W := by simp [getObj, Sem.run, hWi, iterO]
  have hfind : (es.map (Men.entry enc)).toArray.find? (fun x => x.born == e.b) = some (Men.entry enc e) := by
    rw [List.find?_toArray, List.find?_map]
    have : es.find? ((fun x : MapEntry => x.born == e.b) ∘ Men.entry enc) = some e := by
      clear hb hWb
      induction es with
      | nil => cases he
      | cons x es ih =>
        obtain ⟨h1, h2⟩ := List.pairwise_cons.1 hd
        rw [List.find?_cons]
        rcases List.mem_cons.1 he with rfl | he
        · simp [Men.entry]
        · have hne := h1 e he
          have : ((fun x : MapEntry => x.born == e.b) ∘ Men.entry enc) x = false := by simp [Men.entry, hne]
          rw [this]; exact ih he h2
    rw [this]; rfl
  refine ⟨[.v (enc e.k), e.v], m, W, ?_, ?_, ⟨rfl, rfl⟩, After.refl hW⟩
  · simp only [Prim.run, List.map_cons, List.map_nil, CV.val, Instr.entry, Sem.run_bind, e5, Result.andThen_ok, iterO, MapKept.run_getObj_map hWb, mapO]
    simp [hfind, Prim.out, Prim.tup, resVal, CV.val, Men.entry, MapKept.run_getObj_map hWb]
  · intro y hy
    simp at hy
    rcases hy with rfl | rfl
    · exact hone
    · exact hok
end
end Go.E
namespace Go.E.YtcionccfgcnhoaaGreatDoor
open Go.Proofs
set_option maxRecDepth 100000
structure Fl where
  name : ByteArray
  bx : Nat
  v : Value
  l : List Nat
  safe : Nat
  born : Nat
  p : Mem
abbrev fileO (v : Value) (safe : Nat) : Obj := .cells #[v, .int .i64 (safe : Int)] 92
abbrev filesO (q : Int) (bm nb ns : Nat) : Obj := .cells #[.int .i64 q, .map (some bm), .int .u64 (nb : Int), .int .u64 (ns : Int)] 55
def Fl.men (f : Fl) : Men ByteArray := ⟨f.name, .v (.pointer (some ⟨f.bx, 0, none⟩)), f.born⟩
def Fl.parts (f : Fl) : List Mem := [blk1 f.bx (fileO f.v f.safe), f.p]
abbrev mapF (F : List Fl) (clock : Nat) : Obj := mapO Value.string (F.map Fl.men) clock
structure Fl.Ok (clock : Nat) (f : Fl) : Prop where
  bs : Bs f.p f.v (nc f.l)
  byt : ∀ x ∈ f.l, x < 256
  safe : f.safe ≤ f.l.length
  born : f.born < clock
structure FS (p : Mem) (bf bm : Nat) (q : Int) (nb ns clock : Nat) (F : List Fl) : Prop where
  sp : Split p (blk1 bf (filesO q bm nb ns) :: blk1 bm (mapF F clock) :: F.flatMap Fl.parts)
  ok : ∀ f ∈ F, f.Ok clock
  names : F.Pairwise fun a b => a.name ≠ b.name
  borns : F.Pairwise fun a b => a.born ≠ b.born
section
variable {p : Mem} {bf bm : Nat} {q : Int} {nb ns clock : Nat} {F : List Fl}
theorem FS.files (h : FS p bf bm q nb ns clock F) : p bf = some (filesO q bm nb ns) := h.sp.sub (a := blk1 bf (filesO q bm nb ns)) (by simp) _ _ (blk1_same ..)
theorem FS.map (h : FS p bf bm q nb ns clock F) : p bm = some (mapF F clock) := h.sp.sub (a := blk1 bm (mapF F clock)) (by simp) _ _ (blk1_same ..)
theorem FS.mem {f : Fl} (h : FS p bf bm q nb ns clock F) (hf : f ∈ F) : p f.bx = some (fileO f.v f.safe) :=
  h.sp.sub (a := blk1 f.bx (fileO f.v f.safe)) (by simp only [List.mem_cons, List.mem_flatMap]; exact .inr (.inr ⟨f, hf, by simp [Fl.parts]⟩)) _ _ (blk1_same ..)
theorem FS.bytes {f : Fl} (h : FS p bf bm q nb ns clock F) (hf : f ∈ F) : Bs p f.v (nc f.l) :=
  (h.ok f hf).bs.sub (h.sp.sub (by simp only [List.mem_cons, List.mem_flatMap]; exact .inr (.inr ⟨f, hf, by simp [Fl.parts]⟩)))
def fileOf (F : List Fl) (name : ByteArray) : Option Fl := F.find? fun f => decide (name = f.name)
theorem findM_files (name : ByteArray) : ∀ (F : List Fl), findM name (F.map Fl.men) = (fileOf F name).map fun f => .v (.pointer (some ⟨f.bx, 0, none⟩))
  | [] => rfl
  | f :: F => by
    have ih := findM_files name F
    unfold findM fileOf at *
    rw [List.map_cons, List.find?_cons, List.find?_cons]
    by_cases h : name = f.name
    · simp [h, Fl.men]
    · have e1 : decide (name = f.men.k) = false := decide_eq_false h
      rw [e1, decide_eq_false h]; exact ih
theorem fileOf_mem {name : ByteArray} {f : Fl} (h : fileOf F name = some f) : f ∈ F ∧ f.name = name := by
  refine ⟨List.mem_of_find?_eq_some h, ?_⟩
  have := List.find?_some h
  exact (of_decide_eq_true this).symm
theorem fileOf_split {name : ByteArray} {f : Fl} (h : fileOf F name = some f) : ∃ A B, F = A ++ f :: B ∧ (∀ x ∈ A, x.name ≠ name) ∧ f.name = name := by
  obtain ⟨h1, A, B, h2, h3⟩ := List.find?_eq_some_iff_append.1 h
  exact ⟨A, B, h2, fun x hx e => by have := h3 x hx; simp [e] at this, (of_decide_eq_true h1).symm⟩
end
abbrev ptrB (b : Nat) : CV := .v (.pointer (some ⟨b, 0, none⟩))
theorem pz : (Tryz.prog.info? 90).bind (·.zero) = some (Value.pointer none) := by kernel_rfl
theorem lookupF {m : Mem} {bm clock : Nat} {F : List Fl} {name : ByteArray} (hb : m bm = some (mapF F clock)) (ok : Bool) :
    PrimSpec Tryz.prog (.lookup 48 ok) [.v (.map (some bm)), .v (.string name)] m fun r m' => r = (if ok then [((fileOf F name).map fun f => ptrB f.bx).getD (.v (.pointer none)), .v (.bool (fileOf F name).isSome)] else [((fileOf F name).map fun f => ptrB f.bx).getD (.v (.pointer none))]) ∧ m = m' := by
  have h := lookup_spec (P := Tryz.prog) strKey Tryz.underlying48 Tryz.underlying9 (z := .v (.pointer none)) pz rfl (k := name) hb (fun e he => by obtain ⟨f, _, rfl⟩ := List.mem_map.1 he; rfl) ok
  rw [findM_files] at h
  simp only [Option.isSome_map] at h
  exact h
theorem made_nil {m : Mem} : Ret Tryz.prog 140 [.v (.pointer none)] m [boolV false] := by
  refine en140 rfl (goY ?_)
  conv => whnf
  refine ⟨fun h => absurd h (by first | decide | simp), fun _ => ?_⟩
  conv => whnf
  exact ⟨rfl, rfl⟩
theorem made_spec {m : Mem} {bf bm : Nat} {arr : Array Value} (h : m bf = some (.cells arr 55)) (h1 : arr[1]? = some (.map (some bm))) : Ret Tryz.prog 140 [ptrB bf] m [boolV true] := by
  refine en140 rfl (goY ?_)
  conv => whnf
  refine ⟨fun _ => ?_, fun h => absurd h (by first | decide | simp)⟩
  conv => whnf
  refine ⟨_, mcell_of h h1, rfl, ?_⟩
  conv => whnf
  exact ⟨rfl, rfl⟩
def isFB (c : Nat) : Bool := (decide (97 ≤ c) && decide (c ≤ 122)) || ((decide (48 ≤ c) && decide (c ≤ 57)) || (decide (c = 45) || decide (c = 46)))
def nameOk (l : List Nat) : Bool := decide (0 < l.length) && decide (l.length ≤ 20) && l.all isFB
theorem isFByte_spec {m : Mem} {c : Nat} : Ret Tryz.prog 142 [.v (.int .u8 (c : Int))] m [boolV (isFB c)] := by
  have e45 : ((c : Int) == 45) = decide (c = 45) := by by_cases h : c = 45 <;> simp [h]; omega
  have e46 : ((c : Int) == 46) = decide (c = 46) := by by_cases h : c = 46 <;> simp [h]; omega
  refine en142 rfl (goY ?_)
  conv => whnf
  repeat' (first | (refine ⟨fun h => ?_, fun h => ?_⟩ <;> conv => whnf) | fail)
  all_goals (refine ⟨?_, rfl⟩; (try simp only [e45, e46] at *); by_cases h45 : c = 45 <;> by_cases h46 : c = 46 <;> simp [isFB, h45, h46] at * <;> omega)
theorem chsAt (s : ByteArray) (i : Nat) : (s.data.toList.getD i 0).toNat = (chs s).getD i 0 := by
  simp only [chs, List.getD_eq_getElem?_getD, List.getElem?_map]
  cases s.data.toList[i]? <;> rfl
theorem isName_spec {m : Mem} {s : ByteArray} (hs : s.size ≤ 1000000) : Ret Tryz.prog 97 [.v (.string s)] m [boolV (nameOk (chs s))] := by
  refine en97 rfl (goY ?_)
  conv => whnf
  refine .mk (ι := Nat) (fun i => s.size - i) (fun i mm => i ≤ s.size ∧ (∀ x ∈ (chs s).take i, isFB x = true) ∧ mm = m) (fun i => [(0, .c (.v (.string s))), (5, .c (i64 s.size)), (6, .c (i64 i))]) (fun _ => []) 0 ⟨by omega, by simp, rfl⟩ ?_ ?_
  · conv => whnf
    repeat (refine And.intro (by first | with_reducible rfl | exact congrArg (Value.int _) (wi (by omega) (by omega)) | exact wi (by omega) (by omega) | rfl) ?_; conv => whnf)
    first | exact trivial | exact fun _ _ h => h
  rintro i mm ⟨hi, hall, he⟩
  subst mm
  conv => whnf
  refine ⟨fun h => ?_, fun h => ?_⟩
  · have h' := of_decide_eq_true h
    have hlt : i < s.size := by omega
    clear h
    conv => whnf
    repeat (refine And.intro (by first | omega | (simp only [times]; omega)) ?_; conv => whnf)
    rw [Int.toNat_natCast, chsAt]
    first | refine xretk (isFByte_spec) ?_ | refine xret (isFByte_spec) ?_
    conv => whnf
    have hli : i < (chs s).length := by rw [chs_len]; omega
    have hget : (chs s)[i]? = some ((chs s).getD i 0) := by simp [List.getD_eq_getElem?_getD, List.getElem?_eq_getElem hli]
    refine ⟨fun h3 => ?_, fun h3 => ?_⟩
    · conv => whnf
      refine ⟨?_, rfl⟩
      have h3' : isFB ((chs s).getD i 0) = false := by simpa using h3
      have : (chs s).all isFB = false := by
        rw [List.all_eq_false]
        exact ⟨_, List.mem_of_getElem? hget, by simp only [h3', Bool.false_eq_true, not_false_eq_true]⟩
      simp [nameOk, this]
    · conv => whnf
      have h3' : isFB ((chs s).getD i 0) = true := by simpa using h3
      refine ⟨i + 1, ⟨by omega, ?_, rfl⟩, by omega, ?_⟩
      · intro x hx
        rw [List.take_succ_eq_append_getElem hli] at hx
        rcases List.mem_append.1 hx with hx | hx
        · exact hall x hx
        · rw [List.mem_singleton.1 hx]
          rw [List.getElem?_eq_getElem hli] at hget
          rw [Option.some.inj hget]; exact h3'
      · conv => whnf
        repeat (refine And.intro (by first | with_reducible rfl | (first | exact congrArg (Value.int _) (iadd (by omega))) | exact congrArg (Value.int _) (wi (by omega) (by omega)) | exact wi (by omega) (by omega) | rfl) ?_; conv => whnf)
        first | exact trivial | exact fun _ _ h => h
  · have h1' := of_decide_eq_false h
    obtain rfl : i = s.size := by omega
    clear h
    have hl := chs_len s
    rw [← hl, List.take_length] at hall
    have hal : (chs s).all isFB = true := List.all_eq_true.2 hall
    conv => whnf
    refine ⟨fun h => ?_, fun h => ?_⟩
    · have h2 := of_decide_eq_true h
      conv => whnf
      refine ⟨?_, rfl⟩
      simp only [nameOk, hal, hl, Bool.and_true]
      rw [decide_eq_true (show 0 < s.size by omega), Bool.true_and]
      rw [decide_eq_decide.2 (show ((s.size : Int) ≤ 20) ↔ s.size ≤ 20 by omega)]
    · have h2 := of_decide_eq_false h
      conv => whnf
      refine ⟨?_, rfl⟩
      simp only [nameOk, hal, hl, Bool.and_true]
      rw [decide_eq_false (show ¬ 0 < s.size by omega), Bool.false_and]
theorem find_nil {m : Mem} {name : ByteArray} : Ret Tryz.prog 94 [.v (.pointer none), .v (.string name)] m [.v (.pointer none), i64 6] := by
  refine en94 rfl (goY ?_)
  conv => whnf
  first | refine xretk (made_nil) ?_ | refine xret (made_nil) ?_
  conv => whnf
  refine ⟨fun _ => ?_, fun h => absurd h (by first | decide | simp)⟩
  conv => whnf
  exact ⟨rfl, rfl⟩
theorem find_spec {m : Mem} {bf bm : Nat} {q : Int} {nb ns clock : Nat} {F : List Fl} {name : ByteArray} (h : FS m bf bm q nb ns clock F) : Ret Tryz.prog 94 [ptrB bf, .v (.string name)] m (match fileOf F name with
    | some f => [ptrB f.bx, i64 0]
    | none => [.v (.pointer none), i64 4]) := by
  refine en94 rfl (goY ?_)
  conv => whnf
  first | refine xretk (made_spec h.files rfl) ?_ | refine xret (made_spec h.files rfl) ?_
  conv => whnf
  refine ⟨fun h => absurd h (by first | decide | simp), fun _ => ?_⟩
  conv => whnf
  refine ⟨_, mcell_of h.files rfl, rfl, ?_⟩
  conv => whnf
  refine .mk _ (lookupF h.map true) ?_
  rintro _ _ ⟨rfl, rfl⟩
  conv => whnf
  cases hf : fileOf F name with
  | none =>
    refine ⟨fun _ => ?_, fun h => absurd h (by first | decide | simp)⟩
    conv => whnf
    exact ⟨rfl, rfl⟩
  | some f =>
    refine ⟨fun h => absurd h (by simp), fun _ => ?_⟩
    conv => whnf
    exact ⟨rfl, rfl⟩
theorem aadd_at {m : Mem} {b o : Nat} {x y : Nat} {arr : Array Value} {T : TypeId} (hb : m b = some (.cells arr T)) (ho : arr[o]? = some (.int .u64 (x : Int))) (hxy : x + y < 18446744073709551616) : Spec Tryz.prog 99 [.v (.pointer (some ⟨b, o, none⟩)), .v (.int .u64 (y : Int))] m fun r m' => r = [.v (.int .u64 ((x + y : Nat) : Int))] ∧ m' = m.set b (.cells (arr.setIfInBounds o (.int .u64 ((x + y : Nat) : Int))) T) := by
  have ew : IntKind.u64.wrap ((x : Int) + (y : Int)) = ((x + y : Nat) : Int) := by rw [wu (by omega) (by omega)]; omega
  refine en99 rfl (goY ?_)
  conv => whnf
  refine xext (ext_add (P := Tryz.prog) Tryz.func143 (by rfl) (by rfl) (by kernel_rfl) (by kernel_rfl) (x := (x : Int)) hb ho) ?_
  rintro _ _ ⟨rfl, rfl⟩
  rw [ew]
  conv => whnf
  exact ⟨rfl, rfl⟩
def ren : Go.Shelf.Ren := ⟨fun n => if n = 125 then 118 else if n = 128 then 161 else if n = 129 then 162 else if n = 190 then 73 else if n = 258 then 117 else if n = 302 then 152 else if n = 303 then 153 else if n = 304 then 154 else if n = 305 then 155 else if n = 306 then 156 else if n = 307 then 157 else if n = 308 then 158 else if n = 309 then 159 else if n = 310 then 160 else if n = 329 then 185 else if n = 330 then 186 else if n = 333 then 184 else if n = 334 then 187 else if n = 335 then 188 else if n = 336 then 189 else if n = 344 then 205 else 0, fun n => if n = 0 then 0 else if n = 3 then 3 else if n = 4 then 4 else if n = 5 then 5 else if n = 9 then 9 else if n = 31 then 33 else if n = 46 then 159 else if n = 51 then 193 else if n = 53 then 35 else if n = 131 then 151 else if n = 182 then 216 else if n = 183 then 217 else if n = 218 then 242 else if n = 222 then 245 else if n = 228 then 262 else if n = 229 then 263 else 0, fun n => n⟩
theorem laysSort : Lays.n190 Tryz.prog ren where
  mixed := by kernel_rfl
  f125 := by kernel_rfl
  f128 := by kernel_rfl
  f129 := by kernel_rfl
  f190 := by kernel_rfl
  f258 := by kernel_rfl
  f302 := by kernel_rfl
  f303 := by kernel_rfl
  f304 := by kernel_rfl
  f305 := by kernel_rfl
  f306 := by kernel_rfl
  f307 := by kernel_rfl
  f308 := by kernel_rfl
  f309 := by kernel_rfl
  f310 := by kernel_rfl
  f329 := by kernel_rfl
  f330 := by kernel_rfl
  f333 := by kernel_rfl
  f334 := by kernel_rfl
  f335 := by kernel_rfl
  f336 := by kernel_rfl
  f344 := by kernel_rfl
  t0 := Tryz.underlying0
  a0 := Tryz.isAgg0
  z0 := Tryz.sizeOf0
  v0 := Tryz.zeroValue0
  t3 := Tryz.underlying3
  a3 := Tryz.isAgg3
  z3 := Tryz.sizeOf3
  v3 := Tryz.zeroValue3
  t4 := Tryz.underlying4
  a4 := Tryz.isAgg4
  z4 := Tryz.sizeOf4
  v4 := Tryz.zeroValue4
  t5 := Tryz.underlying5
  a5 := Tryz.isAgg5
  z5 := Tryz.sizeOf5
  v5 := Tryz.zeroValue5
  t9 := Tryz.underlying9
  a9 := Tryz.isAgg9
  z9 := Tryz.sizeOf9
  v9 := Tryz.zeroValue9
  t31 := Tryz.underlying33
  a31 := Tryz.isAgg33
  z31 := Tryz.sizeOf33
  v31 := Tryz.zeroValue33
  t46 := Tryz.underlying159
  a46 := Tryz.isAgg159
  z46 := Tryz.sizeOf159
  v46 := Tryz.zeroValue159
  t51 := Tryz.underlying193
  a51 := Tryz.isAgg193
  z51 := Tryz.sizeOf193
  v51 := Tryz.zeroValue193
  t53 := Tryz.underlying35
  a53 := Tryz.isAgg35
  z53 := Tryz.sizeOf35
  v53 := Tryz.zeroValue35
  t131 := Tryz.underlying151
  a131 := Tryz.isAgg151
  z131 := Tryz.sizeOf151
  v131 := Tryz.zeroValue151
  t182 := Tryz.underlying216
  a182 := Tryz.isAgg216
  z182 := Tryz.sizeOf216
  v182 := Tryz.zeroValue216
  t183 := Tryz.underlying217
  a183 := Tryz.isAgg217
  z183 := Tryz.sizeOf217
  v183 := Tryz.zeroValue217
  t218 := Tryz.underlying242
  a218 := Tryz.isAgg242
  z218 := Tryz.sizeOf242
  v218 := Tryz.zeroValue242
  t222 := Tryz.underlying245
  a222 := Tryz.isAgg245
  z222 := Tryz.sizeOf245
  v222 := Tryz.zeroValue245
  t228 := Tryz.underlying262
  a228 := Tryz.isAgg262
  z228 := Tryz.sizeOf262
  v228 := Tryz.zeroValue262
  t229 := Tryz.underlying263
  a229 := Tryz.isAgg263
  z229 := Tryz.sizeOf263
  v229 := Tryz.zeroValue263
def encB (s : ByteArray) : List UInt8 := s.data.toList
def srtB (ss : List ByteArray) : List ByteArray := ((ss.map encB).mergeSort fun x y => decide (x ≤ y)).map fun l => ⟨l.toArray⟩
theorem srtB_len (ss : List ByteArray) : (srtB ss).length = ss.length := by simp [srtB, List.length_mergeSort]
theorem enters_sort : Enters Tryz.prog 73 := fun args w => by
  have h1 : Tryz.prog.funcs[73]? = some Tryz.f73 := Tryz.func73
  have h2 : (Tryz.f73.name == "runtime.NumGoroutine") = false := by kernel_rfl
  have h3 : ∃ c, Tryz.f73.body = some c := ⟨_, rfl⟩
  obtain ⟨c, h3⟩ := h3
  have hn' : ¬ Tryz.f73.name = "runtime.NumGoroutine" := by simpa using h2
  simp [callFunc, h1, h3, hn']
theorem after_sorted {m : Mem} {W : World} (hW : Over m W) {b o k : Nat} {arr : Array Value} {T : TypeId} {fr : Nat × Nat} (hb : m b = some (.cells arr T fr)) (d : Array (List UInt8)) (os : Array Obj) :
    After m W (m.set b (.cells (Sort.putCells encStr o d arr) T fr)) (Sort.grow (Sort.putRow encStr (Sort.ahead W k) b o d) os) := by
  have hWb := hW _ _ hb
  have hlt := hW.lt hb
  have hold : ∀ x, x < W.heap.size → (Sort.grow (Sort.putRow encStr (Sort.ahead W k) b o d) os).heap[x]? = if b = x then some (.cells (Sort.putCells encStr o d arr) T fr) else W.heap[x]? := fun x hx => by
    have e : (Sort.grow (Sort.putRow encStr (Sort.ahead W k) b o d) os).heap = W.heap.modify b (Sort.onCells (Sort.putCells encStr o d)) ++ os := rfl
    rw [e, Array.getElem?_append_left (by simpa using hx), Array.getElem?_modify]
    by_cases h : b = x
    · subst h; simp [hWb, Sort.onCells]
    · simp [h]
  refine ⟨fun x u hx => ?_, ?_, rfl, rfl, rfl, fun x hx hn => ?_, fun _ => Nat.le_add_right _ _⟩
  · by_cases h : x = b
    · subst h; rw [Mem.set_same] at hx; rw [hold _ hlt, if_pos rfl]; exact hx
    · rw [Mem.set_ne _ _ h] at hx
      rw [hold _ (hW.lt hx), if_neg (Ne.symm h)]; exact hW _ _ hx
  · show W.heap.size ≤ (W.heap.modify b (Sort.onCells (Sort.putCells encStr o d)) ++ os).size
    simp
  · have h : x ≠ b := fun e => by subst e; rw [hb] at hn; cases hn
    exact ⟨by rw [Mem.set_ne _ _ h]; exact hn, by rw [hold _ hx, if_neg (Ne.symm h)]⟩
theorem sort_spec {m : Mem} {v : Value} {ss : List ByteArray} (hv : Own m 9 1 v (ss.map Value.string)) (hl : ss.length ≤ 1000000) : Spec Tryz.prog 73 [.v v] m fun r m' => r = [] ∧ Own m' 9 1 v ((srtB ss).map Value.string) := by
  refine ⟨enters_sort, fun _ W hW => ?_⟩
  rcases hv with ⟨rfl, e⟩ | ⟨b, o, c, n, arr, rfl, h1, h2, h3, h4, h5, h6⟩
  · have hs : ss = [] := by cases ss with | nil => rfl | cons _ _ => cases e
    subst hs
    exact (Any.slices_Sort_string_none laysSort none 0 W).mono fun e W' ⟨h1, h2⟩ => ⟨[], m, h1, by simp, ⟨rfl, .inl ⟨rfl, by simp [srtB]⟩⟩, by subst h2; exact After.refl hW⟩
  · have hn : ss.length = n := by simpa using h2
    subst hn
    have hWb := hW _ _ h1
    have hlt : b < W.heap.size := hW.lt h1
    have hH : Sort.Holds encStr W b o (ss.map encB).toArray := fun j hj => by
      have hj' : j < ss.length := by simpa using hj
      refine ⟨?_, by simp [World.frozen?, hWb]⟩
      rw [cell_at hWb]
      have := h5 j (.string ss[j]) (by simp [hj'])
      rw [this]
      simp [hj', encB, encStr]
    have hc := calls_of_every_depth fun D => AnyS.slices_Sort_string_alone laysSort D b o c (ss.map encB) W hH hlt (by simp; omega)
    rw [List.length_map] at hc
    refine hc.mono fun e W' ⟨he, k, os, hw⟩ => ?_
    subst he
    subst hw
    refine ⟨[], _, rfl, by simp, ⟨rfl, .inr ⟨b, o, c, ss.length, _, rfl, Mem.set_same .., by rw [List.length_map, srtB_len, Nat.mul_one], h3, ?_, fun j u hu => ?_, ?_⟩⟩, after_sorted hW h1 _ _⟩
    · simp only [Sort.putCells, Array.size_mapIdx]; exact h4
    · have hjl : j < ss.length := by have := (List.getElem?_eq_some_iff.1 hu).1; rw [List.length_map, srtB_len] at this; exact this
      have hsz : ((ss.map encB).mergeSort fun x y => decide (x ≤ y)).toArray.size = ss.length := by simp [List.length_mergeSort]
      have hoj : o + j < arr.size := by omega
      rw [Sort.putCells, Array.getElem?_mapIdx, Array.getElem?_eq_getElem hoj, Option.map_some, if_pos ⟨by omega, by omega⟩, show o + j - o = j by omega, getElem!_pos _ j (by omega)]
      rw [srtB, List.map_map, List.getElem?_map] at hu
      rw [← hu]
      simp [List.getElem?_eq_getElem (show j < ((ss.map encB).mergeSort fun x y => decide (x ≤ y)).length by simpa [List.length_mergeSort] using hjl)]
    · intro u hu
      obtain ⟨x, _, rfl⟩ := List.mem_map.1 hu
      rfl
theorem subR : ∀ {vis F : List Fl}, (vis.Pairwise fun a b => a.born ≠ b.born) → (∀ f ∈ vis, f ∈ F) → ∃ R, (vis ++ R).Perm F
  | [], F, _, _ => ⟨F, List.Perm.refl _⟩
  | x :: vs, F, hv, hF => by
    obtain ⟨h1, h2⟩ := List.pairwise_cons.1 hv
    obtain ⟨A, B, rfl⟩ := List.append_of_mem (hF x (by simp))
    obtain ⟨R, hR⟩ := subR (vis := vs) (F := A ++ B) h2 fun f hf => by
      have := hF f (by simp [hf])
      rcases List.mem_append.1 this with h | h
      · exact List.mem_append_left _ h
      · rcases List.mem_cons.1 h with rfl | h
        · exact absurd rfl (h1 f hf)
        · exact List.mem_append_right _ h
    refine ⟨R, ?_⟩
    exact (List.Perm.cons x hR).trans List.perm_middle.symm
theorem allR {vis F : List Fl} (hv : vis.Pairwise fun a b => a.born ≠ b.born) (hF : ∀ f ∈ vis, f ∈ F) (hb : F.Pairwise fun a b => a.born ≠ b.born) (hall : ∀ f ∈ F, ∃ g ∈ vis, g.born = f.born) : vis.Perm F := by
  obtain ⟨R, hR⟩ := subR hv hF
  cases R with
  | nil => simpa using hR
  | cons r R =>
    exfalso
    have hp := (List.Perm.pairwise_iff (fun h => Ne.symm h) hR).2 hb
    have hr : r ∈ F := hR.subset (by simp)
    obtain ⟨g, hg, e⟩ := hall r hr
    exact (List.pairwise_append.1 hp).2.2 g hg r (by simp) e
def total (F : List Fl) : Nat := (F.map fun f => f.l.length).sum
theorem total_perm {F G : List Fl} (h : F.Perm G) : total F = total G := (h.map _).sum_nat
theorem total_sub {vis F : List Fl} (hv : vis.Pairwise fun a b => a.born ≠ b.born) (hF : ∀ f ∈ vis, f ∈ F) : total vis ≤ total F := by
  obtain ⟨R, hR⟩ := subR hv hF
  rw [← total_perm hR]
  simp only [total, List.map_append, List.sum_append]; omega
theorem len_sub {vis F : List Fl} (hv : vis.Pairwise fun a b => a.born ≠ b.born) (hF : ∀ f ∈ vis, f ∈ F) : vis.length ≤ F.length := by
  obtain ⟨R, hR⟩ := subR hv hF
  rw [← hR.length_eq, List.length_append]; omega
structure Vis (F vis : List Fl) : Prop where
  born : vis.Pairwise fun a b => a.born ≠ b.born
  sub : ∀ f ∈ vis, f ∈ F
theorem Vis.start (F : List Fl) : Vis F [] := ⟨by simp, by simp⟩
theorem Vis.step {F vis : List Fl} {f : Fl} (h : Vis F vis) (hf : f ∈ F) (hn : ∀ g ∈ vis, g.born ≠ f.born) : Vis F (vis ++ [f]) := by
  refine ⟨List.pairwise_append.2 ⟨h.born, by simp, fun a ha b hb => ?_⟩, fun g hg => ?_⟩
  · rw [List.mem_singleton.1 hb]; exact hn a ha
  · rcases List.mem_append.1 hg with hg | hg
    · exact h.sub g hg
    · rw [List.mem_singleton.1 hg]; exact hf
theorem left_of {F vis : List Fl} {e : Men ByteArray} (he : e ∈ leftM (vis.map (·.born)) (F.map Fl.men)) : ∃ f ∈ F, e = f.men ∧ ∀ g ∈ vis, g.born ≠ f.born := by
  obtain ⟨h1, h2⟩ := List.mem_filter.1 he
  obtain ⟨f, hf, rfl⟩ := List.mem_map.1 h1
  refine ⟨f, hf, rfl, fun g hg e => ?_⟩
  simp only [Fl.men, Bool.not_eq_true', List.contains_eq_mem, decide_eq_false_iff_not] at h2
  exact h2 (List.mem_map.2 ⟨g, hg, e⟩)
theorem left_nil {F vis : List Fl} (h : Vis F vis) (hb : F.Pairwise fun a b => a.born ≠ b.born) (he : leftM (vis.map (·.born)) (F.map Fl.men) = []) : vis.Perm F := by
  refine allR h.born h.sub hb fun f hf => ?_
  have := List.filter_eq_nil_iff.1 he f.men (List.mem_map.2 ⟨f, hf, rfl⟩)
  simp only [Fl.men, Bool.not_eq_true', List.contains_eq_mem, decide_eq_false_iff_not, Decidable.not_not] at this
  obtain ⟨g, hg, e⟩ := List.mem_map.1 this
  exact ⟨g, hg, e⟩
theorem hSs : ∃ ti, tt.get 33 = some ti ∧ ti.k = .slice 9 := ⟨_, rfl, rfl⟩
theorem hSt : ∃ ti, tt.get 9 = some ti ∧ ti.size = 1 ∧ ti.bytes = 16 ∧ (LB.cells ti.zero).length = 1 := ⟨_, rfl, rfl, rfl, rfl⟩
abbrev sc (ss : List ByteArray) : List Value := ss.map Value.string
def So (m : Mem) (v : Value) (ss : List ByteArray) : Prop := Own m 9 1 v (sc ss)
def Sl (m : Mem) (v : Value) (ss : List ByteArray) : Prop := Lies m 1 v (sc ss)
theorem So.sl {m : Mem} {v : Value} {ss : List ByteArray} (h : So m v ss) : Sl m v ss := Own.lies h
theorem So.sub {m m' : Mem} {v : Value} {ss : List ByteArray} (h : So m v ss) (hs : Sub m m') : So m' v ss := Own.sub h hs
theorem Sl.sub {m m' : Mem} {v : Value} {ss : List ByteArray} (h : Sl m v ss) (hs : Sub m m') : Sl m' v ss := Lies.sub h hs
theorem So.nil (m : Mem) : So m (.slice none 0 0) [] := .inl ⟨rfl, rfl⟩
theorem Sl.shape {m : Mem} {v : Value} {ss : List ByteArray} (h : Sl m v ss) : ∃ a c, v = .slice a ss.length c := by
  rcases h with ⟨c, rfl, e⟩ | ⟨b, o, c, n, arr, t, fr, rfl, _, e, _⟩
  · have : ss.length = 0 := by simpa using congrArg List.length e
    exact ⟨none, c, by rw [this]⟩
  · have : ss.length = n := by simpa using e
    exact ⟨_, c, by rw [this]⟩
theorem Sl.real {m : Mem} {v : Value} {ss : List ByteArray} (h : Sl m v ss) {i : Nat} (hi : i < ss.length) : ∃ b o c, v = .slice (some ⟨b, o, none⟩) ss.length c ∧ ∀ j (hj : j < ss.length), mcell m b (o + j) = some (.string ss[j]) := by
  rcases h with ⟨c, rfl, e⟩ | ⟨b, o, c, n, arr, t, fr, rfl, g1, e, _, g2, _⟩
  · have : ss.length = 0 := by simpa using congrArg List.length e
    omega
  · have : ss.length = n := by simpa using e
    exact ⟨b, o, c, by rw [this], fun j hj => mcell_of g1 (g2 j _ (by simp [hj]))⟩
theorem buildS1 {m : Mem} {x : ByteArray} : PrimSpec Tryz.prog (.buildSlice 33 1 [0]) [.v (.string x)] m fun r m' => ∃ b, m b = none ∧ r = [.v (.slice (some ⟨b, 0, none⟩) 1 1)] ∧ m' = m.set b (.cells #[.string x] 9) := by
  obtain ⟨ti, h1, h2⟩ := hSs
  obtain ⟨ei, g1, g2, g3, g4⟩ := hSt
  exact (buildSlice_spec (n := 1) tt_ok h1 h2 g1 rfl rfl (by simp [CV.cs, g2]) (by omega) (by omega)).mono fun r m' ⟨b, e1, e2, e3⟩ => ⟨b, e1, e2, e3⟩
theorem pushS {m p : Mem} {ls : List Mem} {i b' : Nat} {x : ByteArray} {y : Value} {ss : List ByteArray} (hs : Split m ls) (hi : ls[i]? = some p) (hb : m b' = none) (hy : So p y ss) (hl : ss.length ≤ 10000000) :
    PrimSpec Tryz.prog (.builtin .append [33, 33]) [.v y, .v (.slice (some ⟨b', 0, none⟩) 1 1)] (m.set b' (.cells #[.string x] 9)) fun r m' => ∃ y' p', r = [.v y'] ∧ Split m' (ls.set i p') ∧ So p' y' (ss ++ [x]) := by
  obtain ⟨ti, h1, h2⟩ := hSs
  obtain ⟨ei, g1, g2, g3, g4⟩ := hSt
  have hs1 := hs.new hb (.cells #[.string x] 9)
  have e1 : lenV y = ss.length := by obtain ⟨a, c, rfl⟩ := hy.sl.shape; rfl
  have e2 : lenV (.slice (some ⟨b', 0, none⟩) 1 1) = 1 := rfl
  have g : Gives (m.set b' (.cells #[.string x] 9)) ei.size ti.k (.slice (some ⟨b', 0, none⟩) 1 1) (sc [x]) := by
    rw [h2, g2]
    exact .inl ⟨_, rfl, .inl (.inr ⟨b', 0, 1, 1, _, _, _, rfl, Mem.set_same .., rfl, Nat.le_refl _, fun j u hu => by rw [Nat.zero_add, List.getElem?_toArray]; exact hu, by simp [Value.oneCell']⟩)⟩
  have hy' : Own p 9 ei.size y (sc ss) := by rw [g2]; exact hy
  refine (append_at (news := sc [x]) tt_ok h1 h2 g1 h1 (by rw [g2, g4]) hs1 (i := i + 1) (by simpa using hi) hy' g (by rw [e1, e2, g3]; omega) (by rw [e1, e2]; omega)).mono fun r m' ⟨v', p', q1, q2, q3⟩ => ⟨v', p', q1, q2.erase 0, ?_⟩
  have := q3.own
  rw [g2] at this
  rw [So, sc, List.map_append]; exact this
theorem leU_trans (a b c : List UInt8) (h : decide (a ≤ b) = true) (k : decide (b ≤ c) = true) : decide (a ≤ c) = true := decide_eq_true (List.le_trans (of_decide_eq_true h) (of_decide_eq_true k))
theorem leU_total (a b : List UInt8) : (decide (a ≤ b) || decide (b ≤ a)) = true := by
  rcases List.le_total a b with h | h <;> simp [h]
theorem srtU_perm {l l' : List (List UInt8)} (h : l.Perm l') : (l.mergeSort fun x y => decide (x ≤ y)) = l'.mergeSort fun x y => decide (x ≤ y) :=
  List.Perm.eq_of_pairwise (le := fun a b => decide (a ≤ b) = true) (fun a b _ _ h1 h2 => List.le_antisymm (of_decide_eq_true h1) (of_decide_eq_true h2)) (List.pairwise_mergeSort leU_trans leU_total l) (List.pairwise_mergeSort leU_trans leU_total l')
    (((List.mergeSort_perm l _).trans h).trans (List.mergeSort_perm l' _).symm)
theorem srtB_perm {a b : List ByteArray} (h : a.Perm b) : srtB a = srtB b := by
  rw [srtB, srtB, srtU_perm (h.map encB)]
def namesF (F : List Fl) : List ByteArray := srtB (F.map (·.name))
theorem mapHyp {F : List Fl} {P : Fl → Prop} (h : ∀ f ∈ F, P f) {Q : Men ByteArray → Prop} (hq : ∀ f, P f → Q f.men) : ∀ e ∈ F.map Fl.men, Q e := fun e he => by
  obtain ⟨f, hf, rfl⟩ := List.mem_map.1 he; exact hq f (h f hf)
set_option maxHeartbeats 1000000 in
theorem used_spec {m : Mem} {bf bm : Nat} {q : Int} {nb ns clock : Nat} {F : List Fl} (h : FS m bf bm q nb ns clock F) (ht : total F ≤ 1000000000000) : Spec Tryz.prog 98 [ptrB bf] m fun r m' => r = [i64 (total F)] ∧ Sub m m' := by
  refine en98 rfl (goY ?_)
  conv => whnf
  refine ⟨fun _ => ?_, fun h => absurd h (by first | decide | simp)⟩
  conv => whnf
  refine ⟨_, mcell_of h.files rfl, rfl, ?_⟩
  conv => whnf
  refine .mk _ (rangeM_spec (P := Tryz.prog) Tryz.underlying48 h.map) ?_
  rintro _ _ ⟨it, hit, rfl, rfl⟩
  conv => whnf
  refine .mk (ι := List Fl) (fun vis => F.length - vis.length) (fun vis mm => Vis F vis ∧ mm = m.set it (iterO bm clock (vis.map (·.born)))) (fun vis => [(3, .c (i64 (total vis))), (12, .c (ptrB it))]) (fun _ => []) [] ⟨Vis.start F, rfl⟩ ?_ ?_
  · conv => whnf
    repeat (refine And.intro (by first | with_reducible rfl | exact congrArg (Value.int _) (wi (by omega) (by omega)) | exact wi (by omega) (by omega) | rfl) ?_; conv => whnf)
    first | exact trivial | exact fun _ _ h => h
  rintro vis mm ⟨hv, rfl⟩
  have hbm : (m.set it (iterO bm clock (vis.map (·.born)))) bm = some (mapF F clock) := Mem.sub_set _ hit _ _ h.map
  conv => whnf
  refine .mk _ (nextM_spec (P := Tryz.prog) (Mem.set_same ..) hbm (mapHyp h.ok fun f hf => hf.born) (mapHyp h.ok fun f _ => rfl) (fun _ => rfl)) ?_
  rintro _ m' (⟨he, rfl, rfl⟩ | ⟨e, he, rfl, rfl⟩)
  · conv => whnf
    refine ⟨fun h => absurd h (by first | decide | simp), fun _ => ?_⟩
    conv => whnf
    have hp := left_nil hv h.borns he
    exact ⟨by rw [total_perm hp], Mem.sub_set _ hit⟩
  · obtain ⟨f, hf, rfl, hn⟩ := left_of he
    have hv2 := hv.step hf hn
    have hlen := len_sub hv2.born hv2.sub
    have htot := total_sub hv2.born hv2.sub
    have et : total (vis ++ [f]) = total vis + f.l.length := by simp [total]
    rw [List.length_append, List.length_singleton] at hlen
    rw [Mem.set_set]
    have hbm : (m.set it (iterO bm clock (vis.map (·.born) ++ [f.men.b]))) bm = some (mapF F clock) := Mem.sub_set _ hit _ _ h.map
    have hfx : (m.set it (iterO bm clock (vis.map (·.born) ++ [f.men.b]))) f.bx = some (fileO f.v f.safe) := Mem.sub_set _ hit _ _ (h.mem hf)
    obtain ⟨a, c, hfv⟩ := (h.bytes hf).lb.shape
    rw [nc_len] at hfv
    conv => whnf
    refine ⟨fun _ => ?_, fun h => absurd h (by first | decide | simp)⟩
    conv => whnf
    refine .mk _ (entryM_spec (P := Tryz.prog) (Mem.set_same ..) hbm (List.mem_map.2 ⟨f, hf, rfl⟩) (List.pairwise_map.2 h.borns) rfl rfl) ?_
    rintro _ _ ⟨rfl, rfl⟩
    conv => whnf
    rw [hfv] at hfx
    refine ⟨_, mcell_of hfx rfl, rfl, ?_⟩
    conv => whnf
    have ew : IntKind.i64.wrap ((total vis : Int) + (f.l.length : Int)) = ((total (vis ++ [f]) : Nat) : Int) := by rw [et, wi (by omega) (by omega)]; omega
    refine ⟨vis ++ [f], ⟨hv2, by rw [List.map_append]; rfl⟩, by simp; omega, ?_⟩
    conv => whnf
    repeat (refine And.intro (by first | with_reducible rfl | (first | exact congrArg (Value.int _) ew) | exact congrArg (Value.int _) (wi (by omega) (by omega)) | exact wi (by omega) (by omega) | rfl) ?_; conv => whnf)
    first | exact trivial | exact fun _ _ h => h
set_option maxHeartbeats 1000000 in
theorem names_spec {m : Mem} {bf bm : Nat} {q : Int} {nb ns clock : Nat} {F : List Fl} (h : FS m bf bm q nb ns clock F) (hl : F.length ≤ 1000000) : Spec Tryz.prog 34 [ptrB bf] m fun r m' => ∃ v p, r = [.v v] ∧ Split m' [p, m] ∧ So p v (namesF F) := by
  refine en34 rfl (goY ?_)
  conv => whnf
  refine ⟨fun _ => ?_, fun h => absurd h (by first | decide | simp)⟩
  conv => whnf
  refine ⟨_, mcell_of h.files rfl, rfl, ?_⟩
  conv => whnf
  refine .mk _ (rangeM_spec (P := Tryz.prog) Tryz.underlying48 h.map) ?_
  rintro _ _ ⟨it, hit, rfl, rfl⟩
  conv => whnf
  refine .mk (ι := List Fl × Value) (fun i => F.length - i.1.length) (fun ⟨vis, v⟩ mm => Vis F vis ∧ ∃ p, Split mm [p, blk1 it (iterO bm clock (vis.map (·.born))), m] ∧ So p v (vis.map (·.name))) (fun ⟨vis, v⟩ => [(3, .c (.v v)), (11, .c (ptrB it))]) (fun _ => []) ([], .slice none 0 0) ⟨Vis.start F, emp, ((Split.one m).new hit _).addEmp, So.nil _⟩ ?_ ?_
  · conv => whnf
    repeat (refine And.intro (by first | with_reducible rfl | exact congrArg (Value.int _) (wi (by omega) (by omega)) | exact wi (by omega) (by omega) | rfl) ?_; conv => whnf)
    first | exact trivial | exact fun _ _ h => h
  rintro ⟨vis, v⟩ mm ⟨hv, p, hs, hvs⟩
  have hbm : mm bm = some (mapF F clock) := hs.sub (a := m) (by simp) _ _ h.map
  have hit' : mm it = some (iterO bm clock (vis.map (·.born))) := hs.sub (a := blk1 it (iterO bm clock (vis.map (·.born)))) (by simp) _ _ (blk1_same ..)
  conv => whnf
  refine .mk _ (nextM_spec (P := Tryz.prog) hit' hbm (mapHyp h.ok fun f hf => hf.born) (mapHyp h.ok fun f _ => rfl) (fun _ => rfl)) ?_
  rintro _ m' (⟨he, rfl, rfl⟩ | ⟨e, he, rfl, rfl⟩)
  · conv => whnf
    refine ⟨fun h => absurd h (by first | decide | simp), fun _ => ?_⟩
    conv => whnf
    have hp := left_nil hv h.borns he
    have hlen : vis.length = F.length := hp.length_eq
    refine xcall ((sort_spec (m := p) hvs (by rw [List.length_map]; omega)).frame hs) ?_
    rintro _ m2 ⟨p2, ⟨rfl, hv2⟩, hs2⟩
    conv => whnf
    refine ⟨v, p2, rfl, hs2.erase 1, ?_⟩
    rw [namesF, ← srtB_perm (hp.map _)]; exact hv2
  · obtain ⟨f, hf, rfl, hn⟩ := left_of he
    have hv2 := hv.step hf hn
    have hlen := len_sub hv2.born hv2.sub
    rw [List.length_append, List.length_singleton] at hlen
    have hs1 := hs.setAt (i := 1) rfl (blk1_same ..) (iterO bm clock (vis.map (·.born) ++ [f.men.b]))
    rw [blk1_set] at hs1
    have hs1 : Split _ [p, blk1 it (iterO bm clock (vis.map (·.born) ++ [f.men.b])), m] := hs1
    have hbm : (mm.set it (iterO bm clock (vis.map (·.born) ++ [f.men.b]))) bm = some (mapF F clock) := hs1.sub (a := m) (by simp) _ _ h.map
    conv => whnf
    refine ⟨fun _ => ?_, fun h => absurd h (by first | decide | simp)⟩
    conv => whnf
    refine .mk _ (entryM_spec (P := Tryz.prog) (Mem.set_same ..) hbm (List.mem_map.2 ⟨f, hf, rfl⟩) (List.pairwise_map.2 h.borns) rfl rfl) ?_
    rintro _ _ ⟨rfl, rfl⟩
    conv => whnf
    refine .mk _ (buildS1) ?_
    rintro _ _ ⟨b, hb, rfl, rfl⟩
    conv => whnf
    refine .mk _ (pushS (i := 0) hs1 rfl hb hvs (by rw [List.length_map]; omega)) ?_
    rintro _ m' ⟨v', p', rfl, hs', hv'⟩
    conv => whnf
    refine ⟨(vis ++ [f], v'), ⟨hv2, p', by rw [List.map_append]; exact hs', by rw [List.map_append]; exact hv'⟩, by simp; omega, ?_⟩
    conv => whnf
    repeat (refine And.intro (by first | with_reducible rfl | exact congrArg (Value.int _) (wi (by omega) (by omega)) | exact wi (by omega) (by omega) | rfl) ?_; conv => whnf)
    first | exact trivial | exact fun _ _ h => h
section
variable {p : Mem} {bf bm : Nat} {q : Int} {nb ns clock : Nat} {A B : List Fl} {f g : Fl}
theorem partsPerm (A B : List Fl) (f : Fl) (X Y : Mem) : (X :: Y :: (A ++ f :: B).flatMap Fl.parts).Perm (blk1 f.bx (fileO f.v f.safe) :: f.p :: X :: Y :: (A ++ B).flatMap Fl.parts) := by
  rw [List.flatMap_append, List.flatMap_cons, List.flatMap_append]
  have h1 : (A.flatMap Fl.parts ++ (f.parts ++ B.flatMap Fl.parts)).Perm (f.parts ++ (A.flatMap Fl.parts ++ B.flatMap Fl.parts)) := by
    rw [← List.append_assoc, ← List.append_assoc]
    exact List.Perm.append_right _ List.perm_append_comm
  refine (List.Perm.cons X (List.Perm.cons Y h1)).trans ?_
  show (X :: Y :: (blk1 f.bx (fileO f.v f.safe) :: f.p :: (A.flatMap Fl.parts ++ B.flatMap Fl.parts))).Perm _
  exact (List.perm_append_comm (l₁ := [X, Y]) (l₂ := [blk1 f.bx (fileO f.v f.safe), f.p])).append_right _
theorem FS.pick (h : FS p bf bm q nb ns clock (A ++ f :: B)) : Split p (blk1 f.bx (fileO f.v f.safe) :: f.p :: blk1 bf (filesO q bm nb ns) :: blk1 bm (mapF (A ++ f :: B) clock) :: (A ++ B).flatMap Fl.parts) := h.sp.perm (partsPerm A B f _ _)
theorem men_same (h1 : g.name = f.name) (h2 : g.bx = f.bx) (h3 : g.born = f.born) : (A ++ g :: B).map Fl.men = (A ++ f :: B).map Fl.men := by
  simp only [List.map_append, List.map_cons, Fl.men, h1, h2, h3]
theorem FS.put (h : FS p bf bm q nb ns clock (A ++ f :: B)) {p' : Mem} {nb' ns' : Nat} (h1 : g.name = f.name) (h2 : g.bx = f.bx) (h3 : g.born = f.born) (hok : g.Ok clock)
    (hs : Split p' (blk1 f.bx (fileO g.v g.safe) :: g.p :: blk1 bf (filesO q bm nb' ns') :: blk1 bm (mapF (A ++ f :: B) clock) :: (A ++ B).flatMap Fl.parts)) : FS p' bf bm q nb' ns' clock (A ++ g :: B) := by
  refine ⟨?_, ?_, ?_, ?_⟩
  · have e : mapF (A ++ g :: B) clock = mapF (A ++ f :: B) clock := by rw [mapF, mapF, men_same h1 h2 h3]
    rw [e]
    rw [← h2] at hs
    exact hs.perm (partsPerm A B g _ _).symm
  · intro x hx
    rcases List.mem_append.1 hx with hx | hx
    · exact h.ok x (by simp [hx])
    · rcases List.mem_cons.1 hx with rfl | hx
      · exact hok
      · exact h.ok x (by simp [hx])
  · have := h.names
    have e : (A ++ g :: B).map (·.name) = (A ++ f :: B).map (·.name) := by simp [h1]
    have h4 := List.pairwise_map.2 this
    rw [← e] at h4
    exact List.pairwise_map.1 h4
  · have := h.borns
    have e : (A ++ g :: B).map (·.born) = (A ++ f :: B).map (·.born) := by simp [h3]
    have h4 := List.pairwise_map.2 this
    rw [← e] at h4
    exact List.pairwise_map.1 h4
end
def mapAt (F : List Fl) (name : ByteArray) (k : Fl → Fl) : List Fl := F.map fun f => if f.name = name then k f else f
theorem mapAt_split {A B : List Fl} {f : Fl} {k : Fl → Fl} (hn : (A ++ f :: B).Pairwise fun a b => a.name ≠ b.name) : mapAt (A ++ f :: B) f.name k = A ++ k f :: B := by
  obtain ⟨h1, h2, h3⟩ := List.pairwise_append.1 hn
  obtain ⟨h4, _⟩ := List.pairwise_cons.1 h2
  have ea : A.map (fun g => if g.name = f.name then k g else g) = A := by
    refine (List.map_congr_left fun g hg => ?_).trans (List.map_id A)
    rw [if_neg (h3 g hg f (by simp))]; rfl
  have eb : B.map (fun g => if g.name = f.name then k g else g) = B := by
    refine (List.map_congr_left fun g hg => ?_).trans (List.map_id B)
    rw [if_neg (Ne.symm (h4 g hg))]; rfl
  rw [mapAt, List.map_append, List.map_cons, ea, eb, if_pos rfl]
def syncF (F : List Fl) (name : ByteArray) : List Fl := mapAt F name fun f => { f with safe := f.l.length }
set_option maxHeartbeats 1000000 in
theorem sync_spec {m : Mem} {bf bm : Nat} {q : Int} {nb ns clock : Nat} {F : List Fl} {name : ByteArray} (h : FS m bf bm q nb ns clock F) (hns : ns ≤ 1000000000000000000) :
    Spec Tryz.prog 89 [ptrB bf, .v (.string name)] m fun r m' => (r = [i64 (if (fileOf F name).isSome then 0 else 4)]) ∧ FS m' bf bm q nb (if (fileOf F name).isSome then ns + 1 else ns) clock (syncF F name) := by
  have hf := find_spec (name := name) h
  refine en89 rfl (goY ?_)
  conv => whnf
  cases e : fileOf F name with
  | none =>
    rw [e] at hf
    first | refine xretk (hf) ?_ | refine xret (hf) ?_
    conv => whnf
    refine ⟨fun h => absurd h (by first | decide | simp), fun _ => ?_⟩
    conv => whnf
    refine ⟨rfl, ?_⟩
    have : syncF F name = F := by
      refine (List.map_congr_left fun f hf => ?_).trans (List.map_id F)
      have := List.find?_eq_none.1 e f hf
      rw [if_neg (fun e => this (by simp [e]))]; rfl
    rw [this]; exact h
  | some f =>
    rw [e] at hf
    obtain ⟨A, B, rfl, _, rfl⟩ := fileOf_split e
    have hm := h.mem (fileOf_mem e).1
    obtain ⟨a, c, hfv⟩ := (h.bytes (fileOf_mem e).1).lb.shape
    have hok := h.ok f (by simp)
    have hsp := h.pick
    rw [nc_len] at hfv
    first | refine xretk (hf) ?_ | refine xret (hf) ?_
    conv => whnf
    refine ⟨fun _ => ?_, fun h => absurd h (by first | decide | simp)⟩
    conv => whnf
    rw [hfv] at hm
    refine ⟨_, mcell_of hm rfl, rfl, ?_⟩
    conv => whnf
    refine ⟨_, _, _, hm, ⟨Nat.le_refl 2, by simp⟩, ?_⟩
    have hs1 := hsp.setAt (i := 0) rfl (blk1_same ..) (fileO f.v f.l.length)
    rw [blk1_set] at hs1
    have hs1 : Split (m.set f.bx (fileO f.v f.l.length)) (blk1 f.bx (fileO f.v f.l.length) :: f.p :: blk1 bf (filesO q bm nb ns) :: blk1 bm (mapF (A ++ f :: B) clock) :: (A ++ B).flatMap Fl.parts) := hs1
    have hb1 : (m.set f.bx (fileO f.v f.l.length)) bf = some (filesO q bm nb ns) := hs1.sub (a := blk1 bf (filesO q bm nb ns)) (by simp) _ _ (blk1_same ..)
    rw [hfv] at hs1 hb1
    conv => whnf
    refine xcall (aadd_at (y := 1) hb1 rfl (by omega)) ?_
    rintro _ m2 ⟨rfl, rfl⟩
    conv => whnf
    have hs2 := hs1.setAt (i := 2) rfl (blk1_same ..) (filesO q bm nb (ns + 1))
    rw [blk1_set] at hs2
    refine ⟨rfl, ?_⟩
    rw [syncF, mapAt_split h.names]
    refine h.put (g := { f with safe := f.l.length }) rfl rfl rfl ⟨hok.bs, hok.byt, Nat.le_refl _, hok.born⟩ ?_
    rw [show ({ f with safe := f.l.length } : Fl).v = Value.slice a f.l.length c from hfv]
    exact hs2
def cutF (F : List Fl) (name : ByteArray) (n : Nat) (v : Value) : List Fl := mapAt F name fun f => { f with l := f.l.take n, v := v, safe := min f.safe n }
def CutR (F : List Fl) (name : ByteArray) (n : Int) (e : Int) (F' : List Fl) : Prop := match fileOf F name with
  | none => e = 4 ∧ F' = F
  | some f => if 0 ≤ n ∧ n ≤ f.l.length then e = 0 ∧ ∃ v, F' = cutF F name n.toNat v else e = 1 ∧ F' = F
theorem Bs.cutCap' {p : Mem} {b o c n k : Nat} {l : List Int} (h : Bs p (.slice (some ⟨b, o, none⟩) k c) l) (_ : l.length = k) (hn : n ≤ l.length) : Bs p (.slice (some ⟨b, o, none⟩) n n) (l.take n) := by
  rcases h with ⟨e, _⟩ | ⟨b', o', c', n', arr, e, h1, h2, h3, h4, h5, h6⟩
  · cases e
  · cases e
    refine .inr ⟨b, o, n, n, arr, rfl, h1, by simp [bc]; omega, Nat.le_refl _, by omega, fun j u hu => h5 j u ?_, bc_one⟩
    rw [bc, List.getElem?_map, List.getElem?_take] at hu
    rw [bc, List.getElem?_map]
    split at hu
    · exact hu
    · cases hu
set_option maxHeartbeats 1000000 in
theorem cut_spec {m : Mem} {bf bm : Nat} {q : Int} {nb ns clock : Nat} {F : List Fl} {name : ByteArray} {n : Int} (h : FS m bf bm q nb ns clock F) (hl : ∀ f ∈ F, f.l.length ≤ 100000000) :
    Spec Tryz.prog 55 [ptrB bf, .v (.string name), i64 n] m fun r m' => ∃ e F', r = [i64 e] ∧ FS m' bf bm q nb ns clock F' ∧ CutR F name n e F' := by
  have hf := find_spec (name := name) h
  refine en55 rfl (goY ?_)
  conv => whnf
  cases e : fileOf F name with
  | none =>
    rw [e] at hf
    first | refine xretk (hf) ?_ | refine xret (hf) ?_
    conv => whnf
    refine ⟨fun _ => ?_, fun h => absurd h (by first | decide | simp)⟩
    conv => whnf
    exact ⟨4, F, rfl, h, by simp [CutR, e]⟩
  | some f =>
    rw [e] at hf
    have hmem := (fileOf_mem e).1
    have hm := h.mem hmem
    have hbs := h.bytes hmem
    have hok := h.ok f hmem
    have hlf := hl f hmem
    obtain ⟨a, c, hfv⟩ := hbs.lb.shape
    rw [nc_len] at hfv
    first | refine xretk (hf) ?_ | refine xret (hf) ?_
    conv => whnf
    refine ⟨fun h => absurd h (by first | decide | simp), fun _ => ?_⟩
    conv => whnf
    refine ⟨fun h1 => ?_, fun h1 => ?_⟩
    · have h1' := of_decide_eq_true h1
      conv => whnf
      exact ⟨1, F, rfl, h, by simp [CutR, e, show ¬ (0 ≤ n ∧ n ≤ (f.l.length : Int)) by omega]⟩
    have h1' := of_decide_eq_false h1
    clear h1
    rw [hfv] at hm
    conv => whnf
    refine ⟨_, mcell_of hm rfl, rfl, ?_⟩
    conv => whnf
    refine ⟨fun h2 => ?_, fun h2 => ?_⟩
    · have h2' := of_decide_eq_true h2
      conv => whnf
      exact ⟨1, F, rfl, h, by simp [CutR, e, show ¬ (0 ≤ n ∧ n ≤ (f.l.length : Int)) by omega]⟩
    have h2' := of_decide_eq_false h2
    clear h2
    obtain ⟨k, rfl⟩ : ∃ k : Nat, n = (k : Int) := ⟨n.toNat, by omega⟩
    have hk : k ≤ f.l.length := by omega
    have hcr : ∀ v, CutR F name k 0 (cutF F name k v) := fun v => by
      have hc : (0 ≤ (k : Int) ∧ (k : Int) ≤ (f.l.length : Int)) := by omega
      simp only [CutR, e]; rw [if_pos hc, Int.toNat_natCast]; exact ⟨trivial, v, rfl⟩
    obtain ⟨A, B, rfl, _, rfl⟩ := fileOf_split e
    have hsp := h.pick
    have hmin : ((min f.safe k : Nat) : Int) = if (f.safe : Int) < (k : Int) then (f.safe : Int) else (k : Int) := by split <;> omega
    have fin : ∀ v, Bs f.p v (nc (f.l.take k)) → ∀ m', m' = m.set f.bx (fileO v (min f.safe k)) → FS m' bf bm q nb ns clock (cutF (A ++ f :: B) f.name k v) := fun v hv m' hm' => by
      subst hm'
      have hs1 := hsp.setAt (i := 0) rfl (blk1_same ..) (fileO v (min f.safe k))
      rw [blk1_set] at hs1
      rw [cutF, mapAt_split h.names]
      exact h.put (g := { f with l := f.l.take k, v := v, safe := min f.safe k }) rfl rfl rfl ⟨hv, fun x hx => hok.byt x (List.mem_of_mem_take hx), by simp only [List.length_take]; have := hok.safe; omega, hok.born⟩ hs1
    conv => whnf
    refine ⟨.slice a f.l.length c, mcell_of hm rfl, rfl, ?_⟩
    conv => whnf
    have ek : (k : Int).toNat = k := by omega
    cases a with
    | none =>
      have hz : f.l.length = 0 ∧ c = 0 := by
        rcases hok.bs with ⟨e1, e2⟩ | ⟨b, o, c', n, arr, e1, _⟩
        · rw [hfv] at e1
          injection e1 with _ e3 e4
          exact ⟨e3, e4⟩
        · rw [hfv] at e1; cases e1
      obtain ⟨hz1, rfl⟩ := hz
      obtain rfl : k = 0 := by omega
      rw [hz1] at hm hfv ⊢
      conv => whnf
      repeat (refine And.intro (by first | omega | (simp only [times]; omega)) ?_; conv => whnf)
      refine ⟨.int .i64 f.safe, mcell_of hm rfl, rfl, ?_⟩
      conv => whnf
      rw [show min (f.safe : Int) ((0 : Nat) : Int) = ((min f.safe 0 : Nat) : Int) by omega]
      refine ⟨_, _, _, hm, ⟨Nat.zero_lt_succ _, by simp⟩, ?_⟩
      conv => whnf
      refine ⟨_, _, _, Mem.set_same .., ⟨Nat.le_refl 2, by simp⟩, ?_⟩
      rw [Mem.set_set]
      conv => whnf
      exact ⟨0, _, rfl, fin (.slice none 0 0) (by rw [List.take_zero]; exact Bs.nil _) _ rfl, hcr _⟩
    | some a =>
      have hsh : ∃ b o, a = ⟨b, o, none⟩ ∧ f.l.length ≤ c := by
        rcases hok.bs with ⟨e1, _⟩ | ⟨b, o, c', n, arr, e1, _, _, h5, _⟩
        · rw [hfv] at e1; cases e1
        · rw [hfv] at e1; cases e1; exact ⟨b, o, rfl, h5⟩
      obtain ⟨b, o, rfl, hc⟩ := hsh
      have hbs : Bs f.p (.slice (some ⟨b, o, none⟩) f.l.length c) (nc f.l) := by rw [← hfv]; exact hok.bs
      conv => whnf
      repeat (refine And.intro (by first | omega | (simp only [times]; omega)) ?_; conv => whnf)
      intro o' q1 q2
      obtain rfl : o' = o := by
        by_cases h0 : k = 0
        · have := q2 (by omega); simpa using this
        · have := q1 (by omega); simpa [times] using this
      conv => whnf
      refine ⟨.int .i64 f.safe, mcell_of hm rfl, rfl, ?_⟩
      conv => whnf
      rw [show min (f.safe : Int) (k : Int) = ((min f.safe k : Nat) : Int) by omega]
      refine ⟨_, _, _, hm, ⟨Nat.zero_lt_succ _, by simp⟩, ?_⟩
      conv => whnf
      refine ⟨_, _, _, Mem.set_same .., ⟨Nat.le_refl 2, by simp⟩, ?_⟩
      rw [Mem.set_set]
      conv => whnf
      have hcc := hbs.cutCap' (n := k) (by rw [nc_len]) (by rw [nc_len]; exact hk)
      rw [show (nc f.l).take k = nc (f.l.take k) by simp [nc, List.map_take]] at hcc
      exact ⟨0, _, rfl, fin (.slice (some ⟨b, o', none⟩) k k) hcc _ rfl, hcr _⟩
theorem readF_spec {m : Mem} {bf bm : Nat} {q : Int} {nb ns clock : Nat} {F : List Fl} {name : ByteArray} (h : FS m bf bm q nb ns clock F) (hl : ∀ f ∈ F, f.l.length ≤ 100000000) :
    Spec Tryz.prog 51 [ptrB bf, .v (.string name)] m fun r m' => ∃ v p, r = [.v v, i64 (if (fileOf F name).isSome then 0 else 4)] ∧ Split m' [p, m] ∧ Bs p v (nc (((fileOf F name).map (·.l)).getD [])) := by
  have hf := find_spec (name := name) h
  refine en51 rfl (goY ?_)
  conv => whnf
  cases e : fileOf F name with
  | none =>
    rw [e] at hf
    first | refine xretk (hf) ?_ | refine xret (hf) ?_
    conv => whnf
    refine ⟨fun _ => ?_, fun h => absurd h (by first | decide | simp)⟩
    conv => whnf
    exact ⟨_, emp, rfl, (Split.one m).addEmp, Bs.nil _⟩
  | some f =>
    rw [e] at hf
    have hmem := (fileOf_mem e).1
    have hm := h.mem hmem
    have hbs := h.bytes hmem
    first | refine xretk (hf) ?_ | refine xret (hf) ?_
    conv => whnf
    refine ⟨fun h => absurd h (by first | decide | simp), fun _ => ?_⟩
    conv => whnf
    refine ⟨f.v, mcell_of hm rfl, hbs.lb.one, ?_⟩
    conv => whnf
    refine xcall (clone_spec hbs.lb.la (by rw [nc_len]; exact hl f hmem)) ?_
    rintro _ m1 ⟨v, p, rfl, hs, hv⟩
    conv => whnf
    exact ⟨v, p, rfl, hs, hv⟩
theorem readF_nil {m : Mem} {name : ByteArray} : Ret Tryz.prog 51 [.v (.pointer none), .v (.string name)] m [.v (.slice none 0 0), i64 6] := by
  refine en51 rfl (goY ?_)
  conv => whnf
  first | refine xretk (find_nil) ?_ | refine xret (find_nil) ?_
  conv => whnf
  refine ⟨fun _ => ?_, fun h => absurd h (by first | decide | simp)⟩
  conv => whnf
  exact ⟨rfl, rfl⟩
theorem delM_files {A B : List Fl} {f : Fl} (hA : ∀ x ∈ A, x.name ≠ f.name) : delM f.name ((A ++ f :: B).map Fl.men) = (A ++ B).map Fl.men := by
  induction A with
  | nil => simp [delM, Fl.men]
  | cons x A ih =>
    have h1 := hA x (by simp)
    have ih := ih fun y hy => hA y (by simp [hy])
    rw [List.cons_append, List.map_cons, delM, if_neg (fun e => h1 (by simpa [Fl.men] using e.symm)), ih, List.cons_append, List.map_cons]
theorem FS.names_of {p : Mem} {bf bm : Nat} {q : Int} {nb ns clock : Nat} {A B : List Fl} {f : Fl} (h : FS p bf bm q nb ns clock (A ++ f :: B)) : (∀ x ∈ A, x.name ≠ f.name) ∧ ∀ x ∈ B, x.name ≠ f.name := by
  obtain ⟨h1, h2, h3⟩ := List.pairwise_append.1 h.names
  exact ⟨fun x hx => h3 x hx f (by simp), fun x hx => Ne.symm ((List.pairwise_cons.1 h2).1 x hx)⟩
theorem FS.del {p p' : Mem} {bf bm : Nat} {q : Int} {nb ns clock : Nat} {A B : List Fl} {f : Fl} (h : FS p bf bm q nb ns clock (A ++ f :: B)) (hp : p' = p.set bm (mapF (A ++ B) clock)) :
    FS p' bf bm q nb ns clock (A ++ B) ∧ Split p' (blk1 f.bx (fileO f.v f.safe) :: f.p :: blk1 bf (filesO q bm nb ns) :: blk1 bm (mapF (A ++ B) clock) :: (A ++ B).flatMap Fl.parts) := by
  have hs := h.pick.setAt (i := 3) rfl (blk1_same ..) (mapF (A ++ B) clock)
  rw [blk1_set] at hs
  have hs : Split p' (blk1 f.bx (fileO f.v f.safe) :: f.p :: blk1 bf (filesO q bm nb ns) :: blk1 bm (mapF (A ++ B) clock) :: (A ++ B).flatMap Fl.parts) := by rw [hp]; exact hs
  have hsub : (A ++ B).Sublist (A ++ f :: B) := List.Sublist.append (List.Sublist.refl A) (List.sublist_cons_self f B)
  exact ⟨⟨hs.drop.drop, fun x hx => h.ok x (hsub.subset hx), h.names.sublist hsub, h.borns.sublist hsub⟩, hs⟩
def rmF (F : List Fl) (name : ByteArray) : List Fl := F.filter fun f => !decide (f.name = name)
theorem rmF_split {A B : List Fl} {f : Fl} (hA : ∀ x ∈ A, x.name ≠ f.name) (hB : ∀ x ∈ B, x.name ≠ f.name) : rmF (A ++ f :: B) f.name = A ++ B := by
  have ha : A.filter (fun g => !decide (g.name = f.name)) = A := List.filter_eq_self.2 fun x hx => by simp [hA x hx]
  have hb : B.filter (fun g => !decide (g.name = f.name)) = B := List.filter_eq_self.2 fun x hx => by simp [hB x hx]
  rw [rmF, List.filter_append, List.filter_cons, ha, hb]; simp
theorem rmF_none {F : List Fl} {name : ByteArray} (h : fileOf F name = none) : rmF F name = F := by
  refine List.filter_eq_self.2 fun x hx => ?_
  have := List.find?_eq_none.1 h x hx
  simp only [decide_eq_true_eq] at this
  simp [Ne.symm this]
theorem mapDelF {m : Mem} {bm clock : Nat} {F : List Fl} {name : ByteArray} (hb : m bm = some (mapF F clock)) :
    PrimSpec Tryz.prog (.builtin .delete [48, 9]) [.v (.map (some bm)), .v (.string name)] m fun r m' => r = [] ∧ m' = m.set bm (mapO Value.string (delM name (F.map Fl.men)) clock) :=
  mapDel_spec (P := Tryz.prog) strKey Tryz.underlying48 Tryz.underlying9 (k := name) hb
theorem mapSetF {m : Mem} {bm clock : Nat} {F : List Fl} {name : ByteArray} {v : CV} (hb : m bm = some (mapF F clock)) :
    PrimSpec Tryz.prog (.mapUpdate 48) [.v (.map (some bm)), .v (.string name), v] m fun r m' => m' = m.set bm (mapO Value.string (setM name v clock (F.map Fl.men)) (clockM name clock (F.map Fl.men))) :=
  mapSet_spec (P := Tryz.prog) strKey Tryz.underlying48 Tryz.underlying9 (k := name) hb
theorem remove_spec {m : Mem} {bf bm : Nat} {q : Int} {nb ns clock : Nat} {F : List Fl} {name : ByteArray} (h : FS m bf bm q nb ns clock F) :
    Spec Tryz.prog 54 [ptrB bf, .v (.string name)] m fun r m' => r = [i64 (if (fileOf F name).isSome then 0 else 4)] ∧ FS m' bf bm q nb ns clock (rmF F name) := by
  have hf := find_spec (name := name) h
  refine en54 rfl (goY ?_)
  conv => whnf
  cases e : fileOf F name with
  | none =>
    rw [e] at hf
    first | refine xretk (hf) ?_ | refine xret (hf) ?_
    conv => whnf
    refine ⟨fun h => absurd h (by first | decide | simp), fun _ => ?_⟩
    conv => whnf
    exact ⟨rfl, by rw [rmF_none e]; exact h⟩
  | some f =>
    rw [e] at hf
    obtain ⟨A, B, rfl, _, rfl⟩ := fileOf_split e
    obtain ⟨hA, hB⟩ := h.names_of
    first | refine xretk (hf) ?_ | refine xret (hf) ?_
    conv => whnf
    refine ⟨fun _ => ?_, fun h => absurd h (by first | decide | simp)⟩
    conv => whnf
    refine ⟨.map (some bm), mcell_of h.files rfl, rfl, ?_⟩
    conv => whnf
    refine .mk _ (mapDelF h.map) ?_
    rintro _ _ ⟨rfl, rfl⟩
    conv => whnf
    rw [delM_files hA]
    exact ⟨rfl, by rw [rmF_split hA hB]; exact (h.del rfl).1⟩
def putF (F : List Fl) (f : Fl) (name : ByteArray) (clock : Nat) : List Fl := match F with
  | [] => [{ f with name := name, born := clock }]
  | g :: F => if name = g.name then { f with name := name, born := g.born } :: F else g :: putF F f name clock
def clockF (F : List Fl) (name : ByteArray) (clock : Nat) : Nat := if (fileOf F name).isSome then clock else clock + 1
theorem setM_files (f : Fl) (name : ByteArray) (clock : Nat) : ∀ F : List Fl, setM name (.v (.pointer (some ⟨f.bx, 0, none⟩))) clock (F.map Fl.men) = (putF F f name clock).map Fl.men
  | [] => rfl
  | g :: F => by
    rw [List.map_cons, setM, putF]
    by_cases h : name = g.name
    · have h' : name = g.men.k := h
      rw [if_pos h', if_pos h]; rfl
    · have h' : ¬ name = g.men.k := h
      rw [if_neg h', if_neg h, setM_files f name clock F]; rfl
theorem putF_split {F : List Fl} {f : Fl} {name : ByteArray} {clock : Nat} : (fileOf F name = none ∧ putF F f name clock = F ++ [{ f with name := name, born := clock }]) ∨ ∃ C g D, F = C ++ g :: D ∧ g.name = name ∧ (∀ x ∈ C, x.name ≠ name) ∧ fileOf F name = some g ∧ putF F f name clock = C ++ { f with name := name, born := g.born } :: D := by
  induction F with
  | nil => exact .inl ⟨rfl, rfl⟩
  | cons g F ih =>
    by_cases h : name = g.name
    · refine .inr ⟨[], g, F, rfl, h.symm, by simp, ?_, ?_⟩
      · unfold fileOf; rw [List.find?_cons, decide_eq_true h]
      · rw [putF, if_pos h]; rfl
    · have hf : fileOf (g :: F) name = fileOf F name := by unfold fileOf; rw [List.find?_cons, decide_eq_false h]
      rcases ih with ⟨h1, h2⟩ | ⟨C, g', D, rfl, h1, h2, h3, h4⟩
      · refine .inl ⟨hf.trans h1, ?_⟩
        rw [putF, if_neg h, h2]; rfl
      · refine .inr ⟨g :: C, g', D, rfl, h1, fun x hx => ?_, hf.trans h3, ?_⟩
        · rcases List.mem_cons.1 hx with rfl | hx
          · exact Ne.symm h
          · exact h2 x hx
        · rw [putF, if_neg h, h4]; rfl
end Go.E.YtcionccfgcnhoaaGreatDoor
