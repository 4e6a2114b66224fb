import Derived.Shelf.LaysM
import Derived.Shelf.LaysC
import Derived.Shelf.Strings.OnBuilder
import Derived.Shelf.Strconv.Itoa4
import Derived.Shelf.Strconv.ErrVarParseInt
import Derived.Shelf.Strconv.ParseIntPublic10
import Derived.Shelf.Strings.Cut
import Derived.Shelf.Strings.SplitShaped
import Derived.Test.YtjhgembcdndmkaaGreatDoorRows
import Derived.Test.YtjhgembcdndmkaaGreatDoorProg
import Derived.KernelRfl
import Derived.WalkKit
import Derived.Outline
import Derived.OwnWalk
import Derived.IntWalk
import Derived.WalkLawsBesides
import Derived.Laws.IdiomStrings
import Derived.Lib.Hide
import Derived.Lib.ParseIntBTie
import Derived.Lib.ParseIntBCases
import Derived.Lib.Split
import Derived.Lib.SplitLaws
import Derived.Lib.ItoaLen
import Derived.Lib.ItoaMem
import Derived.Lib.Join
import Derived.Test.YtjhgembcdndmkaaGreatDoorAmL
/- THE WALK'S PARTS, part A: what the functions of the law compute, over the abstract machine that stands beside this text. No condition. -/
set_option linter.unusedSimpArgs false
set_option linter.unusedVariables false
/- The library's contracts at this program. -/
namespace Go.Proofs
open Go.Shelf
/-- The table's name, as the row lists it. -/
def Tryz.tabName : String := (YtjhgembcdndmkaaGreatDoor.Rows.stampParsesRow.laid.map (·.1))[2]
def Tryz.lays156_ren : Go.Shelf.Ren := ⟨fun | 156 => 106 | 165 => 120 | 166 => 121 | 169 => 122 | 240 => 147 | 241 => 148 | 276 => 167 | 277 => 168 | n => n, fun | 31 => 89 | 9 => 9 | 3 => 3 | 4 => 4 | 0 => 0 | 20 => 20 | 72 => 152 | 76 => 154 | 70 => 150 | 37 => 44 | 75 => 127 | 127 => 179 | 164 => 198 | 5 => 5 | 80 => 156 | n => n, fun | n => n⟩
theorem Tryz.lays156 : Go.Proofs.Lays.n156 Tryz.prog Tryz.lays156_ren := {
  mixed := by kernel_rfl
  f156 := Tryz.func106.trans (congrArg some (by kernel_rfl))
  f165 := Tryz.func120.trans (congrArg some (by kernel_rfl))
  f166 := Tryz.func121.trans (congrArg some (by kernel_rfl))
  f169 := Tryz.func122.trans (congrArg some (by kernel_rfl))
  f240 := Tryz.func147.trans (congrArg some (by kernel_rfl))
  f241 := Tryz.func148.trans (congrArg some (by kernel_rfl))
  f276 := Tryz.func167.trans (congrArg some (by kernel_rfl))
  f277 := Tryz.func168.trans (congrArg some (by kernel_rfl))
  t0 := Tryz.underlying0
  a0 := Tryz.isAgg0
  z0 := Tryz.sizeOf0
  v0 := Tryz.zeroValue0
  t3 := Tryz.underlying3
  a3 := Tryz.isAgg3
  z3 := Tryz.sizeOf3
  v3 := Tryz.zeroValue3
  t4 := Tryz.underlying4
  a4 := Tryz.isAgg4
  z4 := Tryz.sizeOf4
  v4 := Tryz.zeroValue4
  t9 := Tryz.underlying9
  a9 := Tryz.isAgg9
  z9 := Tryz.sizeOf9
  v9 := Tryz.zeroValue9
  t20 := Tryz.underlying20
  a20 := Tryz.isAgg20
  z20 := Tryz.sizeOf20
  v20 := Tryz.zeroValue20
  t31 := Tryz.underlying89
  a31 := Tryz.isAgg89
  z31 := Tryz.sizeOf89
  v31 := Tryz.zeroValue89
  t37 := Tryz.underlying44
  a37 := Tryz.isAgg44
  z37 := Tryz.sizeOf44
  v37 := Tryz.zeroValue44
  t70 := Tryz.underlying150
  a70 := Tryz.isAgg150
  z70 := Tryz.sizeOf150
  v70 := Tryz.zeroValue150
  t72 := Tryz.underlying152
  a72 := Tryz.isAgg152
  z72 := Tryz.sizeOf152
  v72 := Tryz.zeroValue152
  t75 := Tryz.underlying127
  a75 := Tryz.isAgg127
  z75 := Tryz.sizeOf127
  v75 := Tryz.zeroValue127
  t76 := Tryz.underlying154
  a76 := Tryz.isAgg154
  z76 := Tryz.sizeOf154
  v76 := Tryz.zeroValue154
  t127 := Tryz.underlying179
  a127 := Tryz.isAgg179
  z127 := Tryz.sizeOf179
  v127 := Tryz.zeroValue179
  t164 := Tryz.underlying198
  a164 := Tryz.isAgg198
  z164 := Tryz.sizeOf198
  v164 := Tryz.zeroValue198 }
theorem Tryz.Builder_Extra_156 : Builder.Extra Tryz.prog Tryz.lays156_ren := {
  sizeBuilder := by kernel_rfl
  liesBuilder := by kernel_rfl
  t5 := Tryz.underlying5
  a5 := Tryz.isAgg5
  z5 := Tryz.sizeOf5
  v5 := Tryz.zeroValue5
  infoByte := by kernel_rfl
  cellsByte := by kernel_rfl
  sizeByte := by kernel_rfl
  neB5 := by decide }
open Go.RowKit in
theorem Tryz.strings_Join (bk o c : Nat) (xs : List ByteArray) (sep : ByteArray) (w : World) (hcells : ∀ (j : Nat) x, xs[j]? = some x → w.cell? ⟨bk, o + j, none⟩ = some (.string x)) (hbk : bk < w.heap.size) (hN : xs.length ≤ 140737488355328) (hcap : xs.length ≤ c) (hlen : (Lib.join (xs.map (·.data.toList)) sep.data.toList).length ≤ 140737488355328) :
    Calls Tryz.prog 106 #[.slice (some ⟨bk, o, none⟩) xs.length c, .string sep] w fun e w' => e = .returned (.string ⟨(Lib.join (xs.map (·.data.toList)) sep.data.toList).toArray⟩) ∧ Below w.heap.size w w' := Any.strings_Join Tryz.lays156 Tryz.Builder_Extra_156 bk o c xs sep w hcells hbk hN hcap hlen
def Tryz.laysM173_ren : Go.Shelf.Ren := ⟨fun | 173 => 107 | 246 => 123 | 283 => 149 | 284 => 150 | 285 => 151 | 286 => 152 | 129 => 134 | 317 => 169 | 318 => 170 | 319 => 171 | 320 => 172 | 337 => 175 | 338 => 176 | n => n, fun | 2 => 2 | 3 => 3 | 9 => 9 | 4 => 4 | 171 => 181 | 0 => 0 | 53 => 50 | 37 => 44 | 5 => 5 | 173 => 183 | 212 => 202 | 51 => 166 | 20 => 20 | 213 => 203 | 46 => 98 | 232 => 215 | 233 => 216 | n => n, fun | 17 => 3 | 18 => 6 | 19 => 7 | n => n⟩
theorem Tryz.laysM173 : Go.Proofs.LaysM.n173 Tryz.prog Tryz.laysM173_ren := {
  mixed := by kernel_rfl
  f129 := Tryz.func134.trans (congrArg some (by kernel_rfl))
  f173 := Tryz.func107.trans (congrArg some (by kernel_rfl))
  f246 := Tryz.func123.trans (congrArg some (by kernel_rfl))
  f283 := Tryz.func149.trans (congrArg some (by kernel_rfl))
  f284 := Tryz.func150.trans (congrArg some (by kernel_rfl))
  f285 := Tryz.func151.trans (congrArg some (by kernel_rfl))
  f286 := Tryz.func152.trans (congrArg some (by kernel_rfl))
  f317 := Tryz.func169.trans (congrArg some (by kernel_rfl))
  f318 := Tryz.func170.trans (congrArg some (by kernel_rfl))
  f319 := Tryz.func171.trans (congrArg some (by kernel_rfl))
  f320 := Tryz.func172.trans (congrArg some (by kernel_rfl))
  f337 := Tryz.func175.trans (congrArg some (by kernel_rfl))
  f338 := Tryz.func176.trans (congrArg some (by kernel_rfl))
  t0 := Tryz.underlying0
  a0 := Tryz.isAgg0
  z0 := Tryz.sizeOf0
  v0 := Tryz.zeroValue0
  t2 := Tryz.underlying2
  a2 := Tryz.isAgg2
  z2 := Tryz.sizeOf2
  v2 := Tryz.zeroValue2
  t3 := Tryz.underlying3
  a3 := Tryz.isAgg3
  z3 := Tryz.sizeOf3
  v3 := Tryz.zeroValue3
  t4 := Tryz.underlying4
  a4 := Tryz.isAgg4
  z4 := Tryz.sizeOf4
  v4 := Tryz.zeroValue4
  t5 := Tryz.underlying5
  a5 := Tryz.isAgg5
  z5 := Tryz.sizeOf5
  v5 := Tryz.zeroValue5
  t9 := Tryz.underlying9
  a9 := Tryz.isAgg9
  z9 := Tryz.sizeOf9
  v9 := Tryz.zeroValue9
  t20 := Tryz.underlying20
  a20 := Tryz.isAgg20
  z20 := Tryz.sizeOf20
  v20 := Tryz.zeroValue20
  t37 := Tryz.underlying44
  a37 := Tryz.isAgg44
  z37 := Tryz.sizeOf44
  v37 := Tryz.zeroValue44
  t46 := Tryz.underlying98
  a46 := Tryz.isAgg98
  z46 := Tryz.sizeOf98
  v46 := Tryz.zeroValue98
  t51 := Tryz.underlying166
  a51 := Tryz.isAgg166
  z51 := Tryz.sizeOf166
  v51 := Tryz.zeroValue166
  t53 := Tryz.underlying50
  a53 := Tryz.isAgg50
  z53 := Tryz.sizeOf50
  v53 := Tryz.zeroValue50
  t171 := Tryz.underlying181
  a171 := Tryz.isAgg181
  z171 := Tryz.sizeOf181
  v171 := Tryz.zeroValue181
  t173 := Tryz.underlying183
  a173 := Tryz.isAgg183
  z173 := Tryz.sizeOf183
  v173 := Tryz.zeroValue183
  t212 := Tryz.underlying202
  a212 := Tryz.isAgg202
  z212 := Tryz.sizeOf202
  v212 := Tryz.zeroValue202
  t213 := Tryz.underlying203
  a213 := Tryz.isAgg203
  z213 := Tryz.sizeOf203
  t232 := Tryz.underlying215
  a232 := Tryz.isAgg215
  z232 := Tryz.sizeOf215
  v232 := Tryz.zeroValue215
  t233 := Tryz.underlying216
  a233 := Tryz.isAgg216
  z233 := Tryz.sizeOf216
  v233 := Tryz.zeroValue216
  g17 := by kernel_rfl
  g18 := by kernel_rfl
  g19 := by kernel_rfl
  i0 := by kernel_rfl
  i2 := by kernel_rfl
  i3 := by kernel_rfl
  i4 := by kernel_rfl
  i5 := by kernel_rfl
  i9 := by kernel_rfl
  i20 := by kernel_rfl
  i37 := by kernel_rfl
  i46 := by kernel_rfl
  i51 := by kernel_rfl
  i53 := by kernel_rfl
  i171 := by kernel_rfl
  i173 := by kernel_rfl
  i212 := by kernel_rfl
  i232 := by kernel_rfl
  i233 := by kernel_rfl
  m17 := by kernel_rfl
  m18 := by kernel_rfl
  m19 := by kernel_rfl }
open Go.RowKit Go.Sort Go.Lib in
theorem Tryz.strconv_FormatInt_10 (n : Int) (h0 : -9223372036854775808 ≤ n) (h1 : n ≤ 9223372036854775807) (w : World) (htab : Lib.TabIs Tryz.prog w Tryz.tabName .u64 Lib.pow10Tab) :
    Calls Tryz.prog 107 #[.int .i64 n, .int .i64 10] w fun e w' => e = .returned (.string ⟨(Lib.itoa n).toArray⟩) ∧ ∃ k os, w' = grow (w.drewN k) os := Any.strconv_FormatInt_10 Tryz.laysM173 n h0 h1 w htab
def Tryz.laysC174_ren : Go.Shelf.Ren := ⟨fun | 174 => 95 | 247 => 114 | 245 => 115 | 287 => 139 | 279 => 140 | 280 => 141 | 281 => 142 | 282 => 143 | 321 => 161 | 322 => 162 | 316 => 163 | 171 => 165 | 205 => 164 | 243 => 174 | 246 => 123 | 283 => 149 | 284 => 150 | 285 => 151 | 286 => 152 | 129 => 134 | 317 => 169 | 318 => 170 | 319 => 171 | 320 => 172 | 337 => 175 | 338 => 176 | n => n, fun | 9 => 9 | 3 => 3 | 2 => 2 | 75 => 127 | 85 => 128 | 4 => 4 | 167 => 170 | 5 => 5 | 53 => 50 | 175 => 171 | 46 => 98 | 168 => 173 | 37 => 44 | 0 => 0 | 210 => 196 | 21 => 21 | 127 => 179 | 145 => 210 | 143 => 208 | 171 => 181 | 173 => 183 | 212 => 202 | 51 => 166 | 20 => 20 | 213 => 203 | 232 => 215 | 233 => 216 | 80 => 156 | n => n, fun | 15 => 1 | 16 => 2 | 17 => 3 | 18 => 6 | 19 => 7 | n => n⟩
theorem Tryz.laysC174 : Go.Proofs.LaysC.n174 Tryz.prog Tryz.laysC174_ren := {
  mixed := by kernel_rfl
  f129 := Tryz.func134.trans (congrArg some (by kernel_rfl))
  f171 := Tryz.func165.trans (congrArg some (by kernel_rfl))
  f174 := Tryz.func95.trans (congrArg some (by kernel_rfl))
  f205 := Tryz.func164.trans (congrArg some (by kernel_rfl))
  f243 := Tryz.func174.trans (congrArg some (by kernel_rfl))
  f245 := Tryz.func115.trans (congrArg some (by kernel_rfl))
  f246 := Tryz.func123.trans (congrArg some (by kernel_rfl))
  f247 := Tryz.func114.trans (congrArg some (by kernel_rfl))
  f279 := Tryz.func140.trans (congrArg some (by kernel_rfl))
  f280 := Tryz.func141.trans (congrArg some (by kernel_rfl))
  f281 := Tryz.func142.trans (congrArg some (by kernel_rfl))
  f282 := Tryz.func143.trans (congrArg some (by kernel_rfl))
  f283 := Tryz.func149.trans (congrArg some (by kernel_rfl))
  f284 := Tryz.func150.trans (congrArg some (by kernel_rfl))
  f285 := Tryz.func151.trans (congrArg some (by kernel_rfl))
  f286 := Tryz.func152.trans (congrArg some (by kernel_rfl))
  f287 := Tryz.func139.trans (congrArg some (by kernel_rfl))
  f316 := Tryz.func163.trans (congrArg some (by kernel_rfl))
  f317 := Tryz.func169.trans (congrArg some (by kernel_rfl))
  f318 := Tryz.func170.trans (congrArg some (by kernel_rfl))
  f319 := Tryz.func171.trans (congrArg some (by kernel_rfl))
  f320 := Tryz.func172.trans (congrArg some (by kernel_rfl))
  f321 := Tryz.func161.trans (congrArg some (by kernel_rfl))
  f322 := Tryz.func162.trans (congrArg some (by kernel_rfl))
  f337 := Tryz.func175.trans (congrArg some (by kernel_rfl))
  f338 := Tryz.func176.trans (congrArg some (by kernel_rfl))
  t0 := Tryz.underlying0
  a0 := Tryz.isAgg0
  z0 := Tryz.sizeOf0
  v0 := Tryz.zeroValue0
  t2 := Tryz.underlying2
  a2 := Tryz.isAgg2
  z2 := Tryz.sizeOf2
  v2 := Tryz.zeroValue2
  t3 := Tryz.underlying3
  a3 := Tryz.isAgg3
  z3 := Tryz.sizeOf3
  v3 := Tryz.zeroValue3
  t4 := Tryz.underlying4
  a4 := Tryz.isAgg4
  z4 := Tryz.sizeOf4
  v4 := Tryz.zeroValue4
  t5 := Tryz.underlying5
  a5 := Tryz.isAgg5
  z5 := Tryz.sizeOf5
  v5 := Tryz.zeroValue5
  t9 := Tryz.underlying9
  a9 := Tryz.isAgg9
  z9 := Tryz.sizeOf9
  v9 := Tryz.zeroValue9
  t20 := Tryz.underlying20
  a20 := Tryz.isAgg20
  z20 := Tryz.sizeOf20
  v20 := Tryz.zeroValue20
  t21 := Tryz.underlying21
  a21 := Tryz.isAgg21
  z21 := Tryz.sizeOf21
  v21 := Tryz.zeroValue21
  t37 := Tryz.underlying44
  a37 := Tryz.isAgg44
  z37 := Tryz.sizeOf44
  v37 := Tryz.zeroValue44
  t46 := Tryz.underlying98
  a46 := Tryz.isAgg98
  z46 := Tryz.sizeOf98
  v46 := Tryz.zeroValue98
  t51 := Tryz.underlying166
  a51 := Tryz.isAgg166
  z51 := Tryz.sizeOf166
  v51 := Tryz.zeroValue166
  t53 := Tryz.underlying50
  a53 := Tryz.isAgg50
  z53 := Tryz.sizeOf50
  v53 := Tryz.zeroValue50
  t75 := Tryz.underlying127
  a75 := Tryz.isAgg127
  z75 := Tryz.sizeOf127
  v75 := Tryz.zeroValue127
  t85 := Tryz.underlying128
  a85 := Tryz.isAgg128
  z85 := Tryz.sizeOf128
  v85 := Tryz.zeroValue128
  t127 := Tryz.underlying179
  a127 := Tryz.isAgg179
  z127 := Tryz.sizeOf179
  v127 := Tryz.zeroValue179
  t143 := Tryz.underlying208
  a143 := Tryz.isAgg208
  z143 := Tryz.sizeOf208
  v143 := Tryz.zeroValue208
  t145 := Tryz.underlying210
  a145 := Tryz.isAgg210
  z145 := Tryz.sizeOf210
  v145 := Tryz.zeroValue210
  t167 := Tryz.underlying170
  a167 := Tryz.isAgg170
  z167 := Tryz.sizeOf170
  v167 := Tryz.zeroValue170
  t168 := Tryz.underlying173
  a168 := Tryz.isAgg173
  z168 := Tryz.sizeOf173
  v168 := Tryz.zeroValue173
  t171 := Tryz.underlying181
  a171 := Tryz.isAgg181
  z171 := Tryz.sizeOf181
  v171 := Tryz.zeroValue181
  t173 := Tryz.underlying183
  a173 := Tryz.isAgg183
  z173 := Tryz.sizeOf183
  v173 := Tryz.zeroValue183
  t175 := Tryz.underlying171
  a175 := Tryz.isAgg171
  z175 := Tryz.sizeOf171
  v175 := Tryz.zeroValue171
  t210 := Tryz.underlying196
  a210 := Tryz.isAgg196
  z210 := Tryz.sizeOf196
  v210 := Tryz.zeroValue196
  t212 := Tryz.underlying202
  a212 := Tryz.isAgg202
  z212 := Tryz.sizeOf202
  v212 := Tryz.zeroValue202
  t213 := Tryz.underlying203
  a213 := Tryz.isAgg203
  z213 := Tryz.sizeOf203
  t232 := Tryz.underlying215
  a232 := Tryz.isAgg215
  z232 := Tryz.sizeOf215
  v232 := Tryz.zeroValue215
  t233 := Tryz.underlying216
  a233 := Tryz.isAgg216
  z233 := Tryz.sizeOf216
  v233 := Tryz.zeroValue216
  g15 := by kernel_rfl
  g16 := by kernel_rfl
  g17 := by kernel_rfl
  g18 := by kernel_rfl
  g19 := by kernel_rfl
  t80 := Tryz.underlying156
  a80 := Tryz.isAgg156
  z80 := Tryz.sizeOf156
  v80 := Tryz.zeroValue156
  i0 := by kernel_rfl
  i2 := by kernel_rfl
  i3 := by kernel_rfl
  i4 := by kernel_rfl
  i5 := by kernel_rfl
  i9 := by kernel_rfl
  i20 := by kernel_rfl
  i21 := by kernel_rfl
  i37 := by kernel_rfl
  i46 := by kernel_rfl
  i51 := by kernel_rfl
  i53 := by kernel_rfl
  i75 := by kernel_rfl
  i80 := by kernel_rfl
  i85 := by kernel_rfl
  i127 := by kernel_rfl
  i143 := by kernel_rfl
  i145 := by kernel_rfl
  i167 := by kernel_rfl
  i168 := by kernel_rfl
  i171 := by kernel_rfl
  i173 := by kernel_rfl
  i175 := by kernel_rfl
  i210 := by kernel_rfl
  i212 := by kernel_rfl
  i232 := by kernel_rfl
  i233 := by kernel_rfl
  m15 := by kernel_rfl
  m16 := by kernel_rfl
  m17 := by kernel_rfl
  m18 := by kernel_rfl
  m19 := by kernel_rfl
  c0 := by kernel_rfl
  c2 := by kernel_rfl
  c3 := by kernel_rfl
  c4 := by kernel_rfl
  c5 := by kernel_rfl
  c9 := by kernel_rfl
  c20 := by kernel_rfl
  c21 := by kernel_rfl
  c37 := by kernel_rfl
  c46 := by kernel_rfl
  c51 := by kernel_rfl
  c53 := by kernel_rfl
  c75 := by kernel_rfl
  c80 := by kernel_rfl
  c85 := by kernel_rfl
  c127 := by kernel_rfl
  c143 := by kernel_rfl
  c145 := by kernel_rfl
  c167 := by kernel_rfl
  c168 := by kernel_rfl
  c171 := by kernel_rfl
  c173 := by kernel_rfl
  c175 := by kernel_rfl
  c210 := by kernel_rfl
  c212 := by kernel_rfl
  c213 := by kernel_rfl
  c232 := by kernel_rfl
  c233 := by kernel_rfl }
open Go.RowKit in
theorem Tryz.strconv_ParseInt_10_at64_ok (s : ByteArray) (hmax : s.size ≤ 9223372036854775806) (v : Int) (h : Lib.parseIntB 64 s.data.toList = .ok v) (w : World) :
    Calls Tryz.prog 95 #[.string s, .int .i64 10, .int .i64 64] w fun e w' => e = .returned (.tuple #[.int .i64 v, .nilIface]) ∧ (w' = w ∨ ∃ t, w' = Lib.bytesWorld w 5 t) := Any.strconv_ParseInt_10_at64_ok Tryz.laysC174 s hmax v h w
open Go.RowKit in
theorem Tryz.strconv_ParseInt_no (s : ByteArray) (hlim : s.size ≤ 281474976710656) (h : Lib.parseIntB 64 s.data.toList = Lib.NumEnd.syntax) (ev : Value) (w : World) (hv : w.cell? ⟨1, 0, none⟩ = some ev) (hev : ev = .nilIface ∨ ∃ te pe, ev = .iface te pe) :
    Calls Tryz.prog 95 #[.string s, .int .i64 10, .int .i64 64] w fun e w' => ∃ N, e = .returned (.tuple #[.int .i64 (0), .iface 173 (.pointer (some ⟨N, 0, none⟩))]) ∧ w.heap.size ≤ N ∧ w'.heap[N]? = some (.cells #[.string ⟨#[80, 97, 114, 115, 101, 73, 110, 116]⟩, .string s, ev] 196 (0, 0)) ∧ Below w.heap.size w w' := Any.strconv_ParseInt_10_at64_syntax Tryz.laysC174 s hlim h ev w hv hev
open Go.RowKit in
theorem Tryz.strconv_ParseInt_10_at64_range (s : ByteArray) (hlim : s.size ≤ 281474976710656) (h : Lib.parseIntB 64 s.data.toList = .range) (ev : Value) (w : World) (hv : w.cell? ⟨2, 0, none⟩ = some ev) (hev : ev = .nilIface ∨ ∃ te pe, ev = .iface te pe) :
    Calls Tryz.prog 95 #[.string s, .int .i64 10, .int .i64 64] w fun e w' => ∃ N, e = .returned (.tuple #[.int .i64 (Lib.intSat 64 s.data.toList), .iface 173 (.pointer (some ⟨N, 0, none⟩))]) ∧ w.heap.size ≤ N ∧ w'.heap[N]? = some (.cells #[.string ⟨#[80, 97, 114, 115, 101, 73, 110, 116]⟩, .string s, ev] 196 (0, 0)) ∧ Below w.heap.size w w' := Any.strconv_ParseInt_10_at64_range Tryz.laysC174 s hlim h ev w hv hev
def Tryz.lays145_ren : Go.Shelf.Ren := ⟨fun | 145 => 45 | 220 => 94 | 219 => 113 | 217 => 135 | 225 => 136 | 224 => 137 | 267 => 138 | 266 => 159 | 314 => 160 | n => n, fun | 9 => 9 | 4 => 4 | 59 => 84 | 3 => 3 | 5 => 5 | 46 => 98 | 146 => 191 | 51 => 166 | n => n, fun | 1 => 0 | n => n⟩
theorem Tryz.lays145 : Go.Proofs.Lays.n145 Tryz.prog Tryz.lays145_ren := {
  mixed := by kernel_rfl
  f145 := Tryz.func45.trans (congrArg some (by kernel_rfl))
  f217 := Tryz.func135.trans (congrArg some (by kernel_rfl))
  f219 := Tryz.func113.trans (congrArg some (by kernel_rfl))
  f220 := Tryz.func94.trans (congrArg some (by kernel_rfl))
  f224 := Tryz.func137.trans (congrArg some (by kernel_rfl))
  f225 := Tryz.func136.trans (congrArg some (by kernel_rfl))
  f266 := Tryz.func159.trans (congrArg some (by kernel_rfl))
  f267 := Tryz.func138.trans (congrArg some (by kernel_rfl))
  f314 := Tryz.func160.trans (congrArg some (by kernel_rfl))
  t3 := Tryz.underlying3
  a3 := Tryz.isAgg3
  z3 := Tryz.sizeOf3
  v3 := Tryz.zeroValue3
  t4 := Tryz.underlying4
  a4 := Tryz.isAgg4
  z4 := Tryz.sizeOf4
  v4 := Tryz.zeroValue4
  t5 := Tryz.underlying5
  a5 := Tryz.isAgg5
  z5 := Tryz.sizeOf5
  v5 := Tryz.zeroValue5
  t9 := Tryz.underlying9
  a9 := Tryz.isAgg9
  z9 := Tryz.sizeOf9
  v9 := Tryz.zeroValue9
  t46 := Tryz.underlying98
  a46 := Tryz.isAgg98
  z46 := Tryz.sizeOf98
  v46 := Tryz.zeroValue98
  t51 := Tryz.underlying166
  a51 := Tryz.isAgg166
  z51 := Tryz.sizeOf166
  v51 := Tryz.zeroValue166
  t59 := Tryz.underlying84
  a59 := Tryz.isAgg84
  z59 := Tryz.sizeOf84
  v59 := Tryz.zeroValue84
  t146 := Tryz.underlying191
  a146 := Tryz.isAgg191
  z146 := Tryz.sizeOf191
  v146 := Tryz.zeroValue191
  g1 := by kernel_rfl }
open Go.RowKit Go.Lib in
theorem Tryz.strings_Cut (s sep : ByteArray) (m : Int) (w : World) (hs : s.size < 4294967281) (hm : w.cell? ⟨0, 0, none⟩ = some (.int .i64 m)) :
    Calls Tryz.prog 45 #[.string s, .string sep] w fun e w' => e = .returned (.tuple #[.string ⟨(Lib.cut s.data.toList sep.data.toList).1.toArray⟩, .string ⟨(Lib.cut s.data.toList sep.data.toList).2.1.toArray⟩, .bool (Lib.cut s.data.toList sep.data.toList).2.2]) ∧ ∃ n, w' = w.drewN n := Any.strings_Cut Tryz.lays145 s sep m w hs hm
def Tryz.lays146_ren : Go.Shelf.Ren := ⟨fun | 146 => 53 | 221 => 98 | 268 => 116 | 138 => 117 | 143 => 118 | 195 => 144 | 197 => 145 | 218 => 146 | 219 => 113 | 260 => 166 | 217 => 135 | 225 => 136 | 224 => 137 | 267 => 138 | 266 => 159 | 314 => 160 | n => n, fun | 9 => 9 | 31 => 89 | 3 => 3 | 4 => 4 | 0 => 0 | 105 => 177 | 21 => 21 | 5 => 5 | 46 => 98 | 119 => 211 | 139 => 214 | 138 => 213 | 146 => 191 | 51 => 166 | n => n, fun | 1 => 0 | 3 => 4 | 4 => 5 | n => n⟩
theorem Tryz.lays146 : Go.Proofs.Lays.n146 Tryz.prog Tryz.lays146_ren := {
  mixed := by kernel_rfl
  f138 := Tryz.func117.trans (congrArg some (by kernel_rfl))
  f143 := Tryz.func118.trans (congrArg some (by kernel_rfl))
  f146 := Tryz.func53.trans (congrArg some (by kernel_rfl))
  f195 := Tryz.func144.trans (congrArg some (by kernel_rfl))
  f197 := Tryz.func145.trans (congrArg some (by kernel_rfl))
  f217 := Tryz.func135.trans (congrArg some (by kernel_rfl))
  f218 := Tryz.func146.trans (congrArg some (by kernel_rfl))
  f219 := Tryz.func113.trans (congrArg some (by kernel_rfl))
  f221 := Tryz.func98.trans (congrArg some (by kernel_rfl))
  f224 := Tryz.func137.trans (congrArg some (by kernel_rfl))
  f225 := Tryz.func136.trans (congrArg some (by kernel_rfl))
  f260 := Tryz.func166.trans (congrArg some (by kernel_rfl))
  f266 := Tryz.func159.trans (congrArg some (by kernel_rfl))
  f267 := Tryz.func138.trans (congrArg some (by kernel_rfl))
  f268 := Tryz.func116.trans (congrArg some (by kernel_rfl))
  f314 := Tryz.func160.trans (congrArg some (by kernel_rfl))
  t0 := Tryz.underlying0
  a0 := Tryz.isAgg0
  z0 := Tryz.sizeOf0
  v0 := Tryz.zeroValue0
  t3 := Tryz.underlying3
  a3 := Tryz.isAgg3
  z3 := Tryz.sizeOf3
  v3 := Tryz.zeroValue3
  t4 := Tryz.underlying4
  a4 := Tryz.isAgg4
  z4 := Tryz.sizeOf4
  v4 := Tryz.zeroValue4
  t5 := Tryz.underlying5
  a5 := Tryz.isAgg5
  z5 := Tryz.sizeOf5
  v5 := Tryz.zeroValue5
  t9 := Tryz.underlying9
  a9 := Tryz.isAgg9
  z9 := Tryz.sizeOf9
  v9 := Tryz.zeroValue9
  t21 := Tryz.underlying21
  a21 := Tryz.isAgg21
  z21 := Tryz.sizeOf21
  v21 := Tryz.zeroValue21
  t31 := Tryz.underlying89
  a31 := Tryz.isAgg89
  z31 := Tryz.sizeOf89
  v31 := Tryz.zeroValue89
  t46 := Tryz.underlying98
  a46 := Tryz.isAgg98
  z46 := Tryz.sizeOf98
  v46 := Tryz.zeroValue98
  t51 := Tryz.underlying166
  a51 := Tryz.isAgg166
  z51 := Tryz.sizeOf166
  v51 := Tryz.zeroValue166
  t105 := Tryz.underlying177
  a105 := Tryz.isAgg177
  z105 := Tryz.sizeOf177
  v105 := Tryz.zeroValue177
  t119 := Tryz.underlying211
  a119 := Tryz.isAgg211
  z119 := Tryz.sizeOf211
  t138 := Tryz.underlying213
  a138 := Tryz.isAgg213
  z138 := Tryz.sizeOf213
  v138 := Tryz.zeroValue213
  t139 := Tryz.underlying214
  a139 := Tryz.isAgg214
  z139 := Tryz.sizeOf214
  v139 := Tryz.zeroValue214
  t146 := Tryz.underlying191
  a146 := Tryz.isAgg191
  z146 := Tryz.sizeOf191
  v146 := Tryz.zeroValue191
  g1 := by kernel_rfl
  g3 := by kernel_rfl
  g4 := by kernel_rfl }
open Go.RowKit Go.Lib in
theorem Tryz.strings_Split (s sep : ByteArray) (m : Int) (w : World) (hs : s.size < 4294967281) (hm : w.cell? ⟨0, 0, none⟩ = some (.int .i64 m)) (h1 : 1 ≤ sep.size) :
    Calls Tryz.prog 53 #[.string s, .string sep] w fun e w' =>
      e = .returned (.slice (some ⟨w.heap.size, 0, none⟩) (Lib.countB s sep + 1) (Lib.countB s sep + 1)) ∧ w' = w.alloc (.cells ((Lib.splitB sep 0 (Lib.countB s sep) s).map Value.string).toArray 9) := Any.strings_Split Tryz.lays146 (by kernel_rfl) s sep m w hs hm h1
end Go.Proofs

/- The code of the functions. -/
namespace Go.Proofs.YtjhgembcdndmkaaGreatDoor.St
open Go Go.Proofs.YtjhgembcdndmkaaGreatDoor.Am Go.Proofs
noncomputable def label_0 : C := (.seq (.region [k 9 (.bin .lss .other false (tm 8) (tm 7)) 0]) (.seq (.cond (tm 9) .skip (.exit 0)) (.seq (.block 1 (.seq (.region [k 10 (.idxAddrSl 1 (tm 6) (tm 8)) 0, k 11 (.load1 (tm 10)) 0, k 4 (.mov (tm 11)) 0]) (.seq (.region [k 12 (.mov (tm 4)) 0, k 13 (.bin .lss .other true (tm 12) (vl (.int .u8 (97)))) 0, k 14 (.mov (tm 13)) 0, kg 15 14 false (.mov (tm 4)) 0, kg 16 14 false (.bin .gtr .other true (tm 15) (vl (.int .u8 (122)))) 0, k 17 (.pick (tm 14) (vl (.bool true)) (tm 16)) 0]) (.cond (tm 17) (.seq (.region [k 2 (.mov (vl (.bool false))) 0]) .ret) .skip)))) (.region [k 18 (.bin .add .other true (tm 8) (vl (int64 (1)))) 0, k 8 (.mov (tm 18)) 0]))))
noncomputable def label_fu : Fu := ⟨[.tmp (Pos.ofNat 2)], 27, (.seq (.region [k 2 (.mov (vl (.bool false))) 0]) (.seq (.seq (.region [k 5 (.mov (tm 0)) 0, k 6 (.strBytes (tm 5)) 0, k 7 (.lenL (tm 6)) 0, k 8 (.mov (vl (int64 (0)))) 0]) (.block 0 (.loop label_0))) (.seq (.region [k 19 (.mov (tm 0)) 0, k 20 (.lenS (tm 19)) 0, k 21 (.bin .geq .other true (tm 20) (vl (int64 (1)))) 0, k 22 (.mov (tm 21)) 0, kg 23 22 true (.mov (tm 0)) 0, kg 24 22 true (.lenS (tm 23)) 0, kg 25 22 true (.bin .leq .other true (tm 24) (vl (int64 (12)))) 0, k 26 (.pick (tm 22) (tm 25) (vl (.bool false))) 0, k 2 (.mov (tm 26)) 0]) .ret)))⟩
theorem label_code : compFn Tryz.prog 92 = some label_fu := by kernel_rfl
noncomputable def branch_fu : Fu := ⟨[.tmp (Pos.ofNat 2)], 16, (.seq (.region [k 1 (.box (tm 0)) 0, k 2 (.mov (vl (.bool false))) 0]) (.seq (.region [k 3 (.fieldAddr 0 (tm 1)) 0, k 4 (.load1 (tm 3)) 0, k 5 (.bin .geq .other true (tm 4) (vl (int64 (0)))) 0, k 6 (.mov (tm 5)) 0, kg 7 6 true (.fieldAddr 0 (tm 1)) 0, kg 8 6 true (.load1 (tm 7)) 0, kg 9 6 true (.bin .lss .other true (tm 8) (vl (int64 (8)))) 0, k 10 (.pick (tm 6) (tm 9) (vl (.bool false))) 0, k 11 (.mov (tm 10)) 0, kg 12 11 true (.fieldAddr 1 (tm 1)) 0, kg 13 11 true (.load1 (tm 12)) 0, kg 14 11 true (.call (.value (vl (.fn (.func 92) [] []))) [(tm 13)]) 0, k 15 (.pick (tm 11) (tm 14) (vl (.bool false))) 0, k 2 (.mov (tm 15)) 0]) .ret))⟩
theorem branch_code : compFn Tryz.prog 41 = some branch_fu := by kernel_rfl
noncomputable def name_fu : Fu := ⟨[.tmp (Pos.ofNat 2)], 16, (.seq (.region [k 1 (.box (tm 0)) 0, k 2 (.mov (vl (.bool false))) 0]) (.seq (.region [k 3 (.fieldAddr 0 (tm 1)) 0, k 4 (.loadN 2 (tm 3)) 0, k 5 (.call (.value (vl (.fn (.func 41) [] []))) [(tm 4)]) 0, k 6 (.mov (tm 5)) 0, kg 7 6 true (.fieldAddr 2 (tm 1)) 0, kg 8 6 true (.load1 (tm 7)) 0, kg 9 6 true (.bin .geq .other true (tm 8) (vl (int64 (1)))) 0, k 10 (.pick (tm 6) (tm 9) (vl (.bool false))) 0, k 11 (.mov (tm 10)) 0, kg 12 11 true (.fieldAddr 2 (tm 1)) 0, kg 13 11 true (.load1 (tm 12)) 0, kg 14 11 true (.bin .leq .other true (tm 13) (vl (int64 (4611686018427387904)))) 0, k 15 (.pick (tm 11) (tm 14) (vl (.bool false))) 0, k 2 (.mov (tm 15)) 0]) .ret))⟩
theorem name_code : compFn Tryz.prog 42 = some name_fu := by kernel_rfl
noncomputable def stamp_fu : Fu := ⟨[.tmp (Pos.ofNat 2)], 26, (.seq (.region [k 1 (.box (tm 0)) 0, k 2 (.mov (vl (.bool false))) 0]) (.seq (.region [k 3 (.fieldAddr 0 (tm 1)) 0, k 4 (.load1 (tm 3)) 0, k 5 (.bin .geq .other true (tm 4) (vl (int64 (1)))) 0, k 6 (.mov (tm 5)) 0, kg 7 6 true (.fieldAddr 0 (tm 1)) 0, kg 8 6 true (.load1 (tm 7)) 0, kg 9 6 true (.bin .leq .other true (tm 8) (vl (int64 (4611686018427387904)))) 0, k 10 (.pick (tm 6) (tm 9) (vl (.bool false))) 0, k 11 (.mov (tm 10)) 0, kg 12 11 true (.fieldAddr 1 (tm 1)) 0, kg 13 11 true (.loadN 3 (tm 12)) 0, kg 14 11 true (.call (.value (vl (.fn (.func 42) [] []))) [(tm 13)]) 0, k 15 (.pick (tm 11) (tm 14) (vl (.bool false))) 0, k 16 (.mov (tm 15)) 0, kg 17 16 true (.fieldAddr 4 (tm 1)) 0, kg 18 16 true (.load1 (tm 17)) 0, kg 19 16 true (.bin .geq .other true (tm 18) (vl (int64 (0)))) 0, k 20 (.pick (tm 16) (tm 19) (vl (.bool false))) 0, k 21 (.mov (tm 20)) 0, kg 22 21 true (.fieldAddr 4 (tm 1)) 0, kg 23 21 true (.load1 (tm 22)) 0, kg 24 21 true (.bin .lss .other true (tm 23) (vl (int64 (64)))) 0, k 25 (.pick (tm 21) (tm 24) (vl (.bool false))) 0, k 2 (.mov (tm 25)) 0]) .ret))⟩
theorem stamp_code : compFn Tryz.prog 43 = some stamp_fu := by kernel_rfl
noncomputable def digits_fu : Fu := ⟨[.tmp (Pos.ofNat 2)], 5, (.seq (.region [k 2 (.mov (vl (.str 0 0))) 0]) (.seq (.region [k 3 (.mov (tm 0)) 0, k 4 (.call (.value (vl (.fn (.func 107) [] []))) [(tm 3), (vl (int64 (10)))]) 0, k 2 (.mov (tm 4)) 0]) .ret))⟩
theorem digits_code : compFn Tryz.prog 85 = some digits_fu := by kernel_rfl
noncomputable def text_fu : Fu := ⟨[.tmp (Pos.ofNat 2)], 5, (.seq (.region [k 2 (.mov (vl (.str 0 0))) 0]) (.seq (.region [k 3 (.mov (tm 0)) 0, k 4 (.call (.value (vl (.fn (.func 106) [] []))) [(tm 3), (vl (.str 1 46))]) 0, k 2 (.mov (tm 4)) 0]) .ret))⟩
theorem text_code : compFn Tryz.prog 84 = some text_fu := by kernel_rfl
noncomputable def textb_fu : Fu := ⟨[.tmp (Pos.ofNat 2), .tmp (Pos.ofNat 3)], 14, (.seq (.region [k 1 (.box (tm 0)) 0, k 2 (.mov (vl (.str 0 0))) 0, k 3 (.mov (vl (int64 (0)))) 0]) (.seq (.seq (.region [k 4 (.loadN 2 (tm 1)) 0, k 5 (.call (.value (vl (.fn (.func 41) [] []))) [(tm 4)]) 0, k 6 (.un .not (tm 5)) 0]) (.cond (tm 6) (.seq (.region [k 2 (.mov (vl (.str 0 0))) 0, k 3 (.mov (vl (int64 (2)))) 0]) .ret) .skip)) (.seq (.drawn [k 7 (.fieldAddr 0 (tm 1)) 0, k 8 (.load1 (tm 7)) 1, k 9 (.call (.value (vl (.fn (.func 85) [] []))) [(tm 8)]) 3, k 10 (.fieldAddr 1 (tm 1)) 0, k 11 (.load1 (tm 10)) 8, k 12 (.buildSl 2 1 [(.str 0 0)] [(0, 1, (tm 9)), (1, 1, (tm 11))]) 31, k 13 (.call (.value (vl (.fn (.func 84) [] []))) [(tm 12)]) 63, k 2 (.mov (tm 13)) 127, k 3 (.mov (vl (int64 (0)))) 255]) .ret)))⟩
theorem textb_code : compFn Tryz.prog 48 = some textb_fu := by kernel_rfl
noncomputable def textn_fu : Fu := ⟨[.tmp (Pos.ofNat 2), .tmp (Pos.ofNat 3)], 21, (.seq (.region [k 1 (.box (tm 0)) 0, k 2 (.mov (vl (.str 0 0))) 0, k 3 (.mov (vl (int64 (0)))) 0]) (.seq (.seq (.region [k 6 (.loadN 3 (tm 1)) 0, k 7 (.call (.value (vl (.fn (.func 42) [] []))) [(tm 6)]) 0, k 8 (.un .not (tm 7)) 0]) (.cond (tm 8) (.seq (.region [k 2 (.mov (vl (.str 0 0))) 0, k 3 (.mov (vl (int64 (2)))) 0]) .ret) .skip)) (.seq (.region [k 10 (.fieldAddr 0 (tm 1)) 0, k 11 (.loadN 2 (tm 10)) 0, k 12 (.call (.value (vl (.fn (.func 48) [] []))) [(tm 11)]) 0, k 9 (.mov (tm 12)) 0, k 13 (.extract (tm 9) 0) 0, k 14 (.extract (tm 9) 1) 0, k 4 (.mov (tm 13)) 0, k 5 (.mov (tm 14)) 0]) (.seq (.region [k 15 (.mov (tm 4)) 0, k 16 (.fieldAddr 2 (tm 1)) 0, k 17 (.load1 (tm 16)) 0, k 18 (.call (.value (vl (.fn (.func 85) [] []))) [(tm 17)]) 0, k 19 (.buildSl 2 1 [(.str 0 0)] [(0, 1, (tm 15)), (1, 1, (tm 18))]) 0, k 20 (.call (.value (vl (.fn (.func 84) [] []))) [(tm 19)]) 0, k 2 (.mov (tm 20)) 0, k 3 (.mov (vl (int64 (0)))) 0]) .ret))))⟩
theorem textn_code : compFn Tryz.prog 55 = some textn_fu := by kernel_rfl
noncomputable def texts_fu : Fu := ⟨[.tmp (Pos.ofNat 2), .tmp (Pos.ofNat 3)], 24, (.seq (.region [k 1 (.box (tm 0)) 0, k 2 (.mov (vl (.str 0 0))) 0, k 3 (.mov (vl (int64 (0)))) 0]) (.seq (.seq (.region [k 6 (.loadN 5 (tm 1)) 0, k 7 (.call (.value (vl (.fn (.func 43) [] []))) [(tm 6)]) 0, k 8 (.un .not (tm 7)) 0]) (.cond (tm 8) (.seq (.region [k 2 (.mov (vl (.str 0 0))) 0, k 3 (.mov (vl (int64 (2)))) 0]) .ret) .skip)) (.seq (.region [k 10 (.fieldAddr 1 (tm 1)) 0, k 11 (.loadN 3 (tm 10)) 0, k 12 (.call (.value (vl (.fn (.func 55) [] []))) [(tm 11)]) 0, k 9 (.mov (tm 12)) 0, k 13 (.extract (tm 9) 0) 0, k 14 (.extract (tm 9) 1) 0, k 4 (.mov (tm 13)) 0, k 5 (.mov (tm 14)) 0]) (.seq (.drawn [k 15 (.fieldAddr 0 (tm 1)) 0, k 16 (.load1 (tm 15)) 1, k 17 (.call (.value (vl (.fn (.func 85) [] []))) [(tm 16)]) 3, k 18 (.mov (tm 4)) 0, k 19 (.fieldAddr 4 (tm 1)) 0, k 20 (.load1 (tm 19)) 16, k 21 (.call (.value (vl (.fn (.func 85) [] []))) [(tm 20)]) 55, k 22 (.buildSl 3 1 [(.str 0 0)] [(0, 1, (tm 17)), (1, 1, (tm 18)), (2, 1, (tm 21))]) 127, k 23 (.call (.value (vl (.fn (.func 84) [] []))) [(tm 22)]) 255, k 2 (.mov (tm 23)) 511, k 3 (.mov (vl (int64 (0)))) 1023]) .ret))))⟩
theorem texts_code : compFn Tryz.prog 32 = some texts_fu := by kernel_rfl
noncomputable def eight_0 : C := (.seq (.region [k 9 (.bin .lss .other false (tm 8) (tm 7)) 0]) (.seq (.cond (tm 9) .skip (.exit 0)) (.seq (.block 1 (.seq (.region [k 10 (.mov (tm 8)) 0, k 4 (.mov (tm 10)) 0]) (.region [k 11 (.mov (tm 3)) 0, k 12 (.mov (tm 4)) 0, k 13 (.mov (tm 0)) 0, k 14 (.mov (tm 4)) 0, k 15 (.bin .mul .other true (vl (int64 (8))) (tm 14)) 0, k 16 (.bin .sub .other true (vl (int64 (56))) (tm 15)) 0, k 17 (.bin .shr .other false (tm 13) (tm 16)) 0, k 18 (.convInt .u8 (tm 17)) 0, k 19 (.idxAddrSl 1 (tm 11) (tm 12)) 0, kn (.store 1 (tm 19) (tm 18)) 0]))) (.region [k 20 (.bin .add .other true (tm 8) (vl (int64 (1)))) 0, k 8 (.mov (tm 20)) 0]))))
noncomputable def eight_fu : Fu := ⟨[.tmp (Pos.ofNat 2)], 22, (.seq (.region [k 2 (.mov (vl .nilSl)) 0]) (.seq (.region [k 5 (.mkSl 1 1 [(.int .u8 (0))] (vl (int64 (8))) (vl (int64 (8)))) 0, k 3 (.mov (tm 5)) 0]) (.seq (.seq (.region [k 6 (.mov (tm 3)) 0, k 7 (.lenL (tm 6)) 0, k 8 (.mov (vl (int64 (0)))) 0]) (.block 0 (.loop eight_0))) (.seq (.region [k 21 (.mov (tm 3)) 0, k 2 (.mov (tm 21)) 0]) .ret))))⟩
theorem eight_code : compFn Tryz.prog 81 = some eight_fu := by kernel_rfl
noncomputable def join_0 : C := (.seq (.region [k 10 (.bin .lss .other false (tm 9) (tm 8)) 0]) (.seq (.cond (tm 10) .skip (.exit 0)) (.seq (.block 1 (.seq (.region [k 11 (.idxAddrSl 1 (tm 7) (tm 9)) 0, k 12 (.load1 (tm 11)) 0, k 5 (.mov (tm 12)) 0]) (.region [k 13 (.mov (tm 3)) 0, k 14 (.mov (tm 5)) 0, k 15 (.append 1 0 (tm 13) (tm 14)) 0, k 3 (.mov (tm 15)) 0]))) (.region [k 16 (.bin .add .other true (tm 9) (vl (int64 (1)))) 0, k 9 (.mov (tm 16)) 0]))))
noncomputable def join_fu : Fu := ⟨[.tmp (Pos.ofNat 2)], 18, (.seq (.region [k 2 (.mov (vl .nilSl)) 0]) (.seq (.region [k 6 (.buildSl 0 1 [(.int .u8 (0))] []) 0, k 3 (.mov (tm 6)) 0]) (.seq (.seq (.region [k 7 (.mov (tm 0)) 0, k 8 (.lenL (tm 7)) 0, k 9 (.mov (vl (int64 (0)))) 0]) (.block 0 (.loop join_0))) (.seq (.region [k 17 (.mov (tm 3)) 0, k 2 (.mov (tm 17)) 0]) .ret))))⟩
theorem join_code : compFn Tryz.prog 80 = some join_fu := by kernel_rfl
noncomputable def key_fu : Fu := ⟨[.tmp (Pos.ofNat 2), .tmp (Pos.ofNat 3)], 33, (.seq (.region [k 1 (.box (tm 0)) 0, k 2 (.mov (vl (.str 0 0))) 0, k 3 (.mov (vl (int64 (0)))) 0]) (.seq (.seq (.region [k 5 (.loadN 5 (tm 1)) 0, k 6 (.call (.value (vl (.fn (.func 43) [] []))) [(tm 5)]) 0, k 7 (.un .not (tm 6)) 0]) (.cond (tm 7) (.seq (.region [k 2 (.mov (vl (.str 0 0))) 0, k 3 (.mov (vl (int64 (2)))) 0]) .ret) .skip)) (.seq (.region [k 8 (.fieldAddr 1 (tm 1)) 0, k 9 (.fieldAddr 0 (tm 8)) 0, k 10 (.loadN 2 (tm 9)) 0, k 4 (.new [(int64 (0)), (.str 0 0)]) 0, kn (.store 2 (tm 4) (tm 10)) 0]) (.seq (.drawn [k 11 (.fieldAddr 0 (tm 1)) 0, k 12 (.load1 (tm 11)) 1, k 13 (.call (.value (vl (.fn (.func 81) [] []))) [(tm 12)]) 3, k 14 (.fieldAddr 0 (tm 4)) 0, k 15 (.load1 (tm 14)) 8, k 16 (.convInt .u8 (tm 15)) 24, k 17 (.buildSl 1 1 [(.int .u8 (0))] [(0, 1, (tm 16))]) 56, k 18 (.fieldAddr 1 (tm 4)) 0, k 19 (.load1 (tm 18)) 128, k 20 (.strBytes (tm 19)) 384, k 21 (.buildSl 1 1 [(.int .u8 (0))] [(0, 1, (vl (.int .u8 (0))))]) 0, k 22 (.fieldAddr 1 (tm 1)) 0, k 23 (.fieldAddr 2 (tm 22)) 2048, k 24 (.load1 (tm 23)) 6144, k 25 (.call (.value (vl (.fn (.func 81) [] []))) [(tm 24)]) 14343, k 26 (.fieldAddr 4 (tm 1)) 0, k 27 (.load1 (tm 26)) 32768, k 28 (.convInt .u8 (tm 27)) 98304, k 29 (.buildSl 1 1 [(.int .u8 (0))] [(0, 1, (tm 28))]) 229376, k 30 (.buildSl 6 1 [.nilSl] [(0, 1, (tm 13)), (1, 1, (tm 17)), (2, 1, (tm 20)), (3, 1, (tm 21)), (4, 1, (tm 25)), (5, 1, (tm 29))]) 524287, k 31 (.call (.value (vl (.fn (.func 80) [] []))) [(tm 30)]) 1048575, k 32 (.bytesStr (tm 31)) 2097151, k 2 (.mov (tm 32)) 4194303, k 3 (.mov (vl (int64 (0)))) 8388607]) .ret))))⟩
theorem key_code : compFn Tryz.prog 30 = some key_fu := by kernel_rfl
noncomputable def sameb_fu : Fu := ⟨[.cellN (Pos.ofNat 6) 2, .tmp (Pos.ofNat 7)], 26, (.seq (.region [k 3 (.box (tm 0)) 0, k 6 (.new [(int64 (0)), (.str 0 0)]) 0, k 7 (.mov (vl (int64 (0)))) 0]) (.seq (.region [k 8 (.new [(int64 (0)), (.str 0 0)]) 0]) (.seq (.seq (.region [k 12 (.mov (tm 2)) 0, k 13 (.loadN 2 (tm 3)) 0, k 14 (.call (.value (tm 12)) [(tm 13)]) 0, k 11 (.mov (tm 14)) 0, k 15 (.extract (tm 11) 0) 0, k 16 (.extract (tm 11) 1) 0, k 9 (.mov (tm 15)) 0, k 10 (.mov (tm 16)) 0]) (.seq (.region [k 17 (.mov (tm 10)) 0, k 18 (.bin .neq .other true (tm 17) (vl (int64 (0)))) 0, k 19 (.mov (tm 18)) 0, kg 20 19 false (.mov (tm 9)) 0, kg 21 19 false (.mov (tm 1)) 0, kg 22 19 false (.bin .neq .other false (tm 20) (tm 21)) 0, k 23 (.pick (tm 19) (vl (.bool true)) (tm 22)) 0]) (.cond (tm 23) (.seq (.region [k 24 (.loadN 2 (tm 8)) 0, kn (.store 2 (tm 6) (tm 24)) 0, k 7 (.mov (vl (int64 (4)))) 0]) .ret) .skip))) (.seq (.region [k 25 (.loadN 2 (tm 3)) 0, kn (.store 2 (tm 6) (tm 25)) 0, k 7 (.mov (vl (int64 (0)))) 0]) .ret))))⟩
theorem sameb_code : compFn Tryz.prog 46 = some sameb_fu := by kernel_rfl
noncomputable def samen_fu : Fu := ⟨[.cellN (Pos.ofNat 6) 3, .tmp (Pos.ofNat 7)], 26, (.seq (.region [k 3 (.box (tm 0)) 0, k 6 (.new [(int64 (0)), (.str 0 0), (int64 (0))]) 0, k 7 (.mov (vl (int64 (0)))) 0]) (.seq (.region [k 8 (.new [(int64 (0)), (.str 0 0), (int64 (0))]) 0]) (.seq (.seq (.region [k 12 (.mov (tm 2)) 0, k 13 (.loadN 3 (tm 3)) 0, k 14 (.call (.value (tm 12)) [(tm 13)]) 0, k 11 (.mov (tm 14)) 0, k 15 (.extract (tm 11) 0) 0, k 16 (.extract (tm 11) 1) 0, k 9 (.mov (tm 15)) 0, k 10 (.mov (tm 16)) 0]) (.seq (.region [k 17 (.mov (tm 10)) 0, k 18 (.bin .neq .other true (tm 17) (vl (int64 (0)))) 0, k 19 (.mov (tm 18)) 0, kg 20 19 false (.mov (tm 9)) 0, kg 21 19 false (.mov (tm 1)) 0, kg 22 19 false (.bin .neq .other false (tm 20) (tm 21)) 0, k 23 (.pick (tm 19) (vl (.bool true)) (tm 22)) 0]) (.cond (tm 23) (.seq (.region [k 24 (.loadN 3 (tm 8)) 0, kn (.store 3 (tm 6) (tm 24)) 0, k 7 (.mov (vl (int64 (4)))) 0]) .ret) .skip))) (.seq (.region [k 25 (.loadN 3 (tm 3)) 0, kn (.store 3 (tm 6) (tm 25)) 0, k 7 (.mov (vl (int64 (0)))) 0]) .ret))))⟩
theorem samen_code : compFn Tryz.prog 54 = some samen_fu := by kernel_rfl
noncomputable def sames_fu : Fu := ⟨[.cellN (Pos.ofNat 6) 5, .tmp (Pos.ofNat 7)], 26, (.seq (.region [k 3 (.box (tm 0)) 0, k 6 (.new [(int64 (0)), (int64 (0)), (.str 0 0), (int64 (0)), (int64 (0))]) 0, k 7 (.mov (vl (int64 (0)))) 0]) (.seq (.region [k 8 (.new [(int64 (0)), (int64 (0)), (.str 0 0), (int64 (0)), (int64 (0))]) 0]) (.seq (.seq (.region [k 12 (.mov (tm 2)) 0, k 13 (.loadN 5 (tm 3)) 0, k 14 (.call (.value (tm 12)) [(tm 13)]) 0, k 11 (.mov (tm 14)) 0, k 15 (.extract (tm 11) 0) 0, k 16 (.extract (tm 11) 1) 0, k 9 (.mov (tm 15)) 0, k 10 (.mov (tm 16)) 0]) (.seq (.region [k 17 (.mov (tm 10)) 0, k 18 (.bin .neq .other true (tm 17) (vl (int64 (0)))) 0, k 19 (.mov (tm 18)) 0, kg 20 19 false (.mov (tm 9)) 0, kg 21 19 false (.mov (tm 1)) 0, kg 22 19 false (.bin .neq .other false (tm 20) (tm 21)) 0, k 23 (.pick (tm 19) (vl (.bool true)) (tm 22)) 0]) (.cond (tm 23) (.seq (.region [k 24 (.loadN 5 (tm 8)) 0, kn (.store 5 (tm 6) (tm 24)) 0, k 7 (.mov (vl (int64 (4)))) 0]) .ret) .skip))) (.seq (.region [k 25 (.loadN 5 (tm 3)) 0, kn (.store 5 (tm 6) (tm 25)) 0, k 7 (.mov (vl (int64 (0)))) 0]) .ret))))⟩
theorem sames_code : compFn Tryz.prog 58 = some sames_fu := by kernel_rfl
noncomputable def read_fu : Fu := ⟨[.tmp (Pos.ofNat 2)], 13, (.seq (.region [k 2 (.mov (vl (int64 (0)))) 0]) (.seq (.region [k 6 (.mov (tm 0)) 0, k 7 (.call (.value (vl (.fn (.func 95) [] []))) [(tm 6), (vl (int64 (10))), (vl (int64 (64)))]) 0, k 5 (.mov (tm 7)) 0, k 8 (.extract (tm 5) 0) 0, k 9 (.extract (tm 5) 1) 0, k 3 (.mov (tm 8)) 0, k 4 (.mov (tm 9)) 0]) (.seq (.seq (.region [k 10 (.mov (tm 4)) 0, k 11 (.eqIfc true true (tm 10) (vl .nilIfc)) 0]) (.cond (tm 11) (.seq (.region [k 2 (.mov (vl (int64 (0)))) 0]) .ret) .skip)) (.seq (.region [k 12 (.mov (tm 3)) 0, k 2 (.mov (tm 12)) 0]) .ret))))⟩
theorem read_code : compFn Tryz.prog 47 = some read_fu := by kernel_rfl
noncomputable def parseb_fu : Fu := ⟨[.cellN (Pos.ofNat 2) 2, .tmp (Pos.ofNat 3)], 21, (.seq (.region [k 2 (.new [(int64 (0)), (.str 0 0)]) 0, k 3 (.mov (vl (int64 (0)))) 0]) (.seq (.region [k 8 (.mov (tm 0)) 0, k 9 (.call (.value (vl (.fn (.func 45) [] []))) [(tm 8), (vl (.str 1 46))]) 0, k 7 (.mov (tm 9)) 0, k 10 (.extract (tm 7) 0) 0, k 11 (.extract (tm 7) 1) 0, k 12 (.extract (tm 7) 2) 0, k 4 (.mov (tm 10)) 0, k 5 (.mov (tm 11)) 0, k 6 (.mov (tm 12)) 0]) (.seq (.region [k 13 (.mov (tm 4)) 0, k 14 (.call (.value (vl (.fn (.func 47) [] []))) [(tm 13)]) 0, k 15 (.mov (tm 5)) 0, k 16 (.build [(int64 (0)), (.str 0 0)] [(0, 1, (tm 14)), (1, 1, (tm 15))]) 0, k 17 (.mov (tm 0)) 0, k 18 (.call (.value (vl (.fn (.func 46) [] []))) [(tm 16), (tm 17), (vl (.fn (.func 48) [] []))]) 0, k 19 (.extract (tm 18) 0) 0, k 20 (.extract (tm 18) 1) 0, kn (.store 2 (tm 2) (tm 19)) 0, k 3 (.mov (tm 20)) 0]) .ret)))⟩
theorem parseb_code : compFn Tryz.prog 9 = some parseb_fu := by kernel_rfl
noncomputable def parsen_fu : Fu := ⟨[.cellN (Pos.ofNat 2) 3, .tmp (Pos.ofNat 3)], 28, (.seq (.region [k 2 (.new [(int64 (0)), (.str 0 0), (int64 (0))]) 0, k 3 (.mov (vl (int64 (0)))) 0]) (.seq (.region [k 5 (.mov (tm 0)) 0, k 6 (.call (.value (vl (.fn (.func 53) [] []))) [(tm 5), (vl (.str 1 46))]) 0, k 4 (.mov (tm 6)) 0]) (.seq (.seq (.region [k 7 (.mov (tm 4)) 0, k 8 (.lenL (tm 7)) 0, k 9 (.bin .neq .other true (tm 8) (vl (int64 (3)))) 0]) (.cond (tm 9) (.seq (.region [k 10 (.build [(int64 (0)), (.str 0 0), (int64 (0))] []) 0, kn (.store 3 (tm 2) (tm 10)) 0, k 3 (.mov (vl (int64 (4)))) 0]) .ret) .skip)) (.seq (.drawn [k 11 (.mov (tm 4)) 0, k 12 (.idxAddrSl 1 (tm 11) (vl (int64 (0)))) 1, k 13 (.load1 (tm 12)) 3, k 14 (.call (.value (vl (.fn (.func 47) [] []))) [(tm 13)]) 7, k 15 (.mov (tm 4)) 0, k 16 (.idxAddrSl 1 (tm 15) (vl (int64 (1)))) 16, k 17 (.load1 (tm 16)) 48, k 18 (.build [(int64 (0)), (.str 0 0)] [(0, 1, (tm 14)), (1, 1, (tm 17))]) 127, k 19 (.mov (tm 4)) 0, k 20 (.idxAddrSl 1 (tm 19) (vl (int64 (2)))) 256, k 21 (.load1 (tm 20)) 768, k 22 (.call (.value (vl (.fn (.func 47) [] []))) [(tm 21)]) 1807, k 23 (.build [(int64 (0)), (.str 0 0), (int64 (0))] [(0, 2, (tm 18)), (2, 1, (tm 22))]) 4095, k 24 (.mov (tm 0)) 0, k 25 (.call (.value (vl (.fn (.func 54) [] []))) [(tm 23), (tm 24), (vl (.fn (.func 55) [] []))]) 16383, k 26 (.extract (tm 25) 0) 32767, k 27 (.extract (tm 25) 1) 32767, kn (.store 3 (tm 2) (tm 26)) 131071, k 3 (.mov (tm 27)) 262143]) .ret))))⟩
theorem parsen_code : compFn Tryz.prog 11 = some parsen_fu := by kernel_rfl
noncomputable def parses_fu : Fu := ⟨[.cellN (Pos.ofNat 2) 5, .tmp (Pos.ofNat 3)], 39, (.seq (.region [k 2 (.new [(int64 (0)), (int64 (0)), (.str 0 0), (int64 (0)), (int64 (0))]) 0, k 3 (.mov (vl (int64 (0)))) 0]) (.seq (.region [k 6 (.mov (tm 0)) 0, k 7 (.call (.value (vl (.fn (.func 53) [] []))) [(tm 6), (vl (.str 1 46))]) 0, k 4 (.mov (tm 7)) 0]) (.seq (.seq (.region [k 8 (.mov (tm 4)) 0, k 9 (.lenL (tm 8)) 0, k 10 (.bin .neq .other true (tm 9) (vl (int64 (5)))) 0]) (.cond (tm 10) (.seq (.region [k 11 (.build [(int64 (0)), (int64 (0)), (.str 0 0), (int64 (0)), (int64 (0))] []) 0, kn (.store 5 (tm 2) (tm 11)) 0, k 3 (.mov (vl (int64 (4)))) 0]) .ret) .skip)) (.seq (.drawn [k 12 (.mov (tm 4)) 0, k 13 (.idxAddrSl 1 (tm 12) (vl (int64 (1)))) 1, k 14 (.load1 (tm 13)) 3, k 15 (.call (.value (vl (.fn (.func 47) [] []))) [(tm 14)]) 7, k 16 (.mov (tm 4)) 0, k 17 (.idxAddrSl 1 (tm 16) (vl (int64 (2)))) 16, k 18 (.load1 (tm 17)) 48, k 19 (.build [(int64 (0)), (.str 0 0)] [(0, 1, (tm 15)), (1, 1, (tm 18))]) 127, k 20 (.mov (tm 4)) 0, k 21 (.idxAddrSl 1 (tm 20) (vl (int64 (3)))) 256, k 22 (.load1 (tm 21)) 768, k 23 (.call (.value (vl (.fn (.func 47) [] []))) [(tm 22)]) 1807, k 24 (.build [(int64 (0)), (.str 0 0), (int64 (0))] [(0, 2, (tm 19)), (2, 1, (tm 23))]) 4095, k 5 (.new [(int64 (0)), (.str 0 0), (int64 (0))]) 0, kn (.store 3 (tm 5) (tm 24)) 16383]) (.seq (.drawn [k 25 (.mov (tm 4)) 0, k 26 (.idxAddrSl 1 (tm 25) (vl (int64 (0)))) 1, k 27 (.load1 (tm 26)) 3, k 28 (.call (.value (vl (.fn (.func 47) [] []))) [(tm 27)]) 7, k 29 (.loadN 3 (tm 5)) 0, k 30 (.mov (tm 4)) 0, k 31 (.idxAddrSl 1 (tm 30) (vl (int64 (4)))) 32, k 32 (.load1 (tm 31)) 96, k 33 (.call (.value (vl (.fn (.func 47) [] []))) [(tm 32)]) 239, k 34 (.build [(int64 (0)), (int64 (0)), (.str 0 0), (int64 (0)), (int64 (0))] [(0, 1, (tm 28)), (1, 3, (tm 29)), (4, 1, (tm 33))]) 511, k 35 (.mov (tm 0)) 0, k 36 (.call (.value (vl (.fn (.func 58) [] []))) [(tm 34), (tm 35), (vl (.fn (.func 32) [] []))]) 2047, k 37 (.extract (tm 36) 0) 4095, k 38 (.extract (tm 36) 1) 4095, kn (.store 5 (tm 2) (tm 37)) 16383, k 3 (.mov (tm 38)) 32767]) .ret)))))⟩
theorem parses_code : compFn Tryz.prog 13 = some parses_fu := by kernel_rfl
noncomputable def back_0 : C := (.seq (.region [k 11 (.bin .lss .other false (tm 10) (tm 9)) 0]) (.seq (.cond (tm 11) .skip (.exit 0)) (.seq (.block 1 (.seq (.region [k 12 (.idxAddrSl 1 (tm 8) (tm 10)) 0, k 13 (.load1 (tm 12)) 0, k 5 (.mov (tm 13)) 0]) (.region [k 14 (.mov (tm 3)) 0, k 15 (.bin .shl .other true (tm 14) (vl (.int .u64 (8)))) 0, k 16 (.mov (tm 5)) 0, k 17 (.convInt .i64 (tm 16)) 0, k 18 (.bin .or .other false (tm 15) (tm 17)) 0, k 3 (.mov (tm 18)) 0]))) (.region [k 19 (.bin .add .other true (tm 10) (vl (int64 (1)))) 0, k 10 (.mov (tm 19)) 0]))))
noncomputable def back_fu : Fu := ⟨[.tmp (Pos.ofNat 2)], 21, (.seq (.region [k 2 (.mov (vl (int64 (0)))) 0]) (.seq (.region [k 3 (.mov (vl (int64 (0)))) 0]) (.seq (.seq (.region [k 6 (.mov (tm 0)) 0, k 7 (.sliceStr (tm 6) none (some (vl (int64 (8))))) 0, k 8 (.strBytes (tm 7)) 0, k 9 (.lenL (tm 8)) 0, k 10 (.mov (vl (int64 (0)))) 0]) (.block 0 (.loop back_0))) (.seq (.region [k 20 (.mov (tm 3)) 0, k 2 (.mov (tm 20)) 0]) .ret))))⟩
theorem back_code : compFn Tryz.prog 61 = some back_fu := by kernel_rfl
noncomputable def ofkey_fu : Fu := ⟨[.cellN (Pos.ofNat 2) 5, .tmp (Pos.ofNat 3)], 38, (.seq (.region [k 2 (.new [(int64 (0)), (int64 (0)), (.str 0 0), (int64 (0)), (int64 (0))]) 0, k 3 (.mov (vl (int64 (0)))) 0]) (.seq (.region [k 6 (.mov (tm 0)) 0, k 7 (.lenS (tm 6)) 0, k 4 (.mov (tm 7)) 0]) (.seq (.seq (.region [k 8 (.mov (tm 4)) 0, k 9 (.bin .lss .other true (tm 8) (vl (int64 (19)))) 0]) (.cond (tm 9) (.seq (.region [k 10 (.build [(int64 (0)), (int64 (0)), (.str 0 0), (int64 (0)), (int64 (0))] []) 0, kn (.store 5 (tm 2) (tm 10)) 0, k 3 (.mov (vl (int64 (4)))) 0]) .ret) .skip)) (.seq (.drawn [k 11 (.mov (tm 0)) 0, k 12 (.idxStr (tm 11) (vl (int64 (8)))) 1, k 13 (.convInt .i64 (tm 12)) 3, k 14 (.mov (tm 0)) 0, k 15 (.mov (tm 4)) 0, k 16 (.bin .sub .other true (tm 15) (vl (int64 (10)))) 16, k 17 (.sliceStr (tm 14) (some (vl (int64 (9)))) (some (tm 16))) 56, k 18 (.build [(int64 (0)), (.str 0 0)] [(0, 1, (tm 13)), (1, 1, (tm 17))]) 127, k 5 (.new [(int64 (0)), (.str 0 0)]) 0, kn (.store 2 (tm 5) (tm 18)) 511]) (.seq (.drawn [k 19 (.mov (tm 0)) 0, k 20 (.call (.value (vl (.fn (.func 61) [] []))) [(tm 19)]) 1, k 21 (.loadN 2 (tm 5)) 0, k 22 (.mov (tm 0)) 0, k 23 (.mov (tm 4)) 0, k 24 (.bin .sub .other true (tm 23) (vl (int64 (9)))) 16, k 25 (.sliceStr (tm 22) (some (tm 24)) none) 56, k 26 (.call (.value (vl (.fn (.func 61) [] []))) [(tm 25)]) 123, k 27 (.build [(int64 (0)), (.str 0 0), (int64 (0))] [(0, 2, (tm 21)), (2, 1, (tm 26))]) 255, k 28 (.mov (tm 0)) 0, k 29 (.mov (tm 4)) 0, k 30 (.bin .sub .other true (tm 29) (vl (int64 (1)))) 1024, k 31 (.idxStr (tm 28) (tm 30)) 3584, k 32 (.convInt .i64 (tm 31)) 7680, k 33 (.build [(int64 (0)), (int64 (0)), (.str 0 0), (int64 (0)), (int64 (0))] [(0, 1, (tm 20)), (1, 3, (tm 27)), (4, 1, (tm 32))]) 16383, k 34 (.mov (tm 0)) 0, k 35 (.call (.value (vl (.fn (.func 58) [] []))) [(tm 33), (tm 34), (vl (.fn (.func 30) [] []))]) 65535, k 36 (.extract (tm 35) 0) 131071, k 37 (.extract (tm 35) 1) 131071, kn (.store 5 (tm 2) (tm 36)) 524287, k 3 (.mov (tm 37)) 1048575]) .ret)))))⟩
theorem ofkey_code : compFn Tryz.prog 15 = some ofkey_fu := by kernel_rfl
noncomputable def rlabel_0 : C := (.seq (.seq (.region [k 4 (.mov (tm 3)) 0, k 5 (.mov (tm 0)) 0, k 6 (.lenS (tm 5)) 0, k 7 (.bin .lss .other false (tm 4) (tm 6)) 0]) (.cond (tm 7) .skip (.exit 0))) (.seq (.block 1 (.seq (.region [k 10 (.mov (tm 0)) 0, k 11 (.mov (tm 3)) 0, k 12 (.idxStr (tm 10) (tm 11)) 0, k 13 (.bin .lss .other true (tm 12) (vl (.int .u8 (97)))) 0, k 14 (.mov (tm 13)) 0, kg 15 14 false (.mov (tm 0)) 0, kg 16 14 false (.mov (tm 3)) 0, kg 17 14 false (.idxStr (tm 15) (tm 16)) 0, kg 18 14 false (.bin .gtr .other true (tm 17) (vl (.int .u8 (122)))) 0, k 19 (.pick (tm 14) (vl (.bool true)) (tm 18)) 0]) (.cond (tm 19) (.seq (.region [k 2 (.mov (vl (.bool false))) 0]) .ret) .skip))) (.region [k 8 (.mov (tm 3)) 0, k 9 (.bin .add .other true (tm 8) (vl (int64 (1)))) 0, k 3 (.mov (tm 9)) 0])))
noncomputable def rlabel_fu : Fu := ⟨[.tmp (Pos.ofNat 2)], 28, (.seq (.region [k 2 (.mov (vl (.bool false))) 0]) (.seq (.seq (.region [k 3 (.mov (vl (int64 (0)))) 0]) (.block 0 (.loop rlabel_0))) (.seq (.region [k 20 (.mov (tm 0)) 0, k 21 (.lenS (tm 20)) 0, k 22 (.bin .geq .other true (tm 21) (vl (int64 (1)))) 0, k 23 (.mov (tm 22)) 0, kg 24 23 true (.mov (tm 0)) 0, kg 25 23 true (.lenS (tm 24)) 0, kg 26 23 true (.bin .leq .other true (tm 25) (vl (int64 (12)))) 0, k 27 (.pick (tm 23) (tm 26) (vl (.bool false))) 0, k 2 (.mov (tm 27)) 0]) .ret)))⟩
theorem rlabel_code : compFn Tryz.prog 96 = some rlabel_fu := by kernel_rfl
noncomputable def rbranch_fu : Fu := ⟨[.tmp (Pos.ofNat 2)], 16, (.seq (.region [k 1 (.box (tm 0)) 0, k 2 (.mov (vl (.bool false))) 0]) (.seq (.region [k 3 (.fieldAddr 0 (tm 1)) 0, k 4 (.load1 (tm 3)) 0, k 5 (.bin .geq .other true (tm 4) (vl (int64 (0)))) 0, k 6 (.mov (tm 5)) 0, kg 7 6 true (.fieldAddr 0 (tm 1)) 0, kg 8 6 true (.load1 (tm 7)) 0, kg 9 6 true (.bin .lss .other true (tm 8) (vl (int64 (8)))) 0, k 10 (.pick (tm 6) (tm 9) (vl (.bool false))) 0, k 11 (.mov (tm 10)) 0, kg 12 11 true (.fieldAddr 1 (tm 1)) 0, kg 13 11 true (.load1 (tm 12)) 0, kg 14 11 true (.call (.value (vl (.fn (.func 96) [] []))) [(tm 13)]) 0, k 15 (.pick (tm 11) (tm 14) (vl (.bool false))) 0, k 2 (.mov (tm 15)) 0]) .ret))⟩
theorem rbranch_code : compFn Tryz.prog 51 = some rbranch_fu := by kernel_rfl
noncomputable def rname_fu : Fu := ⟨[.tmp (Pos.ofNat 2)], 16, (.seq (.region [k 1 (.box (tm 0)) 0, k 2 (.mov (vl (.bool false))) 0]) (.seq (.region [k 3 (.fieldAddr 0 (tm 1)) 0, k 4 (.loadN 2 (tm 3)) 0, k 5 (.call (.value (vl (.fn (.func 51) [] []))) [(tm 4)]) 0, k 6 (.mov (tm 5)) 0, kg 7 6 true (.fieldAddr 2 (tm 1)) 0, kg 8 6 true (.load1 (tm 7)) 0, kg 9 6 true (.bin .geq .other true (tm 8) (vl (int64 (1)))) 0, k 10 (.pick (tm 6) (tm 9) (vl (.bool false))) 0, k 11 (.mov (tm 10)) 0, kg 12 11 true (.fieldAddr 2 (tm 1)) 0, kg 13 11 true (.load1 (tm 12)) 0, kg 14 11 true (.bin .leq .other true (tm 13) (vl (int64 (4611686018427387904)))) 0, k 15 (.pick (tm 11) (tm 14) (vl (.bool false))) 0, k 2 (.mov (tm 15)) 0]) .ret))⟩
theorem rname_code : compFn Tryz.prog 56 = some rname_fu := by kernel_rfl
noncomputable def rstamp_fu : Fu := ⟨[.tmp (Pos.ofNat 2)], 26, (.seq (.region [k 1 (.box (tm 0)) 0, k 2 (.mov (vl (.bool false))) 0]) (.seq (.region [k 3 (.fieldAddr 0 (tm 1)) 0, k 4 (.load1 (tm 3)) 0, k 5 (.bin .geq .other true (tm 4) (vl (int64 (1)))) 0, k 6 (.mov (tm 5)) 0, kg 7 6 true (.fieldAddr 0 (tm 1)) 0, kg 8 6 true (.load1 (tm 7)) 0, kg 9 6 true (.bin .leq .other true (tm 8) (vl (int64 (4611686018427387904)))) 0, k 10 (.pick (tm 6) (tm 9) (vl (.bool false))) 0, k 11 (.mov (tm 10)) 0, kg 12 11 true (.fieldAddr 1 (tm 1)) 0, kg 13 11 true (.loadN 3 (tm 12)) 0, kg 14 11 true (.call (.value (vl (.fn (.func 56) [] []))) [(tm 13)]) 0, k 15 (.pick (tm 11) (tm 14) (vl (.bool false))) 0, k 16 (.mov (tm 15)) 0, kg 17 16 true (.fieldAddr 4 (tm 1)) 0, kg 18 16 true (.load1 (tm 17)) 0, kg 19 16 true (.bin .geq .other true (tm 18) (vl (int64 (0)))) 0, k 20 (.pick (tm 16) (tm 19) (vl (.bool false))) 0, k 21 (.mov (tm 20)) 0, kg 22 21 true (.fieldAddr 4 (tm 1)) 0, kg 23 21 true (.load1 (tm 22)) 0, kg 24 21 true (.bin .lss .other true (tm 23) (vl (int64 (64)))) 0, k 25 (.pick (tm 21) (tm 24) (vl (.bool false))) 0, k 2 (.mov (tm 25)) 0]) .ret))⟩
theorem rstamp_code : compFn Tryz.prog 59 = some rstamp_fu := by kernel_rfl
noncomputable def rdigits_fu : Fu := ⟨[.tmp (Pos.ofNat 2)], 5, (.seq (.region [k 2 (.mov (vl (.str 0 0))) 0]) (.seq (.region [k 3 (.mov (tm 0)) 0, k 4 (.call (.value (vl (.fn (.func 107) [] []))) [(tm 3), (vl (int64 (10)))]) 0, k 2 (.mov (tm 4)) 0]) .ret))⟩
theorem rdigits_code : compFn Tryz.prog 97 = some rdigits_fu := by kernel_rfl
noncomputable def rtextb_fu : Fu := ⟨[.tmp (Pos.ofNat 2)], 10, (.seq (.region [k 1 (.box (tm 0)) 0, k 2 (.mov (vl (.str 0 0))) 0]) (.seq (.drawn [k 3 (.fieldAddr 0 (tm 1)) 0, k 4 (.load1 (tm 3)) 1, k 5 (.call (.value (vl (.fn (.func 97) [] []))) [(tm 4)]) 3, k 6 (.bin .add .other true (tm 5) (vl (.str 1 46))) 7, k 7 (.fieldAddr 1 (tm 1)) 0, k 8 (.load1 (tm 7)) 16, k 9 (.bin .add .other false (tm 6) (tm 8)) 63, k 2 (.mov (tm 9)) 127]) .ret))⟩
theorem rtextb_code : compFn Tryz.prog 52 = some rtextb_fu := by kernel_rfl
noncomputable def rtextn_fu : Fu := ⟨[.tmp (Pos.ofNat 2)], 11, (.seq (.region [k 1 (.box (tm 0)) 0, k 2 (.mov (vl (.str 0 0))) 0]) (.seq (.drawn [k 3 (.fieldAddr 0 (tm 1)) 0, k 4 (.loadN 2 (tm 3)) 1, k 5 (.call (.value (vl (.fn (.func 52) [] []))) [(tm 4)]) 3, k 6 (.bin .add .other true (tm 5) (vl (.str 1 46))) 7, k 7 (.fieldAddr 2 (tm 1)) 0, k 8 (.load1 (tm 7)) 16, k 9 (.call (.value (vl (.fn (.func 97) [] []))) [(tm 8)]) 55, k 10 (.bin .add .other false (tm 6) (tm 9)) 127, k 2 (.mov (tm 10)) 255]) .ret))⟩
theorem rtextn_code : compFn Tryz.prog 57 = some rtextn_fu := by kernel_rfl
noncomputable def rtext_fu : Fu := ⟨[.tmp (Pos.ofNat 2)], 16, (.seq (.region [k 1 (.box (tm 0)) 0, k 2 (.mov (vl (.str 0 0))) 0]) (.seq (.drawn [k 3 (.fieldAddr 0 (tm 1)) 0, k 4 (.load1 (tm 3)) 1, k 5 (.call (.value (vl (.fn (.func 97) [] []))) [(tm 4)]) 3, k 6 (.bin .add .other true (tm 5) (vl (.str 1 46))) 7, k 7 (.fieldAddr 1 (tm 1)) 0, k 8 (.loadN 3 (tm 7)) 16, k 9 (.call (.value (vl (.fn (.func 57) [] []))) [(tm 8)]) 55, k 10 (.bin .add .other false (tm 6) (tm 9)) 127, k 11 (.bin .add .other true (tm 10) (vl (.str 1 46))) 255, k 12 (.fieldAddr 4 (tm 1)) 0, k 13 (.load1 (tm 12)) 512, k 14 (.call (.value (vl (.fn (.func 97) [] []))) [(tm 13)]) 1655, k 15 (.bin .add .other false (tm 11) (tm 14)) 4095, k 2 (.mov (tm 15)) 8191]) .ret))⟩
theorem rtext_code : compFn Tryz.prog 60 = some rtext_fu := by kernel_rfl
noncomputable def reight_0 : C := (.seq (.seq (.region [k 5 (.mov (tm 4)) 0, k 6 (.bin .geq .other true (tm 5) (vl (int64 (0)))) 0]) (.cond (tm 6) .skip (.exit 0))) (.seq (.block 1 (.region [k 9 (.mov (tm 3)) 0, k 10 (.mov (tm 0)) 0, k 11 (.mov (tm 4)) 0, k 12 (.convInt .u64 (tm 11)) 0, k 13 (.bin .shr .other false (tm 10) (tm 12)) 0, k 14 (.convInt .u8 (tm 13)) 0, k 15 (.buildSl 1 1 [(.int .u8 (0))] [(0, 1, (tm 14))]) 0, k 16 (.append 1 0 (tm 9) (tm 15)) 0, k 3 (.mov (tm 16)) 0])) (.region [k 7 (.mov (tm 4)) 0, k 8 (.bin .sub .other true (tm 7) (vl (int64 (8)))) 0, k 4 (.mov (tm 8)) 0])))
noncomputable def reight_fu : Fu := ⟨[.tmp (Pos.ofNat 2)], 18, (.seq (.region [k 2 (.mov (vl .nilSl)) 0]) (.seq (.region [k 3 (.mov (vl .nilSl)) 0]) (.seq (.seq (.region [k 4 (.mov (vl (int64 (56)))) 0]) (.block 0 (.loop reight_0))) (.seq (.region [k 17 (.mov (tm 3)) 0, k 2 (.mov (tm 17)) 0]) .ret))))⟩
theorem reight_code : compFn Tryz.prog 99 = some reight_fu := by kernel_rfl
noncomputable def rkey_fu : Fu := ⟨[.tmp (Pos.ofNat 2)], 36, (.seq (.region [k 1 (.box (tm 0)) 0, k 2 (.mov (vl (.str 0 0))) 0]) (.seq (.drawn [k 4 (.fieldAddr 0 (tm 1)) 0, k 5 (.load1 (tm 4)) 1, k 6 (.call (.value (vl (.fn (.func 99) [] []))) [(tm 5)]) 3, k 7 (.fieldAddr 1 (tm 1)) 0, k 8 (.fieldAddr 0 (tm 7)) 8, k 9 (.fieldAddr 0 (tm 8)) 24, k 10 (.load1 (tm 9)) 56, k 11 (.convInt .u8 (tm 10)) 120, k 12 (.buildSl 1 1 [(.int .u8 (0))] [(0, 1, (tm 11))]) 248, k 13 (.append 1 0 (tm 6) (tm 12)) 511, k 3 (.mov (tm 13)) 1023]) (.seq (.region [k 14 (.mov (tm 3)) 0, k 15 (.fieldAddr 1 (tm 1)) 0, k 16 (.fieldAddr 0 (tm 15)) 0, k 17 (.fieldAddr 1 (tm 16)) 0, k 18 (.load1 (tm 17)) 0, k 19 (.append 1 0 (tm 14) (tm 18)) 0, k 3 (.mov (tm 19)) 0]) (.seq (.region [k 20 (.mov (tm 3)) 0, k 21 (.buildSl 1 1 [(.int .u8 (0))] [(0, 1, (vl (.int .u8 (0))))]) 0, k 22 (.append 1 0 (tm 20) (tm 21)) 0, k 3 (.mov (tm 22)) 0]) (.seq (.region [k 23 (.mov (tm 3)) 0, k 24 (.fieldAddr 1 (tm 1)) 0, k 25 (.fieldAddr 2 (tm 24)) 0, k 26 (.load1 (tm 25)) 0, k 27 (.call (.value (vl (.fn (.func 99) [] []))) [(tm 26)]) 0, k 28 (.append 1 0 (tm 23) (tm 27)) 0, k 3 (.mov (tm 28)) 0]) (.seq (.region [k 29 (.mov (tm 3)) 0, k 30 (.fieldAddr 4 (tm 1)) 0, k 31 (.load1 (tm 30)) 0, k 32 (.convInt .u8 (tm 31)) 0, k 33 (.buildSl 1 1 [(.int .u8 (0))] [(0, 1, (tm 32))]) 0, k 34 (.append 1 0 (tm 29) (tm 33)) 0, k 35 (.bytesStr (tm 34)) 0, k 2 (.mov (tm 35)) 0]) .ret))))))⟩
theorem rkey_code : compFn Tryz.prog 63 = some rkey_fu := by kernel_rfl
noncomputable def rcut_0 : C := (.seq (.seq (.region [k 6 (.mov (tm 5)) 0, k 7 (.mov (tm 0)) 0, k 8 (.lenS (tm 7)) 0, k 9 (.bin .leq .other false (tm 6) (tm 8)) 0, k 10 (.mov (tm 9)) 0, kg 11 10 true (.mov (tm 3)) 0, kg 12 10 true (.lenL (tm 11)) 0, kg 13 10 true (.bin .lss .other true (tm 12) (vl (int64 (9)))) 0, k 14 (.pick (tm 10) (tm 13) (vl (.bool false))) 0]) (.cond (tm 14) .skip (.exit 0))) (.seq (.block 1 (.seq (.region [k 17 (.mov (tm 5)) 0, k 18 (.mov (tm 0)) 0, k 19 (.lenS (tm 18)) 0, k 20 (.bin .eql .other false (tm 17) (tm 19)) 0, k 21 (.mov (tm 20)) 0, kg 22 21 false (.mov (tm 0)) 0, kg 23 21 false (.mov (tm 5)) 0, kg 24 21 false (.idxStr (tm 22) (tm 23)) 0, kg 25 21 false (.bin .eql .other true (tm 24) (vl (.int .u8 (46)))) 0, k 26 (.pick (tm 21) (vl (.bool true)) (tm 25)) 0]) (.cond (tm 26) (.seq (.region [k 27 (.mov (tm 3)) 0, k 28 (.mov (tm 0)) 0, k 29 (.mov (tm 4)) 0, k 30 (.mov (tm 5)) 0, k 31 (.sliceStr (tm 28) (some (tm 29)) (some (tm 30))) 0, k 32 (.buildSl 1 1 [(.str 0 0)] [(0, 1, (tm 31))]) 0, k 33 (.append 1 16 (tm 27) (tm 32)) 0, k 3 (.mov (tm 33)) 0]) (.region [k 34 (.mov (tm 5)) 0, k 35 (.bin .add .other true (tm 34) (vl (int64 (1)))) 0, k 4 (.mov (tm 35)) 0])) .skip))) (.region [k 15 (.mov (tm 5)) 0, k 16 (.bin .add .other true (tm 15) (vl (int64 (1)))) 0, k 5 (.mov (tm 16)) 0])))
noncomputable def rcut_fu : Fu := ⟨[.tmp (Pos.ofNat 2)], 37, (.seq (.region [k 2 (.mov (vl .nilSl)) 0]) (.seq (.region [k 3 (.mov (vl .nilSl)) 0]) (.seq (.region [k 4 (.mov (vl (int64 (0)))) 0]) (.seq (.seq (.region [k 5 (.mov (vl (int64 (0)))) 0]) (.block 0 (.loop rcut_0))) (.seq (.region [k 36 (.mov (tm 3)) 0, k 2 (.mov (tm 36)) 0]) .ret)))))⟩
theorem rcut_code : compFn Tryz.prog 49 = some rcut_fu := by kernel_rfl
noncomputable def rread_fu : Fu := ⟨[.tmp (Pos.ofNat 2)], 11, (.seq (.region [k 2 (.mov (vl (int64 (0)))) 0]) (.seq (.region [k 6 (.mov (tm 0)) 0, k 7 (.call (.value (vl (.fn (.func 95) [] []))) [(tm 6), (vl (int64 (10))), (vl (int64 (64)))]) 0, k 5 (.mov (tm 7)) 0, k 8 (.extract (tm 5) 0) 0, k 9 (.extract (tm 5) 1) 0, k 3 (.mov (tm 8)) 0, k 4 (.mov (tm 9)) 0]) (.seq (.region [k 10 (.mov (tm 3)) 0, k 2 (.mov (tm 10)) 0]) .ret)))⟩
theorem rread_code : compFn Tryz.prog 50 = some rread_fu := by kernel_rfl
noncomputable def rparseb_fu : Fu := ⟨[.cellN (Pos.ofNat 2) 2, .tmp (Pos.ofNat 3)], 31, (.seq (.region [k 2 (.new [(int64 (0)), (.str 0 0)]) 0, k 3 (.mov (vl (int64 (0)))) 0]) (.seq (.region [k 6 (.mov (tm 0)) 0, k 7 (.call (.value (vl (.fn (.func 49) [] []))) [(tm 6)]) 0, k 4 (.mov (tm 7)) 0]) (.seq (.seq (.region [k 8 (.mov (tm 4)) 0, k 9 (.lenL (tm 8)) 0, k 10 (.bin .neq .other true (tm 9) (vl (int64 (2)))) 0]) (.cond (tm 10) (.seq (.region [k 11 (.build [(int64 (0)), (.str 0 0)] []) 0, kn (.store 2 (tm 2) (tm 11)) 0, k 3 (.mov (vl (int64 (4)))) 0]) .ret) .skip)) (.seq (.drawn [k 12 (.mov (tm 4)) 0, k 13 (.idxAddrSl 1 (tm 12) (vl (int64 (0)))) 1, k 14 (.load1 (tm 13)) 3, k 15 (.call (.value (vl (.fn (.func 50) [] []))) [(tm 14)]) 7, k 16 (.mov (tm 4)) 0, k 17 (.idxAddrSl 1 (tm 16) (vl (int64 (1)))) 16, k 18 (.load1 (tm 17)) 48, k 19 (.build [(int64 (0)), (.str 0 0)] [(0, 1, (tm 15)), (1, 1, (tm 18))]) 127, k 5 (.new [(int64 (0)), (.str 0 0)]) 0, kn (.store 2 (tm 5) (tm 19)) 511]) (.seq (.seq (.region [k 20 (.loadN 2 (tm 5)) 0, k 21 (.call (.value (vl (.fn (.func 51) [] []))) [(tm 20)]) 0, k 22 (.un .not (tm 21)) 0, k 23 (.mov (tm 22)) 0, kg 24 23 false (.loadN 2 (tm 5)) 0, kg 25 23 false (.call (.value (vl (.fn (.func 52) [] []))) [(tm 24)]) 0, kg 26 23 false (.mov (tm 0)) 0, kg 27 23 false (.bin .neq .other false (tm 25) (tm 26)) 0, k 28 (.pick (tm 23) (vl (.bool true)) (tm 27)) 0]) (.cond (tm 28) (.seq (.region [k 29 (.build [(int64 (0)), (.str 0 0)] []) 0, kn (.store 2 (tm 2) (tm 29)) 0, k 3 (.mov (vl (int64 (4)))) 0]) .ret) .skip)) (.seq (.region [k 30 (.loadN 2 (tm 5)) 0, kn (.store 2 (tm 2) (tm 30)) 0, k 3 (.mov (vl (int64 (0)))) 0]) .ret))))))⟩
theorem rparseb_code : compFn Tryz.prog 10 = some rparseb_fu := by kernel_rfl
noncomputable def rparsen_fu : Fu := ⟨[.cellN (Pos.ofNat 2) 3, .tmp (Pos.ofNat 3)], 36, (.seq (.region [k 2 (.new [(int64 (0)), (.str 0 0), (int64 (0))]) 0, k 3 (.mov (vl (int64 (0)))) 0]) (.seq (.region [k 6 (.mov (tm 0)) 0, k 7 (.call (.value (vl (.fn (.func 49) [] []))) [(tm 6)]) 0, k 4 (.mov (tm 7)) 0]) (.seq (.seq (.region [k 8 (.mov (tm 4)) 0, k 9 (.lenL (tm 8)) 0, k 10 (.bin .neq .other true (tm 9) (vl (int64 (3)))) 0]) (.cond (tm 10) (.seq (.region [k 11 (.build [(int64 (0)), (.str 0 0), (int64 (0))] []) 0, kn (.store 3 (tm 2) (tm 11)) 0, k 3 (.mov (vl (int64 (4)))) 0]) .ret) .skip)) (.seq (.drawn [k 12 (.mov (tm 4)) 0, k 13 (.idxAddrSl 1 (tm 12) (vl (int64 (0)))) 1, k 14 (.load1 (tm 13)) 3, k 15 (.call (.value (vl (.fn (.func 50) [] []))) [(tm 14)]) 7, k 16 (.mov (tm 4)) 0, k 17 (.idxAddrSl 1 (tm 16) (vl (int64 (1)))) 16, k 18 (.load1 (tm 17)) 48, k 19 (.build [(int64 (0)), (.str 0 0)] [(0, 1, (tm 15)), (1, 1, (tm 18))]) 127, k 20 (.mov (tm 4)) 0, k 21 (.idxAddrSl 1 (tm 20) (vl (int64 (2)))) 256, k 22 (.load1 (tm 21)) 768, k 23 (.call (.value (vl (.fn (.func 50) [] []))) [(tm 22)]) 1807, k 24 (.build [(int64 (0)), (.str 0 0), (int64 (0))] [(0, 2, (tm 19)), (2, 1, (tm 23))]) 4095, k 5 (.new [(int64 (0)), (.str 0 0), (int64 (0))]) 0, kn (.store 3 (tm 5) (tm 24)) 16383]) (.seq (.seq (.region [k 25 (.loadN 3 (tm 5)) 0, k 26 (.call (.value (vl (.fn (.func 56) [] []))) [(tm 25)]) 0, k 27 (.un .not (tm 26)) 0, k 28 (.mov (tm 27)) 0, kg 29 28 false (.loadN 3 (tm 5)) 0, kg 30 28 false (.call (.value (vl (.fn (.func 57) [] []))) [(tm 29)]) 0, kg 31 28 false (.mov (tm 0)) 0, kg 32 28 false (.bin .neq .other false (tm 30) (tm 31)) 0, k 33 (.pick (tm 28) (vl (.bool true)) (tm 32)) 0]) (.cond (tm 33) (.seq (.region [k 34 (.build [(int64 (0)), (.str 0 0), (int64 (0))] []) 0, kn (.store 3 (tm 2) (tm 34)) 0, k 3 (.mov (vl (int64 (4)))) 0]) .ret) .skip)) (.seq (.region [k 35 (.loadN 3 (tm 5)) 0, kn (.store 3 (tm 2) (tm 35)) 0, k 3 (.mov (vl (int64 (0)))) 0]) .ret))))))⟩
theorem rparsen_code : compFn Tryz.prog 12 = some rparsen_fu := by kernel_rfl
noncomputable def rparse_fu : Fu := ⟨[.cellN (Pos.ofNat 2) 5, .tmp (Pos.ofNat 3)], 45, (.seq (.region [k 2 (.new [(int64 (0)), (int64 (0)), (.str 0 0), (int64 (0)), (int64 (0))]) 0, k 3 (.mov (vl (int64 (0)))) 0]) (.seq (.region [k 6 (.mov (tm 0)) 0, k 7 (.call (.value (vl (.fn (.func 49) [] []))) [(tm 6)]) 0, k 4 (.mov (tm 7)) 0]) (.seq (.seq (.region [k 8 (.mov (tm 4)) 0, k 9 (.lenL (tm 8)) 0, k 10 (.bin .neq .other true (tm 9) (vl (int64 (5)))) 0]) (.cond (tm 10) (.seq (.region [k 11 (.build [(int64 (0)), (int64 (0)), (.str 0 0), (int64 (0)), (int64 (0))] []) 0, kn (.store 5 (tm 2) (tm 11)) 0, k 3 (.mov (vl (int64 (4)))) 0]) .ret) .skip)) (.seq (.drawn [k 12 (.mov (tm 4)) 0, k 13 (.idxAddrSl 1 (tm 12) (vl (int64 (0)))) 1, k 14 (.load1 (tm 13)) 3, k 15 (.call (.value (vl (.fn (.func 50) [] []))) [(tm 14)]) 7, k 16 (.mov (tm 4)) 0, k 17 (.idxAddrSl 1 (tm 16) (vl (int64 (1)))) 16, k 18 (.load1 (tm 17)) 48, k 19 (.call (.value (vl (.fn (.func 50) [] []))) [(tm 18)]) 127, k 20 (.mov (tm 4)) 0, k 21 (.idxAddrSl 1 (tm 20) (vl (int64 (2)))) 256, k 22 (.load1 (tm 21)) 768, k 23 (.build [(int64 (0)), (.str 0 0)] [(0, 1, (tm 19)), (1, 1, (tm 22))]) 2047, k 24 (.mov (tm 4)) 0, k 25 (.idxAddrSl 1 (tm 24) (vl (int64 (3)))) 4096, k 26 (.load1 (tm 25)) 12288, k 27 (.call (.value (vl (.fn (.func 50) [] []))) [(tm 26)]) 28927, k 28 (.build [(int64 (0)), (.str 0 0), (int64 (0))] [(0, 2, (tm 23)), (2, 1, (tm 27))]) 65535, k 29 (.mov (tm 4)) 0, k 30 (.idxAddrSl 1 (tm 29) (vl (int64 (4)))) 131072, k 31 (.load1 (tm 30)) 393216, k 32 (.call (.value (vl (.fn (.func 50) [] []))) [(tm 31)]) 979199, k 33 (.build [(int64 (0)), (int64 (0)), (.str 0 0), (int64 (0)), (int64 (0))] [(0, 1, (tm 15)), (1, 3, (tm 28)), (4, 1, (tm 32))]) 2097151, k 5 (.new [(int64 (0)), (int64 (0)), (.str 0 0), (int64 (0)), (int64 (0))]) 0, kn (.store 5 (tm 5) (tm 33)) 8388607]) (.seq (.seq (.region [k 34 (.loadN 5 (tm 5)) 0, k 35 (.call (.value (vl (.fn (.func 59) [] []))) [(tm 34)]) 0, k 36 (.un .not (tm 35)) 0, k 37 (.mov (tm 36)) 0, kg 38 37 false (.loadN 5 (tm 5)) 0, kg 39 37 false (.call (.value (vl (.fn (.func 60) [] []))) [(tm 38)]) 0, kg 40 37 false (.mov (tm 0)) 0, kg 41 37 false (.bin .neq .other false (tm 39) (tm 40)) 0, k 42 (.pick (tm 37) (vl (.bool true)) (tm 41)) 0]) (.cond (tm 42) (.seq (.region [k 43 (.build [(int64 (0)), (int64 (0)), (.str 0 0), (int64 (0)), (int64 (0))] []) 0, kn (.store 5 (tm 2) (tm 43)) 0, k 3 (.mov (vl (int64 (4)))) 0]) .ret) .skip)) (.seq (.region [k 44 (.loadN 5 (tm 5)) 0, kn (.store 5 (tm 2) (tm 44)) 0, k 3 (.mov (vl (int64 (0)))) 0]) .ret))))))⟩
theorem rparse_code : compFn Tryz.prog 14 = some rparse_fu := by kernel_rfl
noncomputable def rback_0 : C := (.seq (.seq (.region [k 5 (.mov (tm 4)) 0, k 6 (.bin .lss .other true (tm 5) (vl (int64 (8)))) 0]) (.cond (tm 6) .skip (.exit 0))) (.seq (.block 1 (.region [k 9 (.mov (tm 3)) 0, k 10 (.bin .shl .other true (tm 9) (vl (.int .u64 (8)))) 0, k 11 (.mov (tm 0)) 0, k 12 (.mov (tm 4)) 0, k 13 (.idxStr (tm 11) (tm 12)) 0, k 14 (.convInt .i64 (tm 13)) 0, k 15 (.bin .or .other false (tm 10) (tm 14)) 0, k 3 (.mov (tm 15)) 0])) (.region [k 7 (.mov (tm 4)) 0, k 8 (.bin .add .other true (tm 7) (vl (int64 (1)))) 0, k 4 (.mov (tm 8)) 0])))
noncomputable def rback_fu : Fu := ⟨[.tmp (Pos.ofNat 2)], 17, (.seq (.region [k 2 (.mov (vl (int64 (0)))) 0]) (.seq (.region [k 3 (.mov (vl (int64 (0)))) 0]) (.seq (.seq (.region [k 4 (.mov (vl (int64 (0)))) 0]) (.block 0 (.loop rback_0))) (.seq (.region [k 16 (.mov (tm 3)) 0, k 2 (.mov (tm 16)) 0]) .ret))))⟩
theorem rback_code : compFn Tryz.prog 62 = some rback_fu := by kernel_rfl
noncomputable def rofkey_fu : Fu := ⟨[.cellN (Pos.ofNat 2) 5, .tmp (Pos.ofNat 3)], 45, (.seq (.region [k 2 (.new [(int64 (0)), (int64 (0)), (.str 0 0), (int64 (0)), (int64 (0))]) 0, k 3 (.mov (vl (int64 (0)))) 0]) (.seq (.seq (.region [k 6 (.mov (tm 0)) 0, k 7 (.lenS (tm 6)) 0, k 8 (.bin .lss .other true (tm 7) (vl (int64 (19)))) 0]) (.cond (tm 8) (.seq (.region [k 9 (.build [(int64 (0)), (int64 (0)), (.str 0 0), (int64 (0)), (int64 (0))] []) 0, kn (.store 5 (tm 2) (tm 9)) 0, k 3 (.mov (vl (int64 (4)))) 0]) .ret) .skip)) (.seq (.region [k 10 (.mov (tm 0)) 0, k 11 (.lenS (tm 10)) 0, k 4 (.mov (tm 11)) 0]) (.seq (.drawn [k 12 (.mov (tm 0)) 0, k 13 (.call (.value (vl (.fn (.func 62) [] []))) [(tm 12)]) 1, k 14 (.mov (tm 0)) 0, k 15 (.idxStr (tm 14) (vl (int64 (8)))) 4, k 16 (.convInt .i64 (tm 15)) 12, k 17 (.mov (tm 0)) 0, k 18 (.mov (tm 4)) 0, k 19 (.bin .sub .other true (tm 18) (vl (int64 (10)))) 64, k 20 (.sliceStr (tm 17) (some (vl (int64 (9)))) (some (tm 19))) 224, k 21 (.build [(int64 (0)), (.str 0 0)] [(0, 1, (tm 16)), (1, 1, (tm 20))]) 508, k 22 (.mov (tm 0)) 0, k 23 (.mov (tm 4)) 0, k 24 (.bin .sub .other true (tm 23) (vl (int64 (9)))) 2048, k 25 (.sliceStr (tm 22) (some (tm 24)) none) 7168, k 26 (.call (.value (vl (.fn (.func 62) [] []))) [(tm 25)]) 15363, k 27 (.build [(int64 (0)), (.str 0 0), (int64 (0))] [(0, 2, (tm 21)), (2, 1, (tm 26))]) 32767, k 28 (.mov (tm 0)) 0, k 29 (.mov (tm 4)) 0, k 30 (.bin .sub .other true (tm 29) (vl (int64 (1)))) 131072, k 31 (.idxStr (tm 28) (tm 30)) 458752, k 32 (.convInt .i64 (tm 31)) 983040, k 33 (.build [(int64 (0)), (int64 (0)), (.str 0 0), (int64 (0)), (int64 (0))] [(0, 1, (tm 13)), (1, 3, (tm 27)), (4, 1, (tm 32))]) 2097151, k 5 (.new [(int64 (0)), (int64 (0)), (.str 0 0), (int64 (0)), (int64 (0))]) 0, kn (.store 5 (tm 5) (tm 33)) 8388607]) (.seq (.seq (.region [k 34 (.loadN 5 (tm 5)) 0, k 35 (.call (.value (vl (.fn (.func 59) [] []))) [(tm 34)]) 0, k 36 (.un .not (tm 35)) 0, k 37 (.mov (tm 36)) 0, kg 38 37 false (.loadN 5 (tm 5)) 0, kg 39 37 false (.call (.value (vl (.fn (.func 63) [] []))) [(tm 38)]) 0, kg 40 37 false (.mov (tm 0)) 0, kg 41 37 false (.bin .neq .other false (tm 39) (tm 40)) 0, k 42 (.pick (tm 37) (vl (.bool true)) (tm 41)) 0]) (.cond (tm 42) (.seq (.region [k 43 (.build [(int64 (0)), (int64 (0)), (.str 0 0), (int64 (0)), (int64 (0))] []) 0, kn (.store 5 (tm 2) (tm 43)) 0, k 3 (.mov (vl (int64 (4)))) 0]) .ret) .skip)) (.seq (.region [k 44 (.loadN 5 (tm 5)) 0, kn (.store 5 (tm 2) (tm 44)) 0, k 3 (.mov (vl (int64 (0)))) 0]) .ret))))))⟩
theorem rofkey_code : compFn Tryz.prog 16 = some rofkey_fu := by kernel_rfl
noncomputable def num_fu : Fu := ⟨[.tmp (Pos.ofNat 2)], 4, (.seq (.region [k 2 (.mov (vl (int64 (0)))) 0]) (.seq (.region [k 3 (.mov (tm 0)) 0, k 2 (.mov (tm 3)) 0]) .ret))⟩
theorem num_code : compFn Tryz.prog 17 = some num_fu := by kernel_rfl
noncomputable def law_fu : Fu := ⟨[.tmp (Pos.ofNat 2)], 108, (.seq (.region [k 2 (.mov (vl (.bool false))) 0]) (.seq (.seq (.region [k 19 (.mov (tm 0)) 0, k 20 (.lenS (tm 19)) 0, k 21 (.bin .gtr .other true (tm 20) (vl (int64 (9000)))) 0]) (.cond (tm 21) (.seq (.region [k 22 (.call (.value (vl (.fn (.func 8) [] []))) []) 0, k 2 (.mov (tm 22)) 0]) .ret) .skip)) (.seq (.region [k 24 (.mov (tm 0)) 0, k 25 (.call (.value (vl (.fn (.func 9) [] []))) [(tm 24)]) 0, k 23 (.mov (tm 25)) 0, k 26 (.extract (tm 23) 0) 0, k 27 (.extract (tm 23) 1) 0, k 3 (.new [(int64 (0)), (.str 0 0)]) 0, kn (.store 2 (tm 3) (tm 26)) 0, k 4 (.mov (tm 27)) 0]) (.seq (.region [k 29 (.mov (tm 0)) 0, k 30 (.call (.value (vl (.fn (.func 10) [] []))) [(tm 29)]) 0, k 28 (.mov (tm 30)) 0, k 31 (.extract (tm 28) 0) 0, k 32 (.extract (tm 28) 1) 0, k 5 (.new [(int64 (0)), (.str 0 0)]) 0, kn (.store 2 (tm 5) (tm 31)) 0, k 6 (.mov (tm 32)) 0]) (.seq (.region [k 34 (.mov (tm 0)) 0, k 35 (.call (.value (vl (.fn (.func 11) [] []))) [(tm 34)]) 0, k 33 (.mov (tm 35)) 0, k 36 (.extract (tm 33) 0) 0, k 37 (.extract (tm 33) 1) 0, k 7 (.new [(int64 (0)), (.str 0 0), (int64 (0))]) 0, kn (.store 3 (tm 7) (tm 36)) 0, k 8 (.mov (tm 37)) 0]) (.seq (.region [k 39 (.mov (tm 0)) 0, k 40 (.call (.value (vl (.fn (.func 12) [] []))) [(tm 39)]) 0, k 38 (.mov (tm 40)) 0, k 41 (.extract (tm 38) 0) 0, k 42 (.extract (tm 38) 1) 0, k 9 (.new [(int64 (0)), (.str 0 0), (int64 (0))]) 0, kn (.store 3 (tm 9) (tm 41)) 0, k 10 (.mov (tm 42)) 0]) (.seq (.region [k 44 (.mov (tm 0)) 0, k 45 (.call (.value (vl (.fn (.func 13) [] []))) [(tm 44)]) 0, k 43 (.mov (tm 45)) 0, k 46 (.extract (tm 43) 0) 0, k 47 (.extract (tm 43) 1) 0, k 11 (.new [(int64 (0)), (int64 (0)), (.str 0 0), (int64 (0)), (int64 (0))]) 0, kn (.store 5 (tm 11) (tm 46)) 0, k 12 (.mov (tm 47)) 0]) (.seq (.region [k 49 (.mov (tm 0)) 0, k 50 (.call (.value (vl (.fn (.func 14) [] []))) [(tm 49)]) 0, k 48 (.mov (tm 50)) 0, k 51 (.extract (tm 48) 0) 0, k 52 (.extract (tm 48) 1) 0, k 13 (.new [(int64 (0)), (int64 (0)), (.str 0 0), (int64 (0)), (int64 (0))]) 0, kn (.store 5 (tm 13) (tm 51)) 0, k 14 (.mov (tm 52)) 0]) (.seq (.region [k 54 (.mov (tm 0)) 0, k 55 (.call (.value (vl (.fn (.func 15) [] []))) [(tm 54)]) 0, k 53 (.mov (tm 55)) 0, k 56 (.extract (tm 53) 0) 0, k 57 (.extract (tm 53) 1) 0, k 15 (.new [(int64 (0)), (int64 (0)), (.str 0 0), (int64 (0)), (int64 (0))]) 0, kn (.store 5 (tm 15) (tm 56)) 0, k 16 (.mov (tm 57)) 0]) (.seq (.region [k 59 (.mov (tm 0)) 0, k 60 (.call (.value (vl (.fn (.func 16) [] []))) [(tm 59)]) 0, k 58 (.mov (tm 60)) 0, k 61 (.extract (tm 58) 0) 0, k 62 (.extract (tm 58) 1) 0, k 17 (.new [(int64 (0)), (int64 (0)), (.str 0 0), (int64 (0)), (int64 (0))]) 0, kn (.store 5 (tm 17) (tm 61)) 0, k 18 (.mov (tm 62)) 0]) (.seq (.region [k 63 (.loadN 2 (tm 3)) 0, k 64 (.loadN 2 (tm 5)) 0, k 65 (.bin .eql (.flat [.int, .str]) false (tm 63) (tm 64)) 0, k 66 (.mov (tm 65)) 0, kg 67 66 true (.mov (tm 4)) 0, kg 68 66 true (.call (.value (vl (.fn (.func 17) [] []))) [(tm 67)]) 0, kg 69 66 true (.mov (tm 6)) 0, kg 70 66 true (.bin .eql .other false (tm 68) (tm 69)) 0, k 71 (.pick (tm 66) (tm 70) (vl (.bool false))) 0, k 72 (.mov (tm 71)) 0, kg 73 72 true (.loadN 3 (tm 7)) 0, kg 74 72 true (.loadN 3 (tm 9)) 0, kg 75 72 true (.bin .eql (.flat [.int, .str, .int]) false (tm 73) (tm 74)) 0, k 76 (.pick (tm 72) (tm 75) (vl (.bool false))) 0, k 77 (.mov (tm 76)) 0, kg 78 77 true (.mov (tm 8)) 0, kg 79 77 true (.call (.value (vl (.fn (.func 17) [] []))) [(tm 78)]) 0, kg 80 77 true (.mov (tm 10)) 0, kg 81 77 true (.bin .eql .other false (tm 79) (tm 80)) 0, k 82 (.pick (tm 77) (tm 81) (vl (.bool false))) 0, k 83 (.mov (tm 82)) 0, kg 84 83 true (.loadN 5 (tm 11)) 0, kg 85 83 true (.loadN 5 (tm 13)) 0, kg 86 83 true (.bin .eql (.flat [.int, .int, .str, .int, .int]) false (tm 84) (tm 85)) 0, k 87 (.pick (tm 83) (tm 86) (vl (.bool false))) 0, k 88 (.mov (tm 87)) 0, kg 89 88 true (.mov (tm 12)) 0, kg 90 88 true (.call (.value (vl (.fn (.func 17) [] []))) [(tm 89)]) 0, kg 91 88 true (.mov (tm 14)) 0, kg 92 88 true (.bin .eql .other false (tm 90) (tm 91)) 0, k 93 (.pick (tm 88) (tm 92) (vl (.bool false))) 0, k 94 (.mov (tm 93)) 0, kg 95 94 true (.loadN 5 (tm 15)) 0, kg 96 94 true (.loadN 5 (tm 17)) 0, kg 97 94 true (.bin .eql (.flat [.int, .int, .str, .int, .int]) false (tm 95) (tm 96)) 0, k 98 (.pick (tm 94) (tm 97) (vl (.bool false))) 0, k 99 (.mov (tm 98)) 0, kg 100 99 true (.mov (tm 16)) 0, kg 101 99 true (.call (.value (vl (.fn (.func 17) [] []))) [(tm 100)]) 0, kg 102 99 true (.mov (tm 18)) 0, kg 103 99 true (.bin .eql .other false (tm 101) (tm 102)) 0, k 104 (.pick (tm 99) (tm 103) (vl (.bool false))) 0, k 105 (.mov (tm 104)) 0, kg 106 105 true (.call (.value (vl (.fn (.func 8) [] []))) []) 0, k 107 (.pick (tm 105) (tm 106) (vl (.bool false))) 0, k 2 (.mov (tm 107)) 0]) .ret)))))))))))⟩
theorem law_code : compFn Tryz.prog 3 = some law_fu := by kernel_rfl
theorem ok_label : okCall Tryz.prog 92 = true := by kernel_rfl
theorem ok_branch : okCall Tryz.prog 41 = true := by kernel_rfl
theorem ok_name : okCall Tryz.prog 42 = true := by kernel_rfl
theorem ok_stamp : okCall Tryz.prog 43 = true := by kernel_rfl
theorem ok_digits : okCall Tryz.prog 85 = true := by kernel_rfl
theorem ok_text : okCall Tryz.prog 84 = true := by kernel_rfl
theorem ok_textb : okCall Tryz.prog 48 = true := by kernel_rfl
theorem ok_textn : okCall Tryz.prog 55 = true := by kernel_rfl
theorem ok_texts : okCall Tryz.prog 32 = true := by kernel_rfl
theorem ok_eight : okCall Tryz.prog 81 = true := by kernel_rfl
theorem ok_join : okCall Tryz.prog 80 = true := by kernel_rfl
theorem ok_key : okCall Tryz.prog 30 = true := by kernel_rfl
theorem ok_sameb : okCall Tryz.prog 46 = true := by kernel_rfl
theorem ok_samen : okCall Tryz.prog 54 = true := by kernel_rfl
theorem ok_sames : okCall Tryz.prog 58 = true := by kernel_rfl
theorem ok_read : okCall Tryz.prog 47 = true := by kernel_rfl
theorem ok_parseb : okCall Tryz.prog 9 = true := by kernel_rfl
theorem ok_parsen : okCall Tryz.prog 11 = true := by kernel_rfl
theorem ok_parses : okCall Tryz.prog 13 = true := by kernel_rfl
theorem ok_back : okCall Tryz.prog 61 = true := by kernel_rfl
theorem ok_ofkey : okCall Tryz.prog 15 = true := by kernel_rfl
theorem ok_rlabel : okCall Tryz.prog 96 = true := by kernel_rfl
theorem ok_rbranch : okCall Tryz.prog 51 = true := by kernel_rfl
theorem ok_rname : okCall Tryz.prog 56 = true := by kernel_rfl
theorem ok_rstamp : okCall Tryz.prog 59 = true := by kernel_rfl
theorem ok_rdigits : okCall Tryz.prog 97 = true := by kernel_rfl
theorem ok_rtextb : okCall Tryz.prog 52 = true := by kernel_rfl
theorem ok_rtextn : okCall Tryz.prog 57 = true := by kernel_rfl
theorem ok_rtext : okCall Tryz.prog 60 = true := by kernel_rfl
theorem ok_reight : okCall Tryz.prog 99 = true := by kernel_rfl
theorem ok_rkey : okCall Tryz.prog 63 = true := by kernel_rfl
theorem ok_rcut : okCall Tryz.prog 49 = true := by kernel_rfl
theorem ok_rread : okCall Tryz.prog 50 = true := by kernel_rfl
theorem ok_rparseb : okCall Tryz.prog 10 = true := by kernel_rfl
theorem ok_rparsen : okCall Tryz.prog 12 = true := by kernel_rfl
theorem ok_rparse : okCall Tryz.prog 14 = true := by kernel_rfl
theorem ok_rback : okCall Tryz.prog 62 = true := by kernel_rfl
theorem ok_rofkey : okCall Tryz.prog 16 = true := by kernel_rfl
theorem ok_num : okCall Tryz.prog 17 = true := by kernel_rfl
theorem ok_law : okCall Tryz.prog 3 = true := by kernel_rfl
theorem ok_fmt : okCall Tryz.prog 107 = true := by kernel_rfl
theorem ok_sjoin : okCall Tryz.prog 106 = true := by kernel_rfl
theorem ok_scut : okCall Tryz.prog 45 = true := by kernel_rfl
theorem ok_ssplit : okCall Tryz.prog 53 = true := by kernel_rfl
theorem ok_pint : okCall Tryz.prog 95 = true := by kernel_rfl
theorem ok_known : okCall Tryz.prog 8 = true := by kernel_rfl
end Go.Proofs.YtjhgembcdndmkaaGreatDoor.St

namespace Go.Proofs.YtjhgembcdndmkaaGreatDoor.St
open Go Go.RowKit Go.Proofs
def low (l : List UInt8) : Bool := l.all fun c => 97 ≤ c.toNat && c.toNat ≤ 122
def labelB (l : List UInt8) : Bool := low l && (1 ≤ l.length && l.length ≤ 12)
theorem low_no {l : List UInt8} {k : Nat} (hk : k < l.length) (h : (l[k].toNat : Int) < 97 ∨ 122 < (l[k].toNat : Int)) : labelB l = false := by
  have : low l = false := by
    rw [← Bool.not_eq_true]; intro q
    have := List.all_eq_true.1 q _ (List.getElem_mem hk)
    simp at this; omega
  unfold labelB; rw [this]; rfl
theorem low_step {l : List UInt8} {k : Nat} (hk : k < l.length) (h : low (l.take k) = true) (h1 : ¬ (l[k].toNat : Int) < 97) (h2 : ¬ 122 < (l[k].toNat : Int)) : low (l.take (k + 1)) = true := by
  unfold low at *
  rw [List.take_succ_eq_append_getElem hk, List.all_append, h]
  simp; omega
set_option maxHeartbeats 1600000 in
set_option maxRecDepth 1000000 in
theorem label_any (s : ByteArray) (w : World) (hs : s.size ≤ 9223372036854775807) :
    Calls Tryz.prog 92 #[.string s] w fun e w' => e = .returned (.bool (labelB s.data.toList)) ∧ Below w.heap.size w w' := by
  have hconv := run_bytes_of_string (P := Tryz.prog) w 9 44 5 s Tryz.underlying9 Tryz.underlying44 Tryz.underlying5
  generalize grownCap w s.size 0 5 = cap at hconv
  generalize hC : bytesRow s cap = C at hconv
  have hcell : ∀ j (hj : j < s.data.toList.length), (w.alloc (.cells C 5 (C.size, C.size + 1))).cell? ⟨w.heap.size, j, none⟩ = some (.int .u8 (s.data.toList[j].toNat : Int)) := by
    intro j hj
    subst hC
    unfold World.cell? World.alloc
    simp only [Array.getElem?_push_size]
    exact bytesRow_at s cap j (by simpa using hj)
  clear hC
  go_enter Tryz.func92, Tryz.ntmps92
  go_wp2
  go_loop [8] (fun i => ∃ k : Nat, k ≤ s.size ∧ i = .int .i64 k ∧ low (s.data.toList.take k) = true) (fun i => s.size - (intOf i).toNat)
  case atStart => exact ⟨0, Nat.zero_le _, rfl, rfl⟩
  case round =>
    obtain ⟨k, hk, rfl, hl⟩ := hrel
    have hsl : s.data.toList.length = s.size := by simp
    by_cases hlt : k < s.size
    · have hc := hcell k (by omega)
      have hkl : k < s.data.toList.length := by omega
      have hs1 := low_step hkl hl
      have hn1 := low_no hkl
      generalize (s.data.toList[k]).toNat = c at hc hs1 hn1
      clear hcell hconv
      go_wp2
      · go_ret
        exact ⟨rfl, by first | exact ((Below.refl _ _).alloc (Nat.le_refl _) _).drew | exact (Below.refl _ _).drew.alloc (Nat.le_refl _) _⟩
      · go_round
        case rel => exact ⟨k + 1, by omega, by go_num, hs1 (by omega) (by omega)⟩
        case measure => simp [intOf]; omega
      · go_ret
        exact ⟨rfl, by first | exact ((Below.refl _ _).alloc (Nat.le_refl _) _).drew | exact (Below.refl _ _).drew.alloc (Nat.le_refl _) _⟩
    · have hkk : k = s.size := by omega
      obtain rfl : s.size = k := hkk.symm
      have hfull : low s.data.toList = true := by rw [← hsl, List.take_length] at hl; exact hl
      have hB : labelB s.data.toList = (decide (1 ≤ s.size) && decide (s.size ≤ 12)) := by unfold labelB; rw [hfull, hsl]; simp
      have HB := Lib.hid hB
      clear hB hcell hconv hsl hl hfull
      go_wp2
      all_goals
        go_ret
        refine ⟨?_, by first | exact ((Below.refl _ _).alloc (Nat.le_refl _) _).drew | exact (Below.refl _ _).drew.alloc (Nat.le_refl _) _⟩
        rw [HB.out]
        first
          | (have h1 : 1 ≤ s.size := by omega
             simp [h1]
             by_cases h2 : s.size ≤ 12 <;> simp [h2] <;> omega)
          | (have h1 : ¬ 1 ≤ s.size := by omega
             simp [h1])
end Go.Proofs.YtjhgembcdndmkaaGreatDoor.St

/- Plain laws: texts cut at a byte, numbers read. -/
namespace Go.Proofs.YtjhgembcdndmkaaGreatDoor.St
open Go
def cuts (c : UInt8) : List UInt8 → List (List UInt8)
  | [] => [[]]
  | b :: l => if b = c then [] :: cuts c l else match cuts c l with
    | x :: r => (b :: x) :: r
    | [] => [[b]]
theorem cuts_none {c : UInt8} : ∀ {d : List UInt8}, c ∉ d → cuts c d = [d]
  | [], _ => rfl
  | b :: d, h => by
    have hb : b ≠ c := fun e => h (by rw [e]; simp)
    rw [cuts, if_neg hb, cuts_none fun q => h (List.mem_cons_of_mem _ q)]
theorem cuts_at {c : UInt8} (r : List UInt8) : ∀ {d : List UInt8}, c ∉ d → cuts c (d ++ c :: r) = d :: cuts c r
  | [], _ => by show (if c = c then _ else _) = _; rw [if_pos rfl]
  | b :: d, h => by
    have hb : b ≠ c := fun e => h (by rw [e]; simp)
    rw [List.cons_append, cuts, if_neg hb, cuts_at r fun q => h (List.mem_cons_of_mem _ q)]
theorem cuts_ne (c : UInt8) : ∀ l, cuts c l ≠ []
  | [] => by simp [cuts]
  | b :: l => by
    rw [cuts]
    split
    · simp
    · split <;> simp
theorem index_cases (c : UInt8) : ∀ s : List UInt8, (c ∉ s ∧ Lib.index s [c] = -1) ∨ ∃ d r, s = d ++ c :: r ∧ c ∉ d ∧ Lib.index s [c] = (d.length : Int)
  | [] => .inl ⟨by simp, rfl⟩
  | b :: l => by
    by_cases hb : b = c
    · subst hb
      exact .inr ⟨[], l, rfl, by simp, by unfold Lib.index; simp [List.isPrefixOf]⟩
    · have e : Lib.index (b :: l) [c] = if (Lib.index l [c] == -1) = true then -1 else Lib.index l [c] + 1 := by
        rw [Lib.index]
        have hp : [c].isPrefixOf (b :: l) = false := by simp [List.isPrefixOf]; exact fun q => hb q.symm
        rw [hp]; simp
      rcases index_cases c l with ⟨h1, h2⟩ | ⟨d, r, h1, h2, h3⟩
      · exact .inl ⟨by simp [h1]; exact fun q => hb q.symm, by rw [e, h2]; rfl⟩
      · refine .inr ⟨b :: d, r, by rw [h1]; rfl, by simp [h2]; exact fun q => hb q.symm, ?_⟩
        rw [e, h3, if_neg (by simp)]
        simp
theorem cut_none {c : UInt8} {s : List UInt8} (h : c ∉ s) : Lib.cut s [c] = (s, [], false) := by
  rcases index_cases c s with ⟨_, h2⟩ | ⟨d, r, h1, _, _⟩
  · unfold Lib.cut; rw [h2, if_neg (by omega)]
  · exact absurd (by rw [h1]; simp) h
theorem app_cons_inj {c : UInt8} : ∀ {d d' r r' : List UInt8}, c ∉ d → c ∉ d' → d ++ c :: r = d' ++ c :: r' → d = d' ∧ r = r'
  | [], [], _, _, _, _, e => by simpa using e
  | [], x :: d', _, _, _, h', e => by simp at e; exact absurd (by rw [e.1]; simp) h'
  | x :: d, [], _, _, h, _, e => by simp at e; exact absurd (by rw [e.1]; simp) h
  | x :: d, y :: d', _, _, h, h', e => by
    simp at e
    obtain ⟨q1, q2⟩ := app_cons_inj (fun q => h (List.mem_cons_of_mem _ q)) (fun q => h' (List.mem_cons_of_mem _ q)) e.2
    exact ⟨by rw [e.1, q1], q2⟩
theorem cut_at {c : UInt8} {d r : List UInt8} (h : c ∉ d) : Lib.cut (d ++ c :: r) [c] = (d, r, true) := by
  rcases index_cases c (d ++ c :: r) with ⟨h1, _⟩ | ⟨d', r', h1, h2, h3⟩
  · exact absurd (by simp) h1
  · obtain ⟨rfl, rfl⟩ := app_cons_inj h h2 h1
    unfold Lib.cut
    rw [h3, if_pos (by omega)]
    simp
theorem splitK_cuts (c : UInt8) : ∀ (k : Nat) (s : List UInt8), Lib.count s [c] = k → Lib.splitK [c] 0 k s = cuts c s := by
  intro k
  induction k with
  | zero =>
    intro s h
    rcases index_cases c s with ⟨h1, _⟩ | ⟨d, r, h1, h2, h3⟩
    · rw [cuts_none h1]; rfl
    · have := Lib.count_hit (by simp) h3
      omega
  | succ k ih =>
    intro s h
    rcases index_cases c s with ⟨_, h2⟩ | ⟨d, r, h1, h2, h3⟩
    · rw [Lib.count_miss h2] at h; omega
    · have hc := Lib.count_hit (by simp) h3
      have e : s.drop (d.length + 1) = r := by rw [h1]; simp
      rw [Lib.splitK, if_neg (by rw [h3]; simp), h3]
      simp only [Int.toNat_natCast, Nat.add_zero, List.length_cons, List.length_nil, Nat.zero_add] at hc ⊢
      rw [e] at hc ⊢
      rw [ih r (by omega), h1, cuts_at r h2]
      simp
theorem split_cuts (c : UInt8) (s : List UInt8) : Lib.splitK [c] 0 (Lib.count s [c]) s = cuts c s := splitK_cuts c _ s rfl
theorem cuts_length {c : UInt8} : ∀ {s : List UInt8} {x : List UInt8}, x ∈ cuts c s → x.length ≤ s.length
  | [], x, h => by simp [cuts] at h; simp [h]
  | b :: l, x, h => by
    rw [cuts] at h
    split at h
    · rcases List.mem_cons.1 h with e | q
      · subst e; simp
      · have := cuts_length q; simp; omega
    · split at h
      · rename_i y r e
        rcases List.mem_cons.1 h with q | q
        · subst q
          have := cuts_length (c := c) (s := l) (x := y) (by rw [e]; simp)
          simp; omega
        · have := cuts_length (c := c) (s := l) (x := x) (by rw [e]; exact List.mem_cons_of_mem _ q)
          simp; omega
      · simp at h; subst h; simp
theorem cut_length (c : UInt8) (s : List UInt8) : (Lib.cut s [c]).1.length ≤ s.length ∧ (Lib.cut s [c]).2.1.length ≤ s.length := by
  unfold Lib.cut
  split
  · simp; omega
  · simp
def readI (s : List UInt8) : Int := match Lib.parseIntB 64 s with
  | .ok v => v
  | _ => 0
def rreadI (s : List UInt8) : Int := match Lib.parseIntB 64 s with
  | .ok v => v
  | .range => Lib.intSat 64 s
  | _ => 0
theorem parseUintM_app (M : Nat) : ∀ (l : List UInt8) (acc n : Nat) (x : List UInt8), Lib.parseUintM M acc l = .ok n → Lib.parseUintM M acc (l ++ x) = Lib.parseUintM M n x
  | [], acc, n, x, h => by cases h; rfl
  | c :: l, acc, n, x, h => by
    rw [Lib.parseUintM] at h
    rw [List.cons_append, Lib.parseUintM]
    split at h
    · split at h
      · cases h
      · split at h
        · cases h
        · rename_i h1 h2 h3
          rw [if_pos h1, if_neg h2, if_neg h3]
          exact parseUintM_app M l _ n x h
    · cases h
theorem parseUintM_digits : ∀ (n : Nat), n ≤ 18446744073709551615 → Lib.parseUintM 18446744073709551615 0 (Lib.decDigits n) = .ok n := by
  intro n
  induction n using Nat.strongRecOn with
  | _ n ih =>
    intro hn
    have dig : ∀ d, d < 10 → (UInt8.ofNat (48 + d)).toNat = 48 + d := fun d hd => by simp; omega
    by_cases h : n < 10
    · rw [Lib.decDigits, dif_pos h, Lib.parseUintM, dig n h, if_pos (by omega), if_neg (by omega), if_neg (by omega)]
      simp [Lib.parseUintM]
    · rw [Lib.decDigits, dif_neg h, parseUintM_app _ _ _ _ _ (ih (n / 10) (by omega) (by omega)), Lib.parseUintM, dig (n % 10) (by omega), if_pos (by omega), if_neg (by omega), if_neg (by omega)]
      simp only [Lib.parseUintM]
      congr 1; omega
theorem decDigits_all : ∀ (n : Nat), ∀ c ∈ Lib.decDigits n, 48 ≤ c.toNat ∧ c.toNat ≤ 57 := by
  intro n
  induction n using Nat.strongRecOn with
  | _ n ih =>
    intro c hc
    have dig : ∀ d, d < 10 → (UInt8.ofNat (48 + d)).toNat = 48 + d := fun d hd => by simp; omega
    by_cases h : n < 10
    · rw [Lib.decDigits, dif_pos h] at hc
      simp at hc; subst hc
      have := dig n h
      simp at this ⊢; omega
    · rw [Lib.decDigits, dif_neg h] at hc
      rcases List.mem_append.1 hc with q | q
      · exact ih (n / 10) (by omega) c q
      · simp at q; subst q
        have := dig (n % 10) (by omega)
        simp at this ⊢; omega
theorem decDigits_ne (n : Nat) : Lib.decDigits n ≠ [] := by
  rw [Lib.decDigits]; split <;> simp
theorem parse_itoa {n : Nat} (hn : n < 9223372036854775808) : Lib.parseIntB 64 (Lib.itoa (n : Int)) = .ok (n : Int) := by
  rw [Lib.itoa_nonneg]
  have hall := decDigits_all n
  have hu := parseUintM_digits n (by omega)
  cases hd : Lib.decDigits n with
  | nil => exact absurd hd (decDigits_ne n)
  | cons c r =>
    have hc := hall c (by rw [hd]; simp)
    rw [hd] at hu
    have e : Lib.parseUintB 64 (c :: r) = .ok n := by unfold Lib.parseUintB; rw [if_neg (by simp)]; exact hu
    unfold Lib.parseIntB
    simp only
    rw [if_neg (by omega), e]
    simp only
    rw [if_neg (by simp; omega), if_neg (by omega), if_neg (by omega)]
theorem readI_itoa {n : Nat} (hn : n < 9223372036854775808) : readI (Lib.itoa (n : Int)) = n := by unfold readI; rw [parse_itoa hn]
theorem rreadI_itoa {n : Nat} (hn : n < 9223372036854775808) : rreadI (Lib.itoa (n : Int)) = n := by unfold rreadI; rw [parse_itoa hn]
theorem dot_itoa (n : Nat) : (46 : UInt8) ∉ Lib.itoa (n : Int) := by
  rw [Lib.itoa_nonneg]
  intro h
  have := decDigits_all n _ h
  simp at this
end Go.Proofs.YtjhgembcdndmkaaGreatDoor.St
