import Derived.Shelf.Strings.OnBuilder
import Derived.Shelf.LaysM
import Derived.Shelf.Strconv.Itoa4
import Derived.Test.YtjhgembcdndmkaaDoorProg
import Derived.Test.YtjhgembcdndmkaaDoorRows
import Derived.KernelRfl
import Derived.WalkKit
import Derived.Outline
import Derived.OwnWalk
import Derived.IntWalk
import Derived.WalkLawsBesides
import Derived.Laws.IdiomStrings
import Derived.Lib.Hide
import Derived.Test.YtjhgembcdndmkaaDoorAmJ
/- THE WALK'S PARTS, part A: what the functions of the law compute, over the abstract machine that stands beside this text. No condition. -/
set_option linter.unusedSimpArgs false
set_option linter.unusedVariables false
/- The library's contracts at this program. -/
namespace Go.Proofs
open Go.Shelf
/-- The table's name, as the row lists it. -/
def Tryd.tabName : String := (YtjhgembcdndmkaaDoor.Rows.stampWritesRow.laid.map (·.1))[2]
def Tryd.lays156_ren : Go.Shelf.Ren := ⟨fun | 156 => 47 | 165 => 51 | 166 => 52 | 169 => 53 | 240 => 60 | 241 => 61 | 276 => 75 | 277 => 76 | n => n, fun | 31 => 62 | 9 => 9 | 3 => 3 | 4 => 4 | 0 => 0 | 20 => 20 | 72 => 78 | 76 => 80 | 70 => 76 | 37 => 29 | 75 => 73 | 127 => 86 | 164 => 103 | 5 => 5 | 80 => 82 | n => n, fun | n => n⟩
theorem Tryd.lays156 : Go.Proofs.Lays.n156 Tryd.prog Tryd.lays156_ren := {
  mixed := by kernel_rfl
  f156 := Tryd.func47.trans (congrArg some (by kernel_rfl))
  f165 := Tryd.func51.trans (congrArg some (by kernel_rfl))
  f166 := Tryd.func52.trans (congrArg some (by kernel_rfl))
  f169 := Tryd.func53.trans (congrArg some (by kernel_rfl))
  f240 := Tryd.func60.trans (congrArg some (by kernel_rfl))
  f241 := Tryd.func61.trans (congrArg some (by kernel_rfl))
  f276 := Tryd.func75.trans (congrArg some (by kernel_rfl))
  f277 := Tryd.func76.trans (congrArg some (by kernel_rfl))
  t0 := Tryd.underlying0
  a0 := Tryd.isAgg0
  z0 := Tryd.sizeOf0
  v0 := Tryd.zeroValue0
  t3 := Tryd.underlying3
  a3 := Tryd.isAgg3
  z3 := Tryd.sizeOf3
  v3 := Tryd.zeroValue3
  t4 := Tryd.underlying4
  a4 := Tryd.isAgg4
  z4 := Tryd.sizeOf4
  v4 := Tryd.zeroValue4
  t9 := Tryd.underlying9
  a9 := Tryd.isAgg9
  z9 := Tryd.sizeOf9
  v9 := Tryd.zeroValue9
  t20 := Tryd.underlying20
  a20 := Tryd.isAgg20
  z20 := Tryd.sizeOf20
  v20 := Tryd.zeroValue20
  t31 := Tryd.underlying62
  a31 := Tryd.isAgg62
  z31 := Tryd.sizeOf62
  v31 := Tryd.zeroValue62
  t37 := Tryd.underlying29
  a37 := Tryd.isAgg29
  z37 := Tryd.sizeOf29
  v37 := Tryd.zeroValue29
  t70 := Tryd.underlying76
  a70 := Tryd.isAgg76
  z70 := Tryd.sizeOf76
  v70 := Tryd.zeroValue76
  t72 := Tryd.underlying78
  a72 := Tryd.isAgg78
  z72 := Tryd.sizeOf78
  v72 := Tryd.zeroValue78
  t75 := Tryd.underlying73
  a75 := Tryd.isAgg73
  z75 := Tryd.sizeOf73
  v75 := Tryd.zeroValue73
  t76 := Tryd.underlying80
  a76 := Tryd.isAgg80
  z76 := Tryd.sizeOf80
  v76 := Tryd.zeroValue80
  t127 := Tryd.underlying86
  a127 := Tryd.isAgg86
  z127 := Tryd.sizeOf86
  v127 := Tryd.zeroValue86
  t164 := Tryd.underlying103
  a164 := Tryd.isAgg103
  z164 := Tryd.sizeOf103
  v164 := Tryd.zeroValue103 }
theorem Tryd.Builder_Extra_156 : Builder.Extra Tryd.prog Tryd.lays156_ren := {
  sizeBuilder := by kernel_rfl
  liesBuilder := by kernel_rfl
  t5 := Tryd.underlying5
  a5 := Tryd.isAgg5
  z5 := Tryd.sizeOf5
  v5 := Tryd.zeroValue5
  infoByte := by kernel_rfl
  cellsByte := by kernel_rfl
  sizeByte := by kernel_rfl
  neB5 := by decide }
open Go.RowKit in
theorem Tryd.strings_Join (bk o c : Nat) (xs : List ByteArray) (sep : ByteArray) (w : World) (hcells : ∀ (j : Nat) x, xs[j]? = some x → w.cell? ⟨bk, o + j, none⟩ = some (.string x)) (hbk : bk < w.heap.size) (hN : xs.length ≤ 140737488355328) (hcap : xs.length ≤ c) (hlen : (Lib.join (xs.map (·.data.toList)) sep.data.toList).length ≤ 140737488355328) :
    Calls Tryd.prog 47 #[.slice (some ⟨bk, o, none⟩) xs.length c, .string sep] w fun e w' => e = .returned (.string ⟨(Lib.join (xs.map (·.data.toList)) sep.data.toList).toArray⟩) ∧ Below w.heap.size w w' := Any.strings_Join Tryd.lays156 Tryd.Builder_Extra_156 bk o c xs sep w hcells hbk hN hcap hlen
def Tryd.laysM173_ren : Go.Shelf.Ren := ⟨fun | 173 => 48 | 246 => 54 | 283 => 62 | 284 => 63 | 285 => 64 | 286 => 65 | 129 => 78 | 317 => 77 | 318 => 79 | 319 => 80 | 320 => 81 | 337 => 92 | 338 => 93 | n => n, fun | 2 => 2 | 3 => 3 | 9 => 9 | 4 => 4 | 171 => 88 | 0 => 0 | 53 => 56 | 37 => 29 | 5 => 5 | 173 => 91 | 212 => 108 | 51 => 109 | 20 => 20 | 213 => 110 | 46 => 68 | 232 => 128 | 233 => 129 | n => n, fun | 17 => 0 | 18 => 6 | 19 => 7 | n => n⟩
theorem Tryd.laysM173 : Go.Proofs.LaysM.n173 Tryd.prog Tryd.laysM173_ren := {
  mixed := by kernel_rfl
  f129 := Tryd.func78.trans (congrArg some (by kernel_rfl))
  f173 := Tryd.func48.trans (congrArg some (by kernel_rfl))
  f246 := Tryd.func54.trans (congrArg some (by kernel_rfl))
  f283 := Tryd.func62.trans (congrArg some (by kernel_rfl))
  f284 := Tryd.func63.trans (congrArg some (by kernel_rfl))
  f285 := Tryd.func64.trans (congrArg some (by kernel_rfl))
  f286 := Tryd.func65.trans (congrArg some (by kernel_rfl))
  f317 := Tryd.func77.trans (congrArg some (by kernel_rfl))
  f318 := Tryd.func79.trans (congrArg some (by kernel_rfl))
  f319 := Tryd.func80.trans (congrArg some (by kernel_rfl))
  f320 := Tryd.func81.trans (congrArg some (by kernel_rfl))
  f337 := Tryd.func92.trans (congrArg some (by kernel_rfl))
  f338 := Tryd.func93.trans (congrArg some (by kernel_rfl))
  t0 := Tryd.underlying0
  a0 := Tryd.isAgg0
  z0 := Tryd.sizeOf0
  v0 := Tryd.zeroValue0
  t2 := Tryd.underlying2
  a2 := Tryd.isAgg2
  z2 := Tryd.sizeOf2
  v2 := Tryd.zeroValue2
  t3 := Tryd.underlying3
  a3 := Tryd.isAgg3
  z3 := Tryd.sizeOf3
  v3 := Tryd.zeroValue3
  t4 := Tryd.underlying4
  a4 := Tryd.isAgg4
  z4 := Tryd.sizeOf4
  v4 := Tryd.zeroValue4
  t5 := Tryd.underlying5
  a5 := Tryd.isAgg5
  z5 := Tryd.sizeOf5
  v5 := Tryd.zeroValue5
  t9 := Tryd.underlying9
  a9 := Tryd.isAgg9
  z9 := Tryd.sizeOf9
  v9 := Tryd.zeroValue9
  t20 := Tryd.underlying20
  a20 := Tryd.isAgg20
  z20 := Tryd.sizeOf20
  v20 := Tryd.zeroValue20
  t37 := Tryd.underlying29
  a37 := Tryd.isAgg29
  z37 := Tryd.sizeOf29
  v37 := Tryd.zeroValue29
  t46 := Tryd.underlying68
  a46 := Tryd.isAgg68
  z46 := Tryd.sizeOf68
  v46 := Tryd.zeroValue68
  t51 := Tryd.underlying109
  a51 := Tryd.isAgg109
  z51 := Tryd.sizeOf109
  v51 := Tryd.zeroValue109
  t53 := Tryd.underlying56
  a53 := Tryd.isAgg56
  z53 := Tryd.sizeOf56
  v53 := Tryd.zeroValue56
  t171 := Tryd.underlying88
  a171 := Tryd.isAgg88
  z171 := Tryd.sizeOf88
  v171 := Tryd.zeroValue88
  t173 := Tryd.underlying91
  a173 := Tryd.isAgg91
  z173 := Tryd.sizeOf91
  v173 := Tryd.zeroValue91
  t212 := Tryd.underlying108
  a212 := Tryd.isAgg108
  z212 := Tryd.sizeOf108
  v212 := Tryd.zeroValue108
  t213 := Tryd.underlying110
  a213 := Tryd.isAgg110
  z213 := Tryd.sizeOf110
  t232 := Tryd.underlying128
  a232 := Tryd.isAgg128
  z232 := Tryd.sizeOf128
  v232 := Tryd.zeroValue128
  t233 := Tryd.underlying129
  a233 := Tryd.isAgg129
  z233 := Tryd.sizeOf129
  v233 := Tryd.zeroValue129
  g17 := by kernel_rfl
  g18 := by kernel_rfl
  g19 := by kernel_rfl
  i0 := by kernel_rfl
  i2 := by kernel_rfl
  i3 := by kernel_rfl
  i4 := by kernel_rfl
  i5 := by kernel_rfl
  i9 := by kernel_rfl
  i20 := by kernel_rfl
  i37 := by kernel_rfl
  i46 := by kernel_rfl
  i51 := by kernel_rfl
  i53 := by kernel_rfl
  i171 := by kernel_rfl
  i173 := by kernel_rfl
  i212 := by kernel_rfl
  i232 := by kernel_rfl
  i233 := by kernel_rfl
  m17 := by kernel_rfl
  m18 := by kernel_rfl
  m19 := by kernel_rfl }
open Go.RowKit Go.Sort Go.Lib in
theorem Tryd.strconv_FormatInt_10 (n : Int) (h0 : -9223372036854775808 ≤ n) (h1 : n ≤ 9223372036854775807) (w : World) (htab : Lib.TabIs Tryd.prog w Tryd.tabName .u64 Lib.pow10Tab) :
    Calls Tryd.prog 48 #[.int .i64 n, .int .i64 10] w fun e w' => e = .returned (.string ⟨(Lib.itoa n).toArray⟩) ∧ ∃ k os, w' = grow (w.drewN k) os := Any.strconv_FormatInt_10 Tryd.laysM173 n h0 h1 w htab
end Go.Proofs

/- The code of the functions. -/
namespace Go.Proofs.YtjhgembcdndmkaaDoor.St
open Go Go.Proofs.YtjhgembcdndmkaaDoor.Am Go.Proofs

/-! (some estuary/keys.Label) -/

noncomputable def label_0 : List O := [
    ⟨(some (Pos.ofNat 2)), none, .mov (vl (.bool false)), true, 0⟩]

noncomputable def label_1 : List O := [
    ⟨(some (Pos.ofNat 5)), none, .mov (tm 0), true, 0⟩,
    ⟨(some (Pos.ofNat 6)), none, .strBytes (tm 5), true, 0⟩,
    ⟨(some (Pos.ofNat 7)), none, .lenL (tm 6), true, 0⟩,
    ⟨(some (Pos.ofNat 8)), none, .mov (vl (int64 (0))), true, 0⟩]

noncomputable def label_2 : List O := [
    ⟨(some (Pos.ofNat 9)), none, .bin .lss .other false (tm 8) (tm 7), true, 0⟩]

noncomputable def label_3 : List O := [
    ⟨(some (Pos.ofNat 10)), none, .idxAddrSl 1 (tm 6) (tm 8), true, 0⟩,
    ⟨(some (Pos.ofNat 11)), none, .load1 (tm 10), true, 0⟩,
    ⟨(some (Pos.ofNat 4)), none, .mov (tm 11), true, 0⟩]

noncomputable def label_4 : List O := [
    ⟨(some (Pos.ofNat 12)), none, .mov (tm 4), true, 0⟩,
    ⟨(some (Pos.ofNat 13)), none, .bin .lss .other true (tm 12) (vl (.int .u8 (97))), true, 0⟩,
    ⟨(some (Pos.ofNat 14)), none, .mov (tm 13), true, 0⟩,
    ⟨(some (Pos.ofNat 15)), (some ((Pos.ofNat 14), false)), .mov (tm 4), true, 0⟩,
    ⟨(some (Pos.ofNat 16)), (some ((Pos.ofNat 14), false)), .bin .gtr .other true (tm 15) (vl (.int .u8 (122))), true, 0⟩,
    ⟨(some (Pos.ofNat 17)), none, .pick (tm 14) (vl (.bool true)) (tm 16), true, 0⟩]

noncomputable def label_5 : List O := [
    ⟨(some (Pos.ofNat 2)), none, .mov (vl (.bool false)), true, 0⟩]

noncomputable def label_6 : List O := [
    ⟨(some (Pos.ofNat 18)), none, .bin .add .other true (tm 8) (vl (int64 (1))), true, 0⟩,
    ⟨(some (Pos.ofNat 8)), none, .mov (tm 18), true, 0⟩]

noncomputable def label_7 : C := (.seq (.region label_2) (.seq (.cond (tm 9) .skip (.exit 0)) (.seq (.block 1 (.seq (.region label_3) (.seq (.region label_4) (.cond (tm 17) (.seq (.region label_5) .ret) .skip)))) (.region label_6))))

noncomputable def label_8 : List O := [
    ⟨(some (Pos.ofNat 19)), none, .mov (tm 0), true, 0⟩,
    ⟨(some (Pos.ofNat 20)), none, .lenS (tm 19), true, 0⟩,
    ⟨(some (Pos.ofNat 21)), none, .bin .geq .other true (tm 20) (vl (int64 (1))), true, 0⟩,
    ⟨(some (Pos.ofNat 22)), none, .mov (tm 21), true, 0⟩,
    ⟨(some (Pos.ofNat 23)), (some ((Pos.ofNat 22), true)), .mov (tm 0), true, 0⟩,
    ⟨(some (Pos.ofNat 24)), (some ((Pos.ofNat 22), true)), .lenS (tm 23), true, 0⟩,
    ⟨(some (Pos.ofNat 25)), (some ((Pos.ofNat 22), true)), .bin .leq .other true (tm 24) (vl (int64 (12))), true, 0⟩,
    ⟨(some (Pos.ofNat 26)), none, .pick (tm 22) (tm 25) (vl (.bool false)), true, 0⟩,
    ⟨(some (Pos.ofNat 2)), none, .mov (tm 26), true, 0⟩]

noncomputable def label_fu : Fu := ⟨[.tmp (Pos.ofNat 2)], 27, (.seq (.region label_0) (.seq (.seq (.region label_1) (.block 0 (.loop label_7))) (.seq (.region label_8) .ret)))⟩

theorem label_code : compFn Tryd.prog 35 = some label_fu := by kernel_rfl

/-! (some estuary/wire.Number) -/

noncomputable def number_0 : List O := [
    ⟨(some (Pos.ofNat 2)), none, .mov (vl .nilSl), true, 0⟩]

noncomputable def number_1 : List O := [
    ⟨(some (Pos.ofNat 4)), none, .mkSl 1 1 [(.int .u8 (0))] (vl (int64 (0))) (vl (int64 (10))), true, 0⟩,
    ⟨(some (Pos.ofNat 3)), none, .mov (tm 4), true, 0⟩]

noncomputable def number_2 : List O := [
    ⟨(some (Pos.ofNat 5)), none, .mov (tm 0), true, 0⟩,
    ⟨(some (Pos.ofNat 6)), none, .bin .gtr .other true (tm 5) (vl (.int .u64 (127))), true, 0⟩]

noncomputable def number_3 : List O := [
    ⟨(some (Pos.ofNat 9)), none, .mov (tm 3), true, 0⟩,
    ⟨(some (Pos.ofNat 10)), none, .mov (tm 0), true, 0⟩,
    ⟨(some (Pos.ofNat 11)), none, .convInt .u8 (tm 10), true, 0⟩,
    ⟨(some (Pos.ofNat 12)), none, .bin .or .other true (tm 11) (vl (.int .u8 (128))), true, 0⟩,
    ⟨(some (Pos.ofNat 13)), none, .buildSl 1 1 [(.int .u8 (0))] [(0, 1, (tm 12))], true, 0⟩,
    ⟨(some (Pos.ofNat 14)), none, .append 1 0 (tm 9) (tm 13), true, 0⟩,
    ⟨(some (Pos.ofNat 3)), none, .mov (tm 14), true, 0⟩]

noncomputable def number_4 : List O := [
    ⟨(some (Pos.ofNat 7)), none, .mov (tm 0), true, 0⟩,
    ⟨(some (Pos.ofNat 8)), none, .bin .shr .other true (tm 7) (vl (.int .u64 (7))), true, 0⟩,
    ⟨(some (Pos.ofNat 0)), none, .mov (tm 8), true, 0⟩]

noncomputable def number_5 : C := (.seq (.seq (.region number_2) (.cond (tm 6) .skip (.exit 0))) (.seq (.block 1 (.region number_3)) (.region number_4)))

noncomputable def number_6 : List O := [
    ⟨(some (Pos.ofNat 15)), none, .mov (tm 3), true, 0⟩,
    ⟨(some (Pos.ofNat 16)), none, .mov (tm 0), true, 0⟩,
    ⟨(some (Pos.ofNat 17)), none, .convInt .u8 (tm 16), true, 0⟩,
    ⟨(some (Pos.ofNat 18)), none, .buildSl 1 1 [(.int .u8 (0))] [(0, 1, (tm 17))], true, 0⟩,
    ⟨(some (Pos.ofNat 19)), none, .append 1 0 (tm 15) (tm 18), true, 0⟩,
    ⟨(some (Pos.ofNat 2)), none, .mov (tm 19), true, 0⟩]

noncomputable def number_fu : Fu := ⟨[.tmp (Pos.ofNat 2)], 20, (.seq (.region number_0) (.seq (.region number_1) (.seq (.block 0 (.loop number_5)) (.seq (.region number_6) .ret))))⟩

theorem number_code : compFn Tryd.prog 30 = some number_fu := by kernel_rfl

/-! (some estuary/wire.Bytes) -/

noncomputable def bytes_0 : List O := [
    ⟨(some (Pos.ofNat 2)), none, .mov (vl .nilSl), true, 0⟩]

noncomputable def bytes_1 : List O := [
    ⟨(some (Pos.ofNat 3)), none, .mov (tm 0), true, 0⟩,
    ⟨(some (Pos.ofNat 4)), none, .lenL (tm 3), true, 0⟩,
    ⟨(some (Pos.ofNat 5)), none, .convInt .u64 (tm 4), true, 0⟩,
    ⟨(some (Pos.ofNat 6)), none, .call (.value (vl (.fn (.func 30) [] []))) [(tm 5)], true, 0⟩,
    ⟨(some (Pos.ofNat 7)), none, .mov (tm 0), true, 0⟩,
    ⟨(some (Pos.ofNat 8)), none, .append 1 0 (tm 6) (tm 7), true, 0⟩,
    ⟨(some (Pos.ofNat 2)), none, .mov (tm 8), true, 0⟩]

noncomputable def bytes_fu : Fu := ⟨[.tmp (Pos.ofNat 2)], 9, (.seq (.region bytes_0) (.seq (.region bytes_1) .ret))⟩

theorem bytes_code : compFn Tryd.prog 46 = some bytes_fu := by kernel_rfl

/-! (some estuary/wire.Join) -/

noncomputable def join_0 : List O := [
    ⟨(some (Pos.ofNat 2)), none, .mov (vl .nilSl), true, 0⟩]

noncomputable def join_1 : List O := [
    ⟨(some (Pos.ofNat 6)), none, .buildSl 0 1 [(.int .u8 (0))] [], true, 0⟩,
    ⟨(some (Pos.ofNat 3)), none, .mov (tm 6), true, 0⟩]

noncomputable def join_2 : List O := [
    ⟨(some (Pos.ofNat 7)), none, .mov (tm 0), true, 0⟩,
    ⟨(some (Pos.ofNat 8)), none, .lenL (tm 7), true, 0⟩,
    ⟨(some (Pos.ofNat 9)), none, .mov (vl (int64 (0))), true, 0⟩]

noncomputable def join_3 : List O := [
    ⟨(some (Pos.ofNat 10)), none, .bin .lss .other false (tm 9) (tm 8), true, 0⟩]

noncomputable def join_4 : List O := [
    ⟨(some (Pos.ofNat 11)), none, .idxAddrSl 1 (tm 7) (tm 9), true, 0⟩,
    ⟨(some (Pos.ofNat 12)), none, .load1 (tm 11), true, 0⟩,
    ⟨(some (Pos.ofNat 5)), none, .mov (tm 12), true, 0⟩]

noncomputable def join_5 : List O := [
    ⟨(some (Pos.ofNat 13)), none, .mov (tm 3), true, 0⟩,
    ⟨(some (Pos.ofNat 14)), none, .mov (tm 5), true, 0⟩,
    ⟨(some (Pos.ofNat 15)), none, .append 1 0 (tm 13) (tm 14), true, 0⟩,
    ⟨(some (Pos.ofNat 3)), none, .mov (tm 15), true, 0⟩]

noncomputable def join_6 : List O := [
    ⟨(some (Pos.ofNat 16)), none, .bin .add .other true (tm 9) (vl (int64 (1))), true, 0⟩,
    ⟨(some (Pos.ofNat 9)), none, .mov (tm 16), true, 0⟩]

noncomputable def join_7 : C := (.seq (.region join_3) (.seq (.cond (tm 10) .skip (.exit 0)) (.seq (.block 1 (.seq (.region join_4) (.region join_5))) (.region join_6))))

noncomputable def join_8 : List O := [
    ⟨(some (Pos.ofNat 17)), none, .mov (tm 3), true, 0⟩,
    ⟨(some (Pos.ofNat 2)), none, .mov (tm 17), true, 0⟩]

noncomputable def join_fu : Fu := ⟨[.tmp (Pos.ofNat 2)], 18, (.seq (.region join_0) (.seq (.region join_1) (.seq (.seq (.region join_2) (.block 0 (.loop join_7))) (.seq (.region join_8) .ret))))⟩

theorem join_code : compFn Tryd.prog 29 = some join_fu := by kernel_rfl

/-! (some estuary/stamp.form) -/

noncomputable def form_0 : List O := [
    ⟨(some (Pos.ofNat 1)), none, .box (tm 0), true, 0⟩,
    ⟨(some (Pos.ofNat 2)), none, .mov (vl .nilSl), true, 0⟩]

noncomputable def form_1 : List O := [
    ⟨(some (Pos.ofNat 3)), none, .fieldAddr 0 (tm 1), true, 0⟩,
    ⟨(some (Pos.ofNat 4)), none, .load1 (tm 3), true, 1⟩,
    ⟨(some (Pos.ofNat 5)), none, .convInt .u64 (tm 4), true, 3⟩,
    ⟨(some (Pos.ofNat 6)), none, .call (.value (vl (.fn (.func 30) [] []))) [(tm 5)], true, 7⟩,
    ⟨(some (Pos.ofNat 7)), none, .fieldAddr 1 (tm 1), true, 0⟩,
    ⟨(some (Pos.ofNat 8)), none, .load1 (tm 7), true, 16⟩,
    ⟨(some (Pos.ofNat 9)), none, .strBytes (tm 8), true, 48⟩,
    ⟨(some (Pos.ofNat 10)), none, .call (.value (vl (.fn (.func 46) [] []))) [(tm 9)], true, 127⟩,
    ⟨(some (Pos.ofNat 11)), none, .buildSl 2 1 [.nilSl] [(0, 1, (tm 6)), (1, 1, (tm 10))], true, 255⟩,
    ⟨(some (Pos.ofNat 12)), none, .call (.value (vl (.fn (.func 29) [] []))) [(tm 11)], true, 511⟩,
    ⟨(some (Pos.ofNat 2)), none, .mov (tm 12), true, 1023⟩]

noncomputable def form_fu : Fu := ⟨[.tmp (Pos.ofNat 2)], 13, (.seq (.region form_0) (.seq (.drawn form_1) .ret))⟩

theorem form_code : compFn Tryd.prog 31 = some form_fu := by kernel_rfl

/-! (some estuary/stamp.Branch) -/

noncomputable def branch_0 : List O := [
    ⟨(some (Pos.ofNat 1)), none, .box (tm 0), true, 0⟩,
    ⟨(some (Pos.ofNat 2)), none, .mov (vl (.bool false)), true, 0⟩]

noncomputable def branch_1 : List O := [
    ⟨(some (Pos.ofNat 3)), none, .fieldAddr 0 (tm 1), true, 0⟩,
    ⟨(some (Pos.ofNat 4)), none, .load1 (tm 3), true, 0⟩,
    ⟨(some (Pos.ofNat 5)), none, .bin .geq .other true (tm 4) (vl (int64 (0))), true, 0⟩,
    ⟨(some (Pos.ofNat 6)), none, .mov (tm 5), true, 0⟩,
    ⟨(some (Pos.ofNat 7)), (some ((Pos.ofNat 6), true)), .fieldAddr 0 (tm 1), true, 0⟩,
    ⟨(some (Pos.ofNat 8)), (some ((Pos.ofNat 6), true)), .load1 (tm 7), true, 0⟩,
    ⟨(some (Pos.ofNat 9)), (some ((Pos.ofNat 6), true)), .bin .lss .other true (tm 8) (vl (int64 (8))), true, 0⟩,
    ⟨(some (Pos.ofNat 10)), none, .pick (tm 6) (tm 9) (vl (.bool false)), true, 0⟩,
    ⟨(some (Pos.ofNat 11)), none, .mov (tm 10), true, 0⟩,
    ⟨(some (Pos.ofNat 12)), (some ((Pos.ofNat 11), true)), .fieldAddr 1 (tm 1), true, 0⟩,
    ⟨(some (Pos.ofNat 13)), (some ((Pos.ofNat 11), true)), .load1 (tm 12), true, 0⟩,
    ⟨(some (Pos.ofNat 14)), (some ((Pos.ofNat 11), true)), .call (.value (vl (.fn (.func 35) [] []))) [(tm 13)], true, 0⟩,
    ⟨(some (Pos.ofNat 15)), none, .pick (tm 11) (tm 14) (vl (.bool false)), true, 0⟩,
    ⟨(some (Pos.ofNat 2)), none, .mov (tm 15), true, 0⟩]

noncomputable def branch_fu : Fu := ⟨[.tmp (Pos.ofNat 2)], 16, (.seq (.region branch_0) (.seq (.region branch_1) .ret))⟩

theorem branch_code : compFn Tryd.prog 16 = some branch_fu := by kernel_rfl

/-! (some estuary/stamp.Name) -/

noncomputable def name_0 : List O := [
    ⟨(some (Pos.ofNat 1)), none, .box (tm 0), true, 0⟩,
    ⟨(some (Pos.ofNat 2)), none, .mov (vl (.bool false)), true, 0⟩]

noncomputable def name_1 : List O := [
    ⟨(some (Pos.ofNat 3)), none, .fieldAddr 0 (tm 1), true, 0⟩,
    ⟨(some (Pos.ofNat 4)), none, .loadN 2 (tm 3), true, 0⟩,
    ⟨(some (Pos.ofNat 5)), none, .call (.value (vl (.fn (.func 16) [] []))) [(tm 4)], true, 0⟩,
    ⟨(some (Pos.ofNat 6)), none, .mov (tm 5), true, 0⟩,
    ⟨(some (Pos.ofNat 7)), (some ((Pos.ofNat 6), true)), .fieldAddr 2 (tm 1), true, 0⟩,
    ⟨(some (Pos.ofNat 8)), (some ((Pos.ofNat 6), true)), .load1 (tm 7), true, 0⟩,
    ⟨(some (Pos.ofNat 9)), (some ((Pos.ofNat 6), true)), .bin .geq .other true (tm 8) (vl (int64 (1))), true, 0⟩,
    ⟨(some (Pos.ofNat 10)), none, .pick (tm 6) (tm 9) (vl (.bool false)), true, 0⟩,
    ⟨(some (Pos.ofNat 11)), none, .mov (tm 10), true, 0⟩,
    ⟨(some (Pos.ofNat 12)), (some ((Pos.ofNat 11), true)), .fieldAddr 2 (tm 1), true, 0⟩,
    ⟨(some (Pos.ofNat 13)), (some ((Pos.ofNat 11), true)), .load1 (tm 12), true, 0⟩,
    ⟨(some (Pos.ofNat 14)), (some ((Pos.ofNat 11), true)), .bin .leq .other true (tm 13) (vl (int64 (4611686018427387904))), true, 0⟩,
    ⟨(some (Pos.ofNat 15)), none, .pick (tm 11) (tm 14) (vl (.bool false)), true, 0⟩,
    ⟨(some (Pos.ofNat 2)), none, .mov (tm 15), true, 0⟩]

noncomputable def name_fu : Fu := ⟨[.tmp (Pos.ofNat 2)], 16, (.seq (.region name_0) (.seq (.region name_1) .ret))⟩

theorem name_code : compFn Tryd.prog 14 = some name_fu := by kernel_rfl

/-! (some estuary/stamp.Stamp) -/

noncomputable def stamp_0 : List O := [
    ⟨(some (Pos.ofNat 1)), none, .box (tm 0), true, 0⟩,
    ⟨(some (Pos.ofNat 2)), none, .mov (vl (.bool false)), true, 0⟩]

noncomputable def stamp_1 : List O := [
    ⟨(some (Pos.ofNat 3)), none, .fieldAddr 0 (tm 1), true, 0⟩,
    ⟨(some (Pos.ofNat 4)), none, .load1 (tm 3), true, 0⟩,
    ⟨(some (Pos.ofNat 5)), none, .bin .geq .other true (tm 4) (vl (int64 (1))), true, 0⟩,
    ⟨(some (Pos.ofNat 6)), none, .mov (tm 5), true, 0⟩,
    ⟨(some (Pos.ofNat 7)), (some ((Pos.ofNat 6), true)), .fieldAddr 0 (tm 1), true, 0⟩,
    ⟨(some (Pos.ofNat 8)), (some ((Pos.ofNat 6), true)), .load1 (tm 7), true, 0⟩,
    ⟨(some (Pos.ofNat 9)), (some ((Pos.ofNat 6), true)), .bin .leq .other true (tm 8) (vl (int64 (4611686018427387904))), true, 0⟩,
    ⟨(some (Pos.ofNat 10)), none, .pick (tm 6) (tm 9) (vl (.bool false)), true, 0⟩,
    ⟨(some (Pos.ofNat 11)), none, .mov (tm 10), true, 0⟩,
    ⟨(some (Pos.ofNat 12)), (some ((Pos.ofNat 11), true)), .fieldAddr 1 (tm 1), true, 0⟩,
    ⟨(some (Pos.ofNat 13)), (some ((Pos.ofNat 11), true)), .loadN 3 (tm 12), true, 0⟩,
    ⟨(some (Pos.ofNat 14)), (some ((Pos.ofNat 11), true)), .call (.value (vl (.fn (.func 14) [] []))) [(tm 13)], true, 0⟩,
    ⟨(some (Pos.ofNat 15)), none, .pick (tm 11) (tm 14) (vl (.bool false)), true, 0⟩,
    ⟨(some (Pos.ofNat 16)), none, .mov (tm 15), true, 0⟩,
    ⟨(some (Pos.ofNat 17)), (some ((Pos.ofNat 16), true)), .fieldAddr 4 (tm 1), true, 0⟩,
    ⟨(some (Pos.ofNat 18)), (some ((Pos.ofNat 16), true)), .load1 (tm 17), true, 0⟩,
    ⟨(some (Pos.ofNat 19)), (some ((Pos.ofNat 16), true)), .bin .geq .other true (tm 18) (vl (int64 (0))), true, 0⟩,
    ⟨(some (Pos.ofNat 20)), none, .pick (tm 16) (tm 19) (vl (.bool false)), true, 0⟩,
    ⟨(some (Pos.ofNat 21)), none, .mov (tm 20), true, 0⟩,
    ⟨(some (Pos.ofNat 22)), (some ((Pos.ofNat 21), true)), .fieldAddr 4 (tm 1), true, 0⟩,
    ⟨(some (Pos.ofNat 23)), (some ((Pos.ofNat 21), true)), .load1 (tm 22), true, 0⟩,
    ⟨(some (Pos.ofNat 24)), (some ((Pos.ofNat 21), true)), .bin .lss .other true (tm 23) (vl (int64 (64))), true, 0⟩,
    ⟨(some (Pos.ofNat 25)), none, .pick (tm 21) (tm 24) (vl (.bool false)), true, 0⟩,
    ⟨(some (Pos.ofNat 2)), none, .mov (tm 25), true, 0⟩]

noncomputable def stamp_fu : Fu := ⟨[.tmp (Pos.ofNat 2)], 26, (.seq (.region stamp_0) (.seq (.region stamp_1) .ret))⟩

theorem stamp_code : compFn Tryd.prog 12 = some stamp_fu := by kernel_rfl

/-! (some estuary/stamp.PutBranch) -/

noncomputable def putb_0 : List O := [
    ⟨(some (Pos.ofNat 1)), none, .box (tm 0), true, 0⟩,
    ⟨(some (Pos.ofNat 2)), none, .mov (vl .nilSl), true, 0⟩,
    ⟨(some (Pos.ofNat 3)), none, .mov (vl (int64 (0))), true, 0⟩]

noncomputable def putb_1 : List O := [
    ⟨(some (Pos.ofNat 4)), none, .loadN 2 (tm 1), true, 0⟩,
    ⟨(some (Pos.ofNat 5)), none, .call (.value (vl (.fn (.func 16) [] []))) [(tm 4)], true, 0⟩,
    ⟨(some (Pos.ofNat 6)), none, .un .not (tm 5), true, 0⟩]

noncomputable def putb_2 : List O := [
    ⟨(some (Pos.ofNat 2)), none, .mov (vl .nilSl), true, 0⟩,
    ⟨(some (Pos.ofNat 3)), none, .mov (vl (int64 (2))), true, 0⟩]

noncomputable def putb_3 : List O := [
    ⟨(some (Pos.ofNat 7)), none, .loadN 2 (tm 1), true, 0⟩,
    ⟨(some (Pos.ofNat 8)), none, .call (.value (vl (.fn (.func 31) [] []))) [(tm 7)], true, 0⟩,
    ⟨(some (Pos.ofNat 2)), none, .mov (tm 8), true, 0⟩,
    ⟨(some (Pos.ofNat 3)), none, .mov (vl (int64 (0))), true, 0⟩]

noncomputable def putb_fu : Fu := ⟨[.tmp (Pos.ofNat 2), .tmp (Pos.ofNat 3)], 9, (.seq (.region putb_0) (.seq (.seq (.region putb_1) (.cond (tm 6) (.seq (.region putb_2) .ret) .skip)) (.seq (.region putb_3) .ret)))⟩

theorem putb_code : compFn Tryd.prog 7 = some putb_fu := by kernel_rfl

/-! (some estuary/stamp.PutName) -/

noncomputable def putn_0 : List O := [
    ⟨(some (Pos.ofNat 1)), none, .box (tm 0), true, 0⟩,
    ⟨(some (Pos.ofNat 2)), none, .mov (vl .nilSl), true, 0⟩,
    ⟨(some (Pos.ofNat 3)), none, .mov (vl (int64 (0))), true, 0⟩]

noncomputable def putn_1 : List O := [
    ⟨(some (Pos.ofNat 4)), none, .loadN 3 (tm 1), true, 0⟩,
    ⟨(some (Pos.ofNat 5)), none, .call (.value (vl (.fn (.func 14) [] []))) [(tm 4)], true, 0⟩,
    ⟨(some (Pos.ofNat 6)), none, .un .not (tm 5), true, 0⟩]

noncomputable def putn_2 : List O := [
    ⟨(some (Pos.ofNat 2)), none, .mov (vl .nilSl), true, 0⟩,
    ⟨(some (Pos.ofNat 3)), none, .mov (vl (int64 (2))), true, 0⟩]

noncomputable def putn_3 : List O := [
    ⟨(some (Pos.ofNat 7)), none, .fieldAddr 0 (tm 1), true, 0⟩,
    ⟨(some (Pos.ofNat 8)), none, .loadN 2 (tm 7), true, 1⟩,
    ⟨(some (Pos.ofNat 9)), none, .call (.value (vl (.fn (.func 31) [] []))) [(tm 8)], true, 3⟩,
    ⟨(some (Pos.ofNat 10)), none, .fieldAddr 2 (tm 1), true, 0⟩,
    ⟨(some (Pos.ofNat 11)), none, .load1 (tm 10), true, 8⟩,
    ⟨(some (Pos.ofNat 12)), none, .convInt .u64 (tm 11), true, 24⟩,
    ⟨(some (Pos.ofNat 13)), none, .call (.value (vl (.fn (.func 30) [] []))) [(tm 12)], true, 63⟩,
    ⟨(some (Pos.ofNat 14)), none, .buildSl 2 1 [.nilSl] [(0, 1, (tm 9)), (1, 1, (tm 13))], true, 127⟩,
    ⟨(some (Pos.ofNat 15)), none, .call (.value (vl (.fn (.func 29) [] []))) [(tm 14)], true, 255⟩,
    ⟨(some (Pos.ofNat 2)), none, .mov (tm 15), true, 511⟩,
    ⟨(some (Pos.ofNat 3)), none, .mov (vl (int64 (0))), true, 1023⟩]

noncomputable def putn_fu : Fu := ⟨[.tmp (Pos.ofNat 2), .tmp (Pos.ofNat 3)], 16, (.seq (.region putn_0) (.seq (.seq (.region putn_1) (.cond (tm 6) (.seq (.region putn_2) .ret) .skip)) (.seq (.drawn putn_3) .ret)))⟩

theorem putn_code : compFn Tryd.prog 6 = some putn_fu := by kernel_rfl

/-! (some estuary/stamp.Put) -/

noncomputable def put_0 : List O := [
    ⟨(some (Pos.ofNat 1)), none, .box (tm 0), true, 0⟩,
    ⟨(some (Pos.ofNat 2)), none, .mov (vl .nilSl), true, 0⟩,
    ⟨(some (Pos.ofNat 3)), none, .mov (vl (int64 (0))), true, 0⟩]

noncomputable def put_1 : List O := [
    ⟨(some (Pos.ofNat 6)), none, .loadN 5 (tm 1), true, 0⟩,
    ⟨(some (Pos.ofNat 7)), none, .call (.value (vl (.fn (.func 12) [] []))) [(tm 6)], true, 0⟩,
    ⟨(some (Pos.ofNat 8)), none, .un .not (tm 7), true, 0⟩]

noncomputable def put_2 : List O := [
    ⟨(some (Pos.ofNat 2)), none, .mov (vl .nilSl), true, 0⟩,
    ⟨(some (Pos.ofNat 3)), none, .mov (vl (int64 (2))), true, 0⟩]

noncomputable def put_3 : List O := [
    ⟨(some (Pos.ofNat 10)), none, .fieldAddr 1 (tm 1), true, 0⟩,
    ⟨(some (Pos.ofNat 11)), none, .loadN 3 (tm 10), true, 0⟩,
    ⟨(some (Pos.ofNat 12)), none, .call (.value (vl (.fn (.func 6) [] []))) [(tm 11)], true, 0⟩,
    ⟨(some (Pos.ofNat 9)), none, .mov (tm 12), true, 0⟩,
    ⟨(some (Pos.ofNat 13)), none, .extract (tm 9) 0, true, 0⟩,
    ⟨(some (Pos.ofNat 14)), none, .extract (tm 9) 1, true, 0⟩,
    ⟨(some (Pos.ofNat 4)), none, .mov (tm 13), true, 0⟩,
    ⟨(some (Pos.ofNat 5)), none, .mov (tm 14), true, 0⟩]

noncomputable def put_4 : List O := [
    ⟨(some (Pos.ofNat 15)), none, .fieldAddr 0 (tm 1), true, 0⟩,
    ⟨(some (Pos.ofNat 16)), none, .load1 (tm 15), true, 1⟩,
    ⟨(some (Pos.ofNat 17)), none, .convInt .u64 (tm 16), true, 3⟩,
    ⟨(some (Pos.ofNat 18)), none, .call (.value (vl (.fn (.func 30) [] []))) [(tm 17)], true, 7⟩,
    ⟨(some (Pos.ofNat 19)), none, .mov (tm 4), true, 0⟩,
    ⟨(some (Pos.ofNat 20)), none, .fieldAddr 4 (tm 1), true, 0⟩,
    ⟨(some (Pos.ofNat 21)), none, .load1 (tm 20), true, 32⟩,
    ⟨(some (Pos.ofNat 22)), none, .convInt .u64 (tm 21), true, 96⟩,
    ⟨(some (Pos.ofNat 23)), none, .call (.value (vl (.fn (.func 30) [] []))) [(tm 22)], true, 239⟩,
    ⟨(some (Pos.ofNat 24)), none, .buildSl 3 1 [.nilSl] [(0, 1, (tm 18)), (1, 1, (tm 19)), (2, 1, (tm 23))], true, 511⟩,
    ⟨(some (Pos.ofNat 25)), none, .call (.value (vl (.fn (.func 29) [] []))) [(tm 24)], true, 1023⟩,
    ⟨(some (Pos.ofNat 2)), none, .mov (tm 25), true, 2047⟩,
    ⟨(some (Pos.ofNat 3)), none, .mov (vl (int64 (0))), true, 4095⟩]

noncomputable def put_fu : Fu := ⟨[.tmp (Pos.ofNat 2), .tmp (Pos.ofNat 3)], 26, (.seq (.region put_0) (.seq (.seq (.region put_1) (.cond (tm 8) (.seq (.region put_2) .ret) .skip)) (.seq (.region put_3) (.seq (.drawn put_4) .ret))))⟩

theorem put_code : compFn Tryd.prog 5 = some put_fu := by kernel_rfl

/-! (some estuary/stamp.digits) -/

noncomputable def digits_0 : List O := [
    ⟨(some (Pos.ofNat 2)), none, .mov (vl (.str 0 0)), true, 0⟩]

noncomputable def digits_1 : List O := [
    ⟨(some (Pos.ofNat 3)), none, .mov (tm 0), true, 0⟩,
    ⟨(some (Pos.ofNat 4)), none, .call (.value (vl (.fn (.func 48) [] []))) [(tm 3), (vl (int64 (10)))], true, 0⟩,
    ⟨(some (Pos.ofNat 2)), none, .mov (tm 4), true, 0⟩]

noncomputable def digits_fu : Fu := ⟨[.tmp (Pos.ofNat 2)], 5, (.seq (.region digits_0) (.seq (.region digits_1) .ret))⟩

theorem digits_code : compFn Tryd.prog 33 = some digits_fu := by kernel_rfl

/-! (some estuary/stamp.text) -/

noncomputable def text_0 : List O := [
    ⟨(some (Pos.ofNat 2)), none, .mov (vl (.str 0 0)), true, 0⟩]

noncomputable def text_1 : List O := [
    ⟨(some (Pos.ofNat 3)), none, .mov (tm 0), true, 0⟩,
    ⟨(some (Pos.ofNat 4)), none, .call (.value (vl (.fn (.func 47) [] []))) [(tm 3), (vl (.str 1 46))], true, 0⟩,
    ⟨(some (Pos.ofNat 2)), none, .mov (tm 4), true, 0⟩]

noncomputable def text_fu : Fu := ⟨[.tmp (Pos.ofNat 2)], 5, (.seq (.region text_0) (.seq (.region text_1) .ret))⟩

theorem text_code : compFn Tryd.prog 32 = some text_fu := by kernel_rfl

/-! (some estuary/stamp.TextBranch) -/

noncomputable def textb_0 : List O := [
    ⟨(some (Pos.ofNat 1)), none, .box (tm 0), true, 0⟩,
    ⟨(some (Pos.ofNat 2)), none, .mov (vl (.str 0 0)), true, 0⟩,
    ⟨(some (Pos.ofNat 3)), none, .mov (vl (int64 (0))), true, 0⟩]

noncomputable def textb_1 : List O := [
    ⟨(some (Pos.ofNat 4)), none, .loadN 2 (tm 1), true, 0⟩,
    ⟨(some (Pos.ofNat 5)), none, .call (.value (vl (.fn (.func 16) [] []))) [(tm 4)], true, 0⟩,
    ⟨(some (Pos.ofNat 6)), none, .un .not (tm 5), true, 0⟩]

noncomputable def textb_2 : List O := [
    ⟨(some (Pos.ofNat 2)), none, .mov (vl (.str 0 0)), true, 0⟩,
    ⟨(some (Pos.ofNat 3)), none, .mov (vl (int64 (2))), true, 0⟩]

noncomputable def textb_3 : List O := [
    ⟨(some (Pos.ofNat 7)), none, .fieldAddr 0 (tm 1), true, 0⟩,
    ⟨(some (Pos.ofNat 8)), none, .load1 (tm 7), true, 1⟩,
    ⟨(some (Pos.ofNat 9)), none, .call (.value (vl (.fn (.func 33) [] []))) [(tm 8)], true, 3⟩,
    ⟨(some (Pos.ofNat 10)), none, .fieldAddr 1 (tm 1), true, 0⟩,
    ⟨(some (Pos.ofNat 11)), none, .load1 (tm 10), true, 8⟩,
    ⟨(some (Pos.ofNat 12)), none, .buildSl 2 1 [(.str 0 0)] [(0, 1, (tm 9)), (1, 1, (tm 11))], true, 31⟩,
    ⟨(some (Pos.ofNat 13)), none, .call (.value (vl (.fn (.func 32) [] []))) [(tm 12)], true, 63⟩,
    ⟨(some (Pos.ofNat 2)), none, .mov (tm 13), true, 127⟩,
    ⟨(some (Pos.ofNat 3)), none, .mov (vl (int64 (0))), true, 255⟩]

noncomputable def textb_fu : Fu := ⟨[.tmp (Pos.ofNat 2), .tmp (Pos.ofNat 3)], 14, (.seq (.region textb_0) (.seq (.seq (.region textb_1) (.cond (tm 6) (.seq (.region textb_2) .ret) .skip)) (.seq (.drawn textb_3) .ret)))⟩

theorem textb_code : compFn Tryd.prog 10 = some textb_fu := by kernel_rfl

/-! (some estuary/stamp.TextName) -/

noncomputable def textn_0 : List O := [
    ⟨(some (Pos.ofNat 1)), none, .box (tm 0), true, 0⟩,
    ⟨(some (Pos.ofNat 2)), none, .mov (vl (.str 0 0)), true, 0⟩,
    ⟨(some (Pos.ofNat 3)), none, .mov (vl (int64 (0))), true, 0⟩]

noncomputable def textn_1 : List O := [
    ⟨(some (Pos.ofNat 6)), none, .loadN 3 (tm 1), true, 0⟩,
    ⟨(some (Pos.ofNat 7)), none, .call (.value (vl (.fn (.func 14) [] []))) [(tm 6)], true, 0⟩,
    ⟨(some (Pos.ofNat 8)), none, .un .not (tm 7), true, 0⟩]

noncomputable def textn_2 : List O := [
    ⟨(some (Pos.ofNat 2)), none, .mov (vl (.str 0 0)), true, 0⟩,
    ⟨(some (Pos.ofNat 3)), none, .mov (vl (int64 (2))), true, 0⟩]

noncomputable def textn_3 : List O := [
    ⟨(some (Pos.ofNat 10)), none, .fieldAddr 0 (tm 1), true, 0⟩,
    ⟨(some (Pos.ofNat 11)), none, .loadN 2 (tm 10), true, 0⟩,
    ⟨(some (Pos.ofNat 12)), none, .call (.value (vl (.fn (.func 10) [] []))) [(tm 11)], true, 0⟩,
    ⟨(some (Pos.ofNat 9)), none, .mov (tm 12), true, 0⟩,
    ⟨(some (Pos.ofNat 13)), none, .extract (tm 9) 0, true, 0⟩,
    ⟨(some (Pos.ofNat 14)), none, .extract (tm 9) 1, true, 0⟩,
    ⟨(some (Pos.ofNat 4)), none, .mov (tm 13), true, 0⟩,
    ⟨(some (Pos.ofNat 5)), none, .mov (tm 14), true, 0⟩]

noncomputable def textn_4 : List O := [
    ⟨(some (Pos.ofNat 15)), none, .mov (tm 4), true, 0⟩,
    ⟨(some (Pos.ofNat 16)), none, .fieldAddr 2 (tm 1), true, 0⟩,
    ⟨(some (Pos.ofNat 17)), none, .load1 (tm 16), true, 0⟩,
    ⟨(some (Pos.ofNat 18)), none, .call (.value (vl (.fn (.func 33) [] []))) [(tm 17)], true, 0⟩,
    ⟨(some (Pos.ofNat 19)), none, .buildSl 2 1 [(.str 0 0)] [(0, 1, (tm 15)), (1, 1, (tm 18))], true, 0⟩,
    ⟨(some (Pos.ofNat 20)), none, .call (.value (vl (.fn (.func 32) [] []))) [(tm 19)], true, 0⟩,
    ⟨(some (Pos.ofNat 2)), none, .mov (tm 20), true, 0⟩,
    ⟨(some (Pos.ofNat 3)), none, .mov (vl (int64 (0))), true, 0⟩]

noncomputable def textn_fu : Fu := ⟨[.tmp (Pos.ofNat 2), .tmp (Pos.ofNat 3)], 21, (.seq (.region textn_0) (.seq (.seq (.region textn_1) (.cond (tm 8) (.seq (.region textn_2) .ret) .skip)) (.seq (.region textn_3) (.seq (.region textn_4) .ret))))⟩

theorem textn_code : compFn Tryd.prog 9 = some textn_fu := by kernel_rfl

/-! (some estuary/stamp.Text) -/

noncomputable def texts_0 : List O := [
    ⟨(some (Pos.ofNat 1)), none, .box (tm 0), true, 0⟩,
    ⟨(some (Pos.ofNat 2)), none, .mov (vl (.str 0 0)), true, 0⟩,
    ⟨(some (Pos.ofNat 3)), none, .mov (vl (int64 (0))), true, 0⟩]

noncomputable def texts_1 : List O := [
    ⟨(some (Pos.ofNat 6)), none, .loadN 5 (tm 1), true, 0⟩,
    ⟨(some (Pos.ofNat 7)), none, .call (.value (vl (.fn (.func 12) [] []))) [(tm 6)], true, 0⟩,
    ⟨(some (Pos.ofNat 8)), none, .un .not (tm 7), true, 0⟩]

noncomputable def texts_2 : List O := [
    ⟨(some (Pos.ofNat 2)), none, .mov (vl (.str 0 0)), true, 0⟩,
    ⟨(some (Pos.ofNat 3)), none, .mov (vl (int64 (2))), true, 0⟩]

noncomputable def texts_3 : List O := [
    ⟨(some (Pos.ofNat 10)), none, .fieldAddr 1 (tm 1), true, 0⟩,
    ⟨(some (Pos.ofNat 11)), none, .loadN 3 (tm 10), true, 0⟩,
    ⟨(some (Pos.ofNat 12)), none, .call (.value (vl (.fn (.func 9) [] []))) [(tm 11)], true, 0⟩,
    ⟨(some (Pos.ofNat 9)), none, .mov (tm 12), true, 0⟩,
    ⟨(some (Pos.ofNat 13)), none, .extract (tm 9) 0, true, 0⟩,
    ⟨(some (Pos.ofNat 14)), none, .extract (tm 9) 1, true, 0⟩,
    ⟨(some (Pos.ofNat 4)), none, .mov (tm 13), true, 0⟩,
    ⟨(some (Pos.ofNat 5)), none, .mov (tm 14), true, 0⟩]

noncomputable def texts_4 : List O := [
    ⟨(some (Pos.ofNat 15)), none, .fieldAddr 0 (tm 1), true, 0⟩,
    ⟨(some (Pos.ofNat 16)), none, .load1 (tm 15), true, 1⟩,
    ⟨(some (Pos.ofNat 17)), none, .call (.value (vl (.fn (.func 33) [] []))) [(tm 16)], true, 3⟩,
    ⟨(some (Pos.ofNat 18)), none, .mov (tm 4), true, 0⟩,
    ⟨(some (Pos.ofNat 19)), none, .fieldAddr 4 (tm 1), true, 0⟩,
    ⟨(some (Pos.ofNat 20)), none, .load1 (tm 19), true, 16⟩,
    ⟨(some (Pos.ofNat 21)), none, .call (.value (vl (.fn (.func 33) [] []))) [(tm 20)], true, 55⟩,
    ⟨(some (Pos.ofNat 22)), none, .buildSl 3 1 [(.str 0 0)] [(0, 1, (tm 17)), (1, 1, (tm 18)), (2, 1, (tm 21))], true, 127⟩,
    ⟨(some (Pos.ofNat 23)), none, .call (.value (vl (.fn (.func 32) [] []))) [(tm 22)], true, 255⟩,
    ⟨(some (Pos.ofNat 2)), none, .mov (tm 23), true, 511⟩,
    ⟨(some (Pos.ofNat 3)), none, .mov (vl (int64 (0))), true, 1023⟩]

noncomputable def texts_fu : Fu := ⟨[.tmp (Pos.ofNat 2), .tmp (Pos.ofNat 3)], 24, (.seq (.region texts_0) (.seq (.seq (.region texts_1) (.cond (tm 8) (.seq (.region texts_2) .ret) .skip)) (.seq (.region texts_3) (.seq (.drawn texts_4) .ret))))⟩

theorem texts_code : compFn Tryd.prog 8 = some texts_fu := by kernel_rfl

/-! (some estuary/stamp.eight) -/

noncomputable def eight_0 : List O := [
    ⟨(some (Pos.ofNat 2)), none, .mov (vl .nilSl), true, 0⟩]

noncomputable def eight_1 : List O := [
    ⟨(some (Pos.ofNat 5)), none, .mkSl 1 1 [(.int .u8 (0))] (vl (int64 (8))) (vl (int64 (8))), true, 0⟩,
    ⟨(some (Pos.ofNat 3)), none, .mov (tm 5), true, 0⟩]

noncomputable def eight_2 : List O := [
    ⟨(some (Pos.ofNat 6)), none, .mov (tm 3), true, 0⟩,
    ⟨(some (Pos.ofNat 7)), none, .lenL (tm 6), true, 0⟩,
    ⟨(some (Pos.ofNat 8)), none, .mov (vl (int64 (0))), true, 0⟩]

noncomputable def eight_3 : List O := [
    ⟨(some (Pos.ofNat 9)), none, .bin .lss .other false (tm 8) (tm 7), true, 0⟩]

noncomputable def eight_4 : List O := [
    ⟨(some (Pos.ofNat 10)), none, .mov (tm 8), true, 0⟩,
    ⟨(some (Pos.ofNat 4)), none, .mov (tm 10), true, 0⟩]

noncomputable def eight_5 : List O := [
    ⟨(some (Pos.ofNat 11)), none, .mov (tm 3), true, 0⟩,
    ⟨(some (Pos.ofNat 12)), none, .mov (tm 4), true, 0⟩,
    ⟨(some (Pos.ofNat 13)), none, .mov (tm 0), true, 0⟩,
    ⟨(some (Pos.ofNat 14)), none, .mov (tm 4), true, 0⟩,
    ⟨(some (Pos.ofNat 15)), none, .bin .mul .other true (vl (int64 (8))) (tm 14), true, 0⟩,
    ⟨(some (Pos.ofNat 16)), none, .bin .sub .other true (vl (int64 (56))) (tm 15), true, 0⟩,
    ⟨(some (Pos.ofNat 17)), none, .bin .shr .other false (tm 13) (tm 16), true, 0⟩,
    ⟨(some (Pos.ofNat 18)), none, .convInt .u8 (tm 17), true, 0⟩,
    ⟨(some (Pos.ofNat 19)), none, .idxAddrSl 1 (tm 11) (tm 12), true, 0⟩,
    ⟨none, none, .store 1 (tm 19) (tm 18), true, 0⟩]

noncomputable def eight_6 : List O := [
    ⟨(some (Pos.ofNat 20)), none, .bin .add .other true (tm 8) (vl (int64 (1))), true, 0⟩,
    ⟨(some (Pos.ofNat 8)), none, .mov (tm 20), true, 0⟩]

noncomputable def eight_7 : C := (.seq (.region eight_3) (.seq (.cond (tm 9) .skip (.exit 0)) (.seq (.block 1 (.seq (.region eight_4) (.region eight_5))) (.region eight_6))))

noncomputable def eight_8 : List O := [
    ⟨(some (Pos.ofNat 21)), none, .mov (tm 3), true, 0⟩,
    ⟨(some (Pos.ofNat 2)), none, .mov (tm 21), true, 0⟩]

noncomputable def eight_fu : Fu := ⟨[.tmp (Pos.ofNat 2)], 22, (.seq (.region eight_0) (.seq (.region eight_1) (.seq (.seq (.region eight_2) (.block 0 (.loop eight_7))) (.seq (.region eight_8) .ret))))⟩

theorem eight_code : compFn Tryd.prog 34 = some eight_fu := by kernel_rfl

/-! (some estuary/stamp.Key) -/

noncomputable def key_0 : List O := [
    ⟨(some (Pos.ofNat 1)), none, .box (tm 0), true, 0⟩,
    ⟨(some (Pos.ofNat 2)), none, .mov (vl (.str 0 0)), true, 0⟩,
    ⟨(some (Pos.ofNat 3)), none, .mov (vl (int64 (0))), true, 0⟩]

noncomputable def key_1 : List O := [
    ⟨(some (Pos.ofNat 5)), none, .loadN 5 (tm 1), true, 0⟩,
    ⟨(some (Pos.ofNat 6)), none, .call (.value (vl (.fn (.func 12) [] []))) [(tm 5)], true, 0⟩,
    ⟨(some (Pos.ofNat 7)), none, .un .not (tm 6), true, 0⟩]

noncomputable def key_2 : List O := [
    ⟨(some (Pos.ofNat 2)), none, .mov (vl (.str 0 0)), true, 0⟩,
    ⟨(some (Pos.ofNat 3)), none, .mov (vl (int64 (2))), true, 0⟩]

noncomputable def key_3 : List O := [
    ⟨(some (Pos.ofNat 8)), none, .fieldAddr 1 (tm 1), true, 0⟩,
    ⟨(some (Pos.ofNat 9)), none, .fieldAddr 0 (tm 8), true, 0⟩,
    ⟨(some (Pos.ofNat 10)), none, .loadN 2 (tm 9), true, 0⟩,
    ⟨(some (Pos.ofNat 4)), none, .new [(int64 (0)), (.str 0 0)], true, 0⟩,
    ⟨none, none, .store 2 (tm 4) (tm 10), true, 0⟩]

noncomputable def key_4 : List O := [
    ⟨(some (Pos.ofNat 11)), none, .fieldAddr 0 (tm 1), true, 0⟩,
    ⟨(some (Pos.ofNat 12)), none, .load1 (tm 11), true, 1⟩,
    ⟨(some (Pos.ofNat 13)), none, .call (.value (vl (.fn (.func 34) [] []))) [(tm 12)], true, 3⟩,
    ⟨(some (Pos.ofNat 14)), none, .fieldAddr 0 (tm 4), true, 0⟩,
    ⟨(some (Pos.ofNat 15)), none, .load1 (tm 14), true, 8⟩,
    ⟨(some (Pos.ofNat 16)), none, .convInt .u8 (tm 15), true, 24⟩,
    ⟨(some (Pos.ofNat 17)), none, .buildSl 1 1 [(.int .u8 (0))] [(0, 1, (tm 16))], true, 56⟩,
    ⟨(some (Pos.ofNat 18)), none, .fieldAddr 1 (tm 4), true, 0⟩,
    ⟨(some (Pos.ofNat 19)), none, .load1 (tm 18), true, 128⟩,
    ⟨(some (Pos.ofNat 20)), none, .strBytes (tm 19), true, 384⟩,
    ⟨(some (Pos.ofNat 21)), none, .buildSl 1 1 [(.int .u8 (0))] [(0, 1, (vl (.int .u8 (0))))], true, 0⟩,
    ⟨(some (Pos.ofNat 22)), none, .fieldAddr 1 (tm 1), true, 0⟩,
    ⟨(some (Pos.ofNat 23)), none, .fieldAddr 2 (tm 22), true, 2048⟩,
    ⟨(some (Pos.ofNat 24)), none, .load1 (tm 23), true, 6144⟩,
    ⟨(some (Pos.ofNat 25)), none, .call (.value (vl (.fn (.func 34) [] []))) [(tm 24)], true, 14343⟩,
    ⟨(some (Pos.ofNat 26)), none, .fieldAddr 4 (tm 1), true, 0⟩,
    ⟨(some (Pos.ofNat 27)), none, .load1 (tm 26), true, 32768⟩,
    ⟨(some (Pos.ofNat 28)), none, .convInt .u8 (tm 27), true, 98304⟩,
    ⟨(some (Pos.ofNat 29)), none, .buildSl 1 1 [(.int .u8 (0))] [(0, 1, (tm 28))], true, 229376⟩,
    ⟨(some (Pos.ofNat 30)), none, .buildSl 6 1 [.nilSl] [(0, 1, (tm 13)), (1, 1, (tm 17)), (2, 1, (tm 20)), (3, 1, (tm 21)), (4, 1, (tm 25)), (5, 1, (tm 29))], true, 524287⟩,
    ⟨(some (Pos.ofNat 31)), none, .call (.value (vl (.fn (.func 29) [] []))) [(tm 30)], true, 1048575⟩,
    ⟨(some (Pos.ofNat 32)), none, .bytesStr (tm 31), true, 2097151⟩,
    ⟨(some (Pos.ofNat 2)), none, .mov (tm 32), true, 4194303⟩,
    ⟨(some (Pos.ofNat 3)), none, .mov (vl (int64 (0))), true, 8388607⟩]

noncomputable def key_fu : Fu := ⟨[.tmp (Pos.ofNat 2), .tmp (Pos.ofNat 3)], 33, (.seq (.region key_0) (.seq (.seq (.region key_1) (.cond (tm 7) (.seq (.region key_2) .ret) .skip)) (.seq (.region key_3) (.seq (.drawn key_4) .ret))))⟩

theorem key_code : compFn Tryd.prog 11 = some key_fu := by kernel_rfl

/-! (some estuary/estuaryref05.Label) -/

noncomputable def rlabel_0 : List O := [
    ⟨(some (Pos.ofNat 2)), none, .mov (vl (.bool false)), true, 0⟩]

noncomputable def rlabel_1 : List O := [
    ⟨(some (Pos.ofNat 3)), none, .mov (vl (int64 (0))), true, 0⟩]

noncomputable def rlabel_2 : List O := [
    ⟨(some (Pos.ofNat 4)), none, .mov (tm 3), true, 0⟩,
    ⟨(some (Pos.ofNat 5)), none, .mov (tm 0), true, 0⟩,
    ⟨(some (Pos.ofNat 6)), none, .lenS (tm 5), true, 0⟩,
    ⟨(some (Pos.ofNat 7)), none, .bin .lss .other false (tm 4) (tm 6), true, 0⟩]

noncomputable def rlabel_3 : List O := [
    ⟨(some (Pos.ofNat 10)), none, .mov (tm 0), true, 0⟩,
    ⟨(some (Pos.ofNat 11)), none, .mov (tm 3), true, 0⟩,
    ⟨(some (Pos.ofNat 12)), none, .idxStr (tm 10) (tm 11), true, 0⟩,
    ⟨(some (Pos.ofNat 13)), none, .bin .lss .other true (tm 12) (vl (.int .u8 (97))), true, 0⟩,
    ⟨(some (Pos.ofNat 14)), none, .mov (tm 13), true, 0⟩,
    ⟨(some (Pos.ofNat 15)), (some ((Pos.ofNat 14), false)), .mov (tm 0), true, 0⟩,
    ⟨(some (Pos.ofNat 16)), (some ((Pos.ofNat 14), false)), .mov (tm 3), true, 0⟩,
    ⟨(some (Pos.ofNat 17)), (some ((Pos.ofNat 14), false)), .idxStr (tm 15) (tm 16), true, 0⟩,
    ⟨(some (Pos.ofNat 18)), (some ((Pos.ofNat 14), false)), .bin .gtr .other true (tm 17) (vl (.int .u8 (122))), true, 0⟩,
    ⟨(some (Pos.ofNat 19)), none, .pick (tm 14) (vl (.bool true)) (tm 18), true, 0⟩]

noncomputable def rlabel_4 : List O := [
    ⟨(some (Pos.ofNat 2)), none, .mov (vl (.bool false)), true, 0⟩]

noncomputable def rlabel_5 : List O := [
    ⟨(some (Pos.ofNat 8)), none, .mov (tm 3), true, 0⟩,
    ⟨(some (Pos.ofNat 9)), none, .bin .add .other true (tm 8) (vl (int64 (1))), true, 0⟩,
    ⟨(some (Pos.ofNat 3)), none, .mov (tm 9), true, 0⟩]

noncomputable def rlabel_6 : C := (.seq (.seq (.region rlabel_2) (.cond (tm 7) .skip (.exit 0))) (.seq (.block 1 (.seq (.region rlabel_3) (.cond (tm 19) (.seq (.region rlabel_4) .ret) .skip))) (.region rlabel_5)))

noncomputable def rlabel_7 : List O := [
    ⟨(some (Pos.ofNat 20)), none, .mov (tm 0), true, 0⟩,
    ⟨(some (Pos.ofNat 21)), none, .lenS (tm 20), true, 0⟩,
    ⟨(some (Pos.ofNat 22)), none, .bin .geq .other true (tm 21) (vl (int64 (1))), true, 0⟩,
    ⟨(some (Pos.ofNat 23)), none, .mov (tm 22), true, 0⟩,
    ⟨(some (Pos.ofNat 24)), (some ((Pos.ofNat 23), true)), .mov (tm 0), true, 0⟩,
    ⟨(some (Pos.ofNat 25)), (some ((Pos.ofNat 23), true)), .lenS (tm 24), true, 0⟩,
    ⟨(some (Pos.ofNat 26)), (some ((Pos.ofNat 23), true)), .bin .leq .other true (tm 25) (vl (int64 (12))), true, 0⟩,
    ⟨(some (Pos.ofNat 27)), none, .pick (tm 23) (tm 26) (vl (.bool false)), true, 0⟩,
    ⟨(some (Pos.ofNat 2)), none, .mov (tm 27), true, 0⟩]

noncomputable def rlabel_fu : Fu := ⟨[.tmp (Pos.ofNat 2)], 28, (.seq (.region rlabel_0) (.seq (.seq (.region rlabel_1) (.block 0 (.loop rlabel_6))) (.seq (.region rlabel_7) .ret)))⟩

theorem rlabel_code : compFn Tryd.prog 36 = some rlabel_fu := by kernel_rfl

/-! (some estuary/estuaryref01.Number) -/

noncomputable def rnumber_0 : List O := [
    ⟨(some (Pos.ofNat 2)), none, .mov (vl .nilSl), true, 0⟩]

noncomputable def rnumber_1 : List O := [
    ⟨(some (Pos.ofNat 3)), none, .mov (vl .nilSl), true, 0⟩]

noncomputable def rnumber_2 : List O := [
    ⟨(some (Pos.ofNat 4)), none, .mov (tm 0), true, 0⟩,
    ⟨(some (Pos.ofNat 5)), none, .bin .gtr .other true (tm 4) (vl (.int .u64 (127))), true, 0⟩]

noncomputable def rnumber_3 : List O := [
    ⟨(some (Pos.ofNat 6)), none, .mov (tm 3), true, 0⟩,
    ⟨(some (Pos.ofNat 7)), none, .mov (tm 0), true, 0⟩,
    ⟨(some (Pos.ofNat 8)), none, .bin .rem .other true (tm 7) (vl (.int .u64 (128))), true, 0⟩,
    ⟨(some (Pos.ofNat 9)), none, .bin .add .other true (tm 8) (vl (.int .u64 (128))), true, 0⟩,
    ⟨(some (Pos.ofNat 10)), none, .convInt .u8 (tm 9), true, 0⟩,
    ⟨(some (Pos.ofNat 11)), none, .buildSl 1 1 [(.int .u8 (0))] [(0, 1, (tm 10))], true, 0⟩,
    ⟨(some (Pos.ofNat 12)), none, .append 1 0 (tm 6) (tm 11), true, 0⟩,
    ⟨(some (Pos.ofNat 3)), none, .mov (tm 12), true, 0⟩]

noncomputable def rnumber_4 : List O := [
    ⟨(some (Pos.ofNat 13)), none, .mov (tm 0), true, 0⟩,
    ⟨(some (Pos.ofNat 14)), none, .bin .quo .other true (tm 13) (vl (.int .u64 (128))), true, 0⟩,
    ⟨(some (Pos.ofNat 0)), none, .mov (tm 14), true, 0⟩]

noncomputable def rnumber_5 : C := (.seq (.seq (.region rnumber_2) (.cond (tm 5) .skip (.exit 0))) (.block 1 (.seq (.region rnumber_3) (.region rnumber_4))))

noncomputable def rnumber_6 : List O := [
    ⟨(some (Pos.ofNat 15)), none, .mov (tm 3), true, 0⟩,
    ⟨(some (Pos.ofNat 16)), none, .mov (tm 0), true, 0⟩,
    ⟨(some (Pos.ofNat 17)), none, .convInt .u8 (tm 16), true, 0⟩,
    ⟨(some (Pos.ofNat 18)), none, .buildSl 1 1 [(.int .u8 (0))] [(0, 1, (tm 17))], true, 0⟩,
    ⟨(some (Pos.ofNat 19)), none, .append 1 0 (tm 15) (tm 18), true, 0⟩,
    ⟨(some (Pos.ofNat 2)), none, .mov (tm 19), true, 0⟩]

noncomputable def rnumber_fu : Fu := ⟨[.tmp (Pos.ofNat 2)], 20, (.seq (.region rnumber_0) (.seq (.region rnumber_1) (.seq (.block 0 (.loop rnumber_5)) (.seq (.region rnumber_6) .ret))))⟩

theorem rnumber_code : compFn Tryd.prog 37 = some rnumber_fu := by kernel_rfl

/-! (some estuary/estuaryref01.Bytes) -/

noncomputable def rbytes_0 : List O := [
    ⟨(some (Pos.ofNat 2)), none, .mov (vl .nilSl), true, 0⟩]

noncomputable def rbytes_1 : List O := [
    ⟨(some (Pos.ofNat 3)), none, .mov (tm 0), true, 0⟩,
    ⟨(some (Pos.ofNat 4)), none, .lenL (tm 3), true, 0⟩,
    ⟨(some (Pos.ofNat 5)), none, .convInt .u64 (tm 4), true, 0⟩,
    ⟨(some (Pos.ofNat 6)), none, .call (.value (vl (.fn (.func 37) [] []))) [(tm 5)], true, 0⟩,
    ⟨(some (Pos.ofNat 7)), none, .mov (tm 0), true, 0⟩,
    ⟨(some (Pos.ofNat 8)), none, .append 1 0 (tm 6) (tm 7), true, 0⟩,
    ⟨(some (Pos.ofNat 2)), none, .mov (tm 8), true, 0⟩]

noncomputable def rbytes_fu : Fu := ⟨[.tmp (Pos.ofNat 2)], 9, (.seq (.region rbytes_0) (.seq (.region rbytes_1) .ret))⟩

theorem rbytes_code : compFn Tryd.prog 40 = some rbytes_fu := by kernel_rfl

/-! (some estuary/estuaryref06.Branch) -/

noncomputable def rbranch_0 : List O := [
    ⟨(some (Pos.ofNat 1)), none, .box (tm 0), true, 0⟩,
    ⟨(some (Pos.ofNat 2)), none, .mov (vl (.bool false)), true, 0⟩]

noncomputable def rbranch_1 : List O := [
    ⟨(some (Pos.ofNat 3)), none, .fieldAddr 0 (tm 1), true, 0⟩,
    ⟨(some (Pos.ofNat 4)), none, .load1 (tm 3), true, 0⟩,
    ⟨(some (Pos.ofNat 5)), none, .bin .geq .other true (tm 4) (vl (int64 (0))), true, 0⟩,
    ⟨(some (Pos.ofNat 6)), none, .mov (tm 5), true, 0⟩,
    ⟨(some (Pos.ofNat 7)), (some ((Pos.ofNat 6), true)), .fieldAddr 0 (tm 1), true, 0⟩,
    ⟨(some (Pos.ofNat 8)), (some ((Pos.ofNat 6), true)), .load1 (tm 7), true, 0⟩,
    ⟨(some (Pos.ofNat 9)), (some ((Pos.ofNat 6), true)), .bin .lss .other true (tm 8) (vl (int64 (8))), true, 0⟩,
    ⟨(some (Pos.ofNat 10)), none, .pick (tm 6) (tm 9) (vl (.bool false)), true, 0⟩,
    ⟨(some (Pos.ofNat 11)), none, .mov (tm 10), true, 0⟩,
    ⟨(some (Pos.ofNat 12)), (some ((Pos.ofNat 11), true)), .fieldAddr 1 (tm 1), true, 0⟩,
    ⟨(some (Pos.ofNat 13)), (some ((Pos.ofNat 11), true)), .load1 (tm 12), true, 0⟩,
    ⟨(some (Pos.ofNat 14)), (some ((Pos.ofNat 11), true)), .call (.value (vl (.fn (.func 36) [] []))) [(tm 13)], true, 0⟩,
    ⟨(some (Pos.ofNat 15)), none, .pick (tm 11) (tm 14) (vl (.bool false)), true, 0⟩,
    ⟨(some (Pos.ofNat 2)), none, .mov (tm 15), true, 0⟩]

noncomputable def rbranch_fu : Fu := ⟨[.tmp (Pos.ofNat 2)], 16, (.seq (.region rbranch_0) (.seq (.region rbranch_1) .ret))⟩

theorem rbranch_code : compFn Tryd.prog 17 = some rbranch_fu := by kernel_rfl

/-! (some estuary/estuaryref06.Name) -/

noncomputable def rname_0 : List O := [
    ⟨(some (Pos.ofNat 1)), none, .box (tm 0), true, 0⟩,
    ⟨(some (Pos.ofNat 2)), none, .mov (vl (.bool false)), true, 0⟩]

noncomputable def rname_1 : List O := [
    ⟨(some (Pos.ofNat 3)), none, .fieldAddr 0 (tm 1), true, 0⟩,
    ⟨(some (Pos.ofNat 4)), none, .loadN 2 (tm 3), true, 0⟩,
    ⟨(some (Pos.ofNat 5)), none, .call (.value (vl (.fn (.func 17) [] []))) [(tm 4)], true, 0⟩,
    ⟨(some (Pos.ofNat 6)), none, .mov (tm 5), true, 0⟩,
    ⟨(some (Pos.ofNat 7)), (some ((Pos.ofNat 6), true)), .fieldAddr 2 (tm 1), true, 0⟩,
    ⟨(some (Pos.ofNat 8)), (some ((Pos.ofNat 6), true)), .load1 (tm 7), true, 0⟩,
    ⟨(some (Pos.ofNat 9)), (some ((Pos.ofNat 6), true)), .bin .geq .other true (tm 8) (vl (int64 (1))), true, 0⟩,
    ⟨(some (Pos.ofNat 10)), none, .pick (tm 6) (tm 9) (vl (.bool false)), true, 0⟩,
    ⟨(some (Pos.ofNat 11)), none, .mov (tm 10), true, 0⟩,
    ⟨(some (Pos.ofNat 12)), (some ((Pos.ofNat 11), true)), .fieldAddr 2 (tm 1), true, 0⟩,
    ⟨(some (Pos.ofNat 13)), (some ((Pos.ofNat 11), true)), .load1 (tm 12), true, 0⟩,
    ⟨(some (Pos.ofNat 14)), (some ((Pos.ofNat 11), true)), .bin .leq .other true (tm 13) (vl (int64 (4611686018427387904))), true, 0⟩,
    ⟨(some (Pos.ofNat 15)), none, .pick (tm 11) (tm 14) (vl (.bool false)), true, 0⟩,
    ⟨(some (Pos.ofNat 2)), none, .mov (tm 15), true, 0⟩]

noncomputable def rname_fu : Fu := ⟨[.tmp (Pos.ofNat 2)], 16, (.seq (.region rname_0) (.seq (.region rname_1) .ret))⟩

theorem rname_code : compFn Tryd.prog 15 = some rname_fu := by kernel_rfl

/-! (some estuary/estuaryref06.Stamp) -/

noncomputable def rstamp_0 : List O := [
    ⟨(some (Pos.ofNat 1)), none, .box (tm 0), true, 0⟩,
    ⟨(some (Pos.ofNat 2)), none, .mov (vl (.bool false)), true, 0⟩]

noncomputable def rstamp_1 : List O := [
    ⟨(some (Pos.ofNat 3)), none, .fieldAddr 0 (tm 1), true, 0⟩,
    ⟨(some (Pos.ofNat 4)), none, .load1 (tm 3), true, 0⟩,
    ⟨(some (Pos.ofNat 5)), none, .bin .geq .other true (tm 4) (vl (int64 (1))), true, 0⟩,
    ⟨(some (Pos.ofNat 6)), none, .mov (tm 5), true, 0⟩,
    ⟨(some (Pos.ofNat 7)), (some ((Pos.ofNat 6), true)), .fieldAddr 0 (tm 1), true, 0⟩,
    ⟨(some (Pos.ofNat 8)), (some ((Pos.ofNat 6), true)), .load1 (tm 7), true, 0⟩,
    ⟨(some (Pos.ofNat 9)), (some ((Pos.ofNat 6), true)), .bin .leq .other true (tm 8) (vl (int64 (4611686018427387904))), true, 0⟩,
    ⟨(some (Pos.ofNat 10)), none, .pick (tm 6) (tm 9) (vl (.bool false)), true, 0⟩,
    ⟨(some (Pos.ofNat 11)), none, .mov (tm 10), true, 0⟩,
    ⟨(some (Pos.ofNat 12)), (some ((Pos.ofNat 11), true)), .fieldAddr 1 (tm 1), true, 0⟩,
    ⟨(some (Pos.ofNat 13)), (some ((Pos.ofNat 11), true)), .loadN 3 (tm 12), true, 0⟩,
    ⟨(some (Pos.ofNat 14)), (some ((Pos.ofNat 11), true)), .call (.value (vl (.fn (.func 15) [] []))) [(tm 13)], true, 0⟩,
    ⟨(some (Pos.ofNat 15)), none, .pick (tm 11) (tm 14) (vl (.bool false)), true, 0⟩,
    ⟨(some (Pos.ofNat 16)), none, .mov (tm 15), true, 0⟩,
    ⟨(some (Pos.ofNat 17)), (some ((Pos.ofNat 16), true)), .fieldAddr 4 (tm 1), true, 0⟩,
    ⟨(some (Pos.ofNat 18)), (some ((Pos.ofNat 16), true)), .load1 (tm 17), true, 0⟩,
    ⟨(some (Pos.ofNat 19)), (some ((Pos.ofNat 16), true)), .bin .geq .other true (tm 18) (vl (int64 (0))), true, 0⟩,
    ⟨(some (Pos.ofNat 20)), none, .pick (tm 16) (tm 19) (vl (.bool false)), true, 0⟩,
    ⟨(some (Pos.ofNat 21)), none, .mov (tm 20), true, 0⟩,
    ⟨(some (Pos.ofNat 22)), (some ((Pos.ofNat 21), true)), .fieldAddr 4 (tm 1), true, 0⟩,
    ⟨(some (Pos.ofNat 23)), (some ((Pos.ofNat 21), true)), .load1 (tm 22), true, 0⟩,
    ⟨(some (Pos.ofNat 24)), (some ((Pos.ofNat 21), true)), .bin .lss .other true (tm 23) (vl (int64 (64))), true, 0⟩,
    ⟨(some (Pos.ofNat 25)), none, .pick (tm 21) (tm 24) (vl (.bool false)), true, 0⟩,
    ⟨(some (Pos.ofNat 2)), none, .mov (tm 25), true, 0⟩]

noncomputable def rstamp_fu : Fu := ⟨[.tmp (Pos.ofNat 2)], 26, (.seq (.region rstamp_0) (.seq (.region rstamp_1) .ret))⟩

theorem rstamp_code : compFn Tryd.prog 13 = some rstamp_fu := by kernel_rfl

/-! (some estuary/estuaryref06.PutBranch) -/

noncomputable def rputb_0 : List O := [
    ⟨(some (Pos.ofNat 1)), none, .box (tm 0), true, 0⟩,
    ⟨(some (Pos.ofNat 2)), none, .mov (vl .nilSl), true, 0⟩]

noncomputable def rputb_1 : List O := [
    ⟨(some (Pos.ofNat 3)), none, .fieldAddr 0 (tm 1), true, 0⟩,
    ⟨(some (Pos.ofNat 4)), none, .load1 (tm 3), true, 1⟩,
    ⟨(some (Pos.ofNat 5)), none, .convInt .u64 (tm 4), true, 3⟩,
    ⟨(some (Pos.ofNat 6)), none, .call (.value (vl (.fn (.func 37) [] []))) [(tm 5)], true, 7⟩,
    ⟨(some (Pos.ofNat 7)), none, .fieldAddr 1 (tm 1), true, 0⟩,
    ⟨(some (Pos.ofNat 8)), none, .load1 (tm 7), true, 16⟩,
    ⟨(some (Pos.ofNat 9)), none, .strBytes (tm 8), true, 48⟩,
    ⟨(some (Pos.ofNat 10)), none, .call (.value (vl (.fn (.func 40) [] []))) [(tm 9)], true, 127⟩,
    ⟨(some (Pos.ofNat 11)), none, .append 1 0 (tm 6) (tm 10), true, 255⟩,
    ⟨(some (Pos.ofNat 2)), none, .mov (tm 11), true, 511⟩]

noncomputable def rputb_fu : Fu := ⟨[.tmp (Pos.ofNat 2)], 12, (.seq (.region rputb_0) (.seq (.drawn rputb_1) .ret))⟩

theorem rputb_code : compFn Tryd.prog 24 = some rputb_fu := by kernel_rfl

/-! (some estuary/estuaryref06.PutName) -/

noncomputable def rputn_0 : List O := [
    ⟨(some (Pos.ofNat 1)), none, .box (tm 0), true, 0⟩,
    ⟨(some (Pos.ofNat 2)), none, .mov (vl .nilSl), true, 0⟩]

noncomputable def rputn_1 : List O := [
    ⟨(some (Pos.ofNat 3)), none, .fieldAddr 0 (tm 1), true, 0⟩,
    ⟨(some (Pos.ofNat 4)), none, .loadN 2 (tm 3), true, 1⟩,
    ⟨(some (Pos.ofNat 5)), none, .call (.value (vl (.fn (.func 24) [] []))) [(tm 4)], true, 3⟩,
    ⟨(some (Pos.ofNat 6)), none, .fieldAddr 2 (tm 1), true, 0⟩,
    ⟨(some (Pos.ofNat 7)), none, .load1 (tm 6), true, 8⟩,
    ⟨(some (Pos.ofNat 8)), none, .convInt .u64 (tm 7), true, 24⟩,
    ⟨(some (Pos.ofNat 9)), none, .call (.value (vl (.fn (.func 37) [] []))) [(tm 8)], true, 63⟩,
    ⟨(some (Pos.ofNat 10)), none, .append 1 0 (tm 5) (tm 9), true, 127⟩,
    ⟨(some (Pos.ofNat 2)), none, .mov (tm 10), true, 255⟩]

noncomputable def rputn_fu : Fu := ⟨[.tmp (Pos.ofNat 2)], 11, (.seq (.region rputn_0) (.seq (.drawn rputn_1) .ret))⟩

theorem rputn_code : compFn Tryd.prog 22 = some rputn_fu := by kernel_rfl

/-! (some estuary/estuaryref06.Put) -/

noncomputable def rput_0 : List O := [
    ⟨(some (Pos.ofNat 1)), none, .box (tm 0), true, 0⟩,
    ⟨(some (Pos.ofNat 2)), none, .mov (vl .nilSl), true, 0⟩]

noncomputable def rput_1 : List O := [
    ⟨(some (Pos.ofNat 4)), none, .fieldAddr 0 (tm 1), true, 0⟩,
    ⟨(some (Pos.ofNat 5)), none, .load1 (tm 4), true, 1⟩,
    ⟨(some (Pos.ofNat 6)), none, .convInt .u64 (tm 5), true, 3⟩,
    ⟨(some (Pos.ofNat 7)), none, .call (.value (vl (.fn (.func 37) [] []))) [(tm 6)], true, 7⟩,
    ⟨(some (Pos.ofNat 8)), none, .fieldAddr 1 (tm 1), true, 0⟩,
    ⟨(some (Pos.ofNat 9)), none, .loadN 3 (tm 8), true, 16⟩,
    ⟨(some (Pos.ofNat 10)), none, .call (.value (vl (.fn (.func 22) [] []))) [(tm 9)], true, 63⟩,
    ⟨(some (Pos.ofNat 11)), none, .append 1 0 (tm 7) (tm 10), true, 127⟩,
    ⟨(some (Pos.ofNat 3)), none, .mov (tm 11), true, 255⟩]

noncomputable def rput_2 : List O := [
    ⟨(some (Pos.ofNat 12)), none, .mov (tm 3), true, 0⟩,
    ⟨(some (Pos.ofNat 13)), none, .fieldAddr 4 (tm 1), true, 0⟩,
    ⟨(some (Pos.ofNat 14)), none, .load1 (tm 13), true, 0⟩,
    ⟨(some (Pos.ofNat 15)), none, .convInt .u64 (tm 14), true, 0⟩,
    ⟨(some (Pos.ofNat 16)), none, .call (.value (vl (.fn (.func 37) [] []))) [(tm 15)], true, 0⟩,
    ⟨(some (Pos.ofNat 17)), none, .append 1 0 (tm 12) (tm 16), true, 0⟩,
    ⟨(some (Pos.ofNat 2)), none, .mov (tm 17), true, 0⟩]

noncomputable def rput_fu : Fu := ⟨[.tmp (Pos.ofNat 2)], 18, (.seq (.region rput_0) (.seq (.drawn rput_1) (.seq (.region rput_2) .ret)))⟩

theorem rput_code : compFn Tryd.prog 18 = some rput_fu := by kernel_rfl

/-! (some estuary/estuaryref06.digits) -/

noncomputable def rdigits_0 : List O := [
    ⟨(some (Pos.ofNat 2)), none, .mov (vl (.str 0 0)), true, 0⟩]

noncomputable def rdigits_1 : List O := [
    ⟨(some (Pos.ofNat 3)), none, .mov (tm 0), true, 0⟩,
    ⟨(some (Pos.ofNat 4)), none, .call (.value (vl (.fn (.func 48) [] []))) [(tm 3), (vl (int64 (10)))], true, 0⟩,
    ⟨(some (Pos.ofNat 2)), none, .mov (tm 4), true, 0⟩]

noncomputable def rdigits_fu : Fu := ⟨[.tmp (Pos.ofNat 2)], 5, (.seq (.region rdigits_0) (.seq (.region rdigits_1) .ret))⟩

theorem rdigits_code : compFn Tryd.prog 38 = some rdigits_fu := by kernel_rfl

/-! (some estuary/estuaryref06.TextBranch) -/

noncomputable def rtextb_0 : List O := [
    ⟨(some (Pos.ofNat 1)), none, .box (tm 0), true, 0⟩,
    ⟨(some (Pos.ofNat 2)), none, .mov (vl (.str 0 0)), true, 0⟩]

noncomputable def rtextb_1 : List O := [
    ⟨(some (Pos.ofNat 3)), none, .fieldAddr 0 (tm 1), true, 0⟩,
    ⟨(some (Pos.ofNat 4)), none, .load1 (tm 3), true, 1⟩,
    ⟨(some (Pos.ofNat 5)), none, .call (.value (vl (.fn (.func 38) [] []))) [(tm 4)], true, 3⟩,
    ⟨(some (Pos.ofNat 6)), none, .bin .add .other true (tm 5) (vl (.str 1 46)), true, 7⟩,
    ⟨(some (Pos.ofNat 7)), none, .fieldAddr 1 (tm 1), true, 0⟩,
    ⟨(some (Pos.ofNat 8)), none, .load1 (tm 7), true, 16⟩,
    ⟨(some (Pos.ofNat 9)), none, .bin .add .other false (tm 6) (tm 8), true, 63⟩,
    ⟨(some (Pos.ofNat 2)), none, .mov (tm 9), true, 127⟩]

noncomputable def rtextb_fu : Fu := ⟨[.tmp (Pos.ofNat 2)], 10, (.seq (.region rtextb_0) (.seq (.drawn rtextb_1) .ret))⟩

theorem rtextb_code : compFn Tryd.prog 25 = some rtextb_fu := by kernel_rfl

/-! (some estuary/estuaryref06.TextName) -/

noncomputable def rtextn_0 : List O := [
    ⟨(some (Pos.ofNat 1)), none, .box (tm 0), true, 0⟩,
    ⟨(some (Pos.ofNat 2)), none, .mov (vl (.str 0 0)), true, 0⟩]

noncomputable def rtextn_1 : List O := [
    ⟨(some (Pos.ofNat 3)), none, .fieldAddr 0 (tm 1), true, 0⟩,
    ⟨(some (Pos.ofNat 4)), none, .loadN 2 (tm 3), true, 1⟩,
    ⟨(some (Pos.ofNat 5)), none, .call (.value (vl (.fn (.func 25) [] []))) [(tm 4)], true, 3⟩,
    ⟨(some (Pos.ofNat 6)), none, .bin .add .other true (tm 5) (vl (.str 1 46)), true, 7⟩,
    ⟨(some (Pos.ofNat 7)), none, .fieldAddr 2 (tm 1), true, 0⟩,
    ⟨(some (Pos.ofNat 8)), none, .load1 (tm 7), true, 16⟩,
    ⟨(some (Pos.ofNat 9)), none, .call (.value (vl (.fn (.func 38) [] []))) [(tm 8)], true, 55⟩,
    ⟨(some (Pos.ofNat 10)), none, .bin .add .other false (tm 6) (tm 9), true, 127⟩,
    ⟨(some (Pos.ofNat 2)), none, .mov (tm 10), true, 255⟩]

noncomputable def rtextn_fu : Fu := ⟨[.tmp (Pos.ofNat 2)], 11, (.seq (.region rtextn_0) (.seq (.drawn rtextn_1) .ret))⟩

theorem rtextn_code : compFn Tryd.prog 23 = some rtextn_fu := by kernel_rfl

/-! (some estuary/estuaryref06.Text) -/

noncomputable def rtext_0 : List O := [
    ⟨(some (Pos.ofNat 1)), none, .box (tm 0), true, 0⟩,
    ⟨(some (Pos.ofNat 2)), none, .mov (vl (.str 0 0)), true, 0⟩]

noncomputable def rtext_1 : List O := [
    ⟨(some (Pos.ofNat 3)), none, .fieldAddr 0 (tm 1), true, 0⟩,
    ⟨(some (Pos.ofNat 4)), none, .load1 (tm 3), true, 1⟩,
    ⟨(some (Pos.ofNat 5)), none, .call (.value (vl (.fn (.func 38) [] []))) [(tm 4)], true, 3⟩,
    ⟨(some (Pos.ofNat 6)), none, .bin .add .other true (tm 5) (vl (.str 1 46)), true, 7⟩,
    ⟨(some (Pos.ofNat 7)), none, .fieldAddr 1 (tm 1), true, 0⟩,
    ⟨(some (Pos.ofNat 8)), none, .loadN 3 (tm 7), true, 16⟩,
    ⟨(some (Pos.ofNat 9)), none, .call (.value (vl (.fn (.func 23) [] []))) [(tm 8)], true, 55⟩,
    ⟨(some (Pos.ofNat 10)), none, .bin .add .other false (tm 6) (tm 9), true, 127⟩,
    ⟨(some (Pos.ofNat 11)), none, .bin .add .other true (tm 10) (vl (.str 1 46)), true, 255⟩,
    ⟨(some (Pos.ofNat 12)), none, .fieldAddr 4 (tm 1), true, 0⟩,
    ⟨(some (Pos.ofNat 13)), none, .load1 (tm 12), true, 512⟩,
    ⟨(some (Pos.ofNat 14)), none, .call (.value (vl (.fn (.func 38) [] []))) [(tm 13)], true, 1655⟩,
    ⟨(some (Pos.ofNat 15)), none, .bin .add .other false (tm 11) (tm 14), true, 4095⟩,
    ⟨(some (Pos.ofNat 2)), none, .mov (tm 15), true, 8191⟩]

noncomputable def rtext_fu : Fu := ⟨[.tmp (Pos.ofNat 2)], 16, (.seq (.region rtext_0) (.seq (.drawn rtext_1) .ret))⟩

theorem rtext_code : compFn Tryd.prog 19 = some rtext_fu := by kernel_rfl

/-! (some estuary/estuaryref06.eight) -/

noncomputable def reight_0 : List O := [
    ⟨(some (Pos.ofNat 2)), none, .mov (vl .nilSl), true, 0⟩]

noncomputable def reight_1 : List O := [
    ⟨(some (Pos.ofNat 3)), none, .mov (vl .nilSl), true, 0⟩]

noncomputable def reight_2 : List O := [
    ⟨(some (Pos.ofNat 4)), none, .mov (vl (int64 (56))), true, 0⟩]

noncomputable def reight_3 : List O := [
    ⟨(some (Pos.ofNat 5)), none, .mov (tm 4), true, 0⟩,
    ⟨(some (Pos.ofNat 6)), none, .bin .geq .other true (tm 5) (vl (int64 (0))), true, 0⟩]

noncomputable def reight_4 : List O := [
    ⟨(some (Pos.ofNat 9)), none, .mov (tm 3), true, 0⟩,
    ⟨(some (Pos.ofNat 10)), none, .mov (tm 0), true, 0⟩,
    ⟨(some (Pos.ofNat 11)), none, .mov (tm 4), true, 0⟩,
    ⟨(some (Pos.ofNat 12)), none, .convInt .u64 (tm 11), true, 0⟩,
    ⟨(some (Pos.ofNat 13)), none, .bin .shr .other false (tm 10) (tm 12), true, 0⟩,
    ⟨(some (Pos.ofNat 14)), none, .convInt .u8 (tm 13), true, 0⟩,
    ⟨(some (Pos.ofNat 15)), none, .buildSl 1 1 [(.int .u8 (0))] [(0, 1, (tm 14))], true, 0⟩,
    ⟨(some (Pos.ofNat 16)), none, .append 1 0 (tm 9) (tm 15), true, 0⟩,
    ⟨(some (Pos.ofNat 3)), none, .mov (tm 16), true, 0⟩]

noncomputable def reight_5 : List O := [
    ⟨(some (Pos.ofNat 7)), none, .mov (tm 4), true, 0⟩,
    ⟨(some (Pos.ofNat 8)), none, .bin .sub .other true (tm 7) (vl (int64 (8))), true, 0⟩,
    ⟨(some (Pos.ofNat 4)), none, .mov (tm 8), true, 0⟩]

noncomputable def reight_6 : C := (.seq (.seq (.region reight_3) (.cond (tm 6) .skip (.exit 0))) (.seq (.block 1 (.region reight_4)) (.region reight_5)))

noncomputable def reight_7 : List O := [
    ⟨(some (Pos.ofNat 17)), none, .mov (tm 3), true, 0⟩,
    ⟨(some (Pos.ofNat 2)), none, .mov (tm 17), true, 0⟩]

noncomputable def reight_fu : Fu := ⟨[.tmp (Pos.ofNat 2)], 18, (.seq (.region reight_0) (.seq (.region reight_1) (.seq (.seq (.region reight_2) (.block 0 (.loop reight_6))) (.seq (.region reight_7) .ret))))⟩

theorem reight_code : compFn Tryd.prog 39 = some reight_fu := by kernel_rfl

/-! (some estuary/estuaryref06.Key) -/

noncomputable def rkey_0 : List O := [
    ⟨(some (Pos.ofNat 1)), none, .box (tm 0), true, 0⟩,
    ⟨(some (Pos.ofNat 2)), none, .mov (vl (.str 0 0)), true, 0⟩]

noncomputable def rkey_1 : List O := [
    ⟨(some (Pos.ofNat 4)), none, .fieldAddr 0 (tm 1), true, 0⟩,
    ⟨(some (Pos.ofNat 5)), none, .load1 (tm 4), true, 1⟩,
    ⟨(some (Pos.ofNat 6)), none, .call (.value (vl (.fn (.func 39) [] []))) [(tm 5)], true, 3⟩,
    ⟨(some (Pos.ofNat 7)), none, .fieldAddr 1 (tm 1), true, 0⟩,
    ⟨(some (Pos.ofNat 8)), none, .fieldAddr 0 (tm 7), true, 8⟩,
    ⟨(some (Pos.ofNat 9)), none, .fieldAddr 0 (tm 8), true, 24⟩,
    ⟨(some (Pos.ofNat 10)), none, .load1 (tm 9), true, 56⟩,
    ⟨(some (Pos.ofNat 11)), none, .convInt .u8 (tm 10), true, 120⟩,
    ⟨(some (Pos.ofNat 12)), none, .buildSl 1 1 [(.int .u8 (0))] [(0, 1, (tm 11))], true, 248⟩,
    ⟨(some (Pos.ofNat 13)), none, .append 1 0 (tm 6) (tm 12), true, 511⟩,
    ⟨(some (Pos.ofNat 3)), none, .mov (tm 13), true, 1023⟩]

noncomputable def rkey_2 : List O := [
    ⟨(some (Pos.ofNat 14)), none, .mov (tm 3), true, 0⟩,
    ⟨(some (Pos.ofNat 15)), none, .fieldAddr 1 (tm 1), true, 0⟩,
    ⟨(some (Pos.ofNat 16)), none, .fieldAddr 0 (tm 15), true, 0⟩,
    ⟨(some (Pos.ofNat 17)), none, .fieldAddr 1 (tm 16), true, 0⟩,
    ⟨(some (Pos.ofNat 18)), none, .load1 (tm 17), true, 0⟩,
    ⟨(some (Pos.ofNat 19)), none, .append 1 0 (tm 14) (tm 18), true, 0⟩,
    ⟨(some (Pos.ofNat 3)), none, .mov (tm 19), true, 0⟩]

noncomputable def rkey_3 : List O := [
    ⟨(some (Pos.ofNat 20)), none, .mov (tm 3), true, 0⟩,
    ⟨(some (Pos.ofNat 21)), none, .buildSl 1 1 [(.int .u8 (0))] [(0, 1, (vl (.int .u8 (0))))], true, 0⟩,
    ⟨(some (Pos.ofNat 22)), none, .append 1 0 (tm 20) (tm 21), true, 0⟩,
    ⟨(some (Pos.ofNat 3)), none, .mov (tm 22), true, 0⟩]

noncomputable def rkey_4 : List O := [
    ⟨(some (Pos.ofNat 23)), none, .mov (tm 3), true, 0⟩,
    ⟨(some (Pos.ofNat 24)), none, .fieldAddr 1 (tm 1), true, 0⟩,
    ⟨(some (Pos.ofNat 25)), none, .fieldAddr 2 (tm 24), true, 0⟩,
    ⟨(some (Pos.ofNat 26)), none, .load1 (tm 25), true, 0⟩,
    ⟨(some (Pos.ofNat 27)), none, .call (.value (vl (.fn (.func 39) [] []))) [(tm 26)], true, 0⟩,
    ⟨(some (Pos.ofNat 28)), none, .append 1 0 (tm 23) (tm 27), true, 0⟩,
    ⟨(some (Pos.ofNat 3)), none, .mov (tm 28), true, 0⟩]

noncomputable def rkey_5 : List O := [
    ⟨(some (Pos.ofNat 29)), none, .mov (tm 3), true, 0⟩,
    ⟨(some (Pos.ofNat 30)), none, .fieldAddr 4 (tm 1), true, 0⟩,
    ⟨(some (Pos.ofNat 31)), none, .load1 (tm 30), true, 0⟩,
    ⟨(some (Pos.ofNat 32)), none, .convInt .u8 (tm 31), true, 0⟩,
    ⟨(some (Pos.ofNat 33)), none, .buildSl 1 1 [(.int .u8 (0))] [(0, 1, (tm 32))], true, 0⟩,
    ⟨(some (Pos.ofNat 34)), none, .append 1 0 (tm 29) (tm 33), true, 0⟩,
    ⟨(some (Pos.ofNat 35)), none, .bytesStr (tm 34), true, 0⟩,
    ⟨(some (Pos.ofNat 2)), none, .mov (tm 35), true, 0⟩]

noncomputable def rkey_fu : Fu := ⟨[.tmp (Pos.ofNat 2)], 36, (.seq (.region rkey_0) (.seq (.drawn rkey_1) (.seq (.region rkey_2) (.seq (.region rkey_3) (.seq (.region rkey_4) (.seq (.region rkey_5) .ret))))))⟩

theorem rkey_code : compFn Tryd.prog 20 = some rkey_fu := by kernel_rfl

/-! (some estuary/estuarylaw06.num) -/

noncomputable def num_0 : List O := [
    ⟨(some (Pos.ofNat 2)), none, .mov (vl (int64 (0))), true, 0⟩]

noncomputable def num_1 : List O := [
    ⟨(some (Pos.ofNat 3)), none, .mov (tm 0), true, 0⟩,
    ⟨(some (Pos.ofNat 2)), none, .mov (tm 3), true, 0⟩]

noncomputable def num_fu : Fu := ⟨[.tmp (Pos.ofNat 2)], 4, (.seq (.region num_0) (.seq (.region num_1) .ret))⟩

theorem num_code : compFn Tryd.prog 21 = some num_fu := by kernel_rfl

/-! (some estuary/estuarylaw06.StampWrites) -/

noncomputable def writes_0 : List O := [
    ⟨(some (Pos.ofNat 1)), none, .box (tm 0), true, 0⟩,
    ⟨(some (Pos.ofNat 2)), none, .mov (vl (.bool false)), true, 0⟩]

noncomputable def writes_1 : List O := [
    ⟨(some (Pos.ofNat 19)), none, .fieldAddr 1 (tm 1), true, 0⟩,
    ⟨(some (Pos.ofNat 20)), none, .loadN 3 (tm 19), true, 1⟩,
    ⟨(some (Pos.ofNat 21)), none, .fieldAddr 1 (tm 1), true, 0⟩,
    ⟨(some (Pos.ofNat 22)), none, .fieldAddr 0 (tm 21), true, 4⟩,
    ⟨(some (Pos.ofNat 23)), none, .loadN 2 (tm 22), true, 12⟩,
    ⟨(some (Pos.ofNat 3)), none, .new [(int64 (0)), (.str 0 0), (int64 (0))], true, 0⟩,
    ⟨(some (Pos.ofNat 4)), none, .new [(int64 (0)), (.str 0 0)], true, 0⟩,
    ⟨none, none, .store 3 (tm 3) (tm 20), true, 99⟩,
    ⟨none, none, .store 2 (tm 4) (tm 23), true, 255⟩]

noncomputable def writes_2 : List O := [
    ⟨(some (Pos.ofNat 24)), none, .fieldAddr 1 (tm 4), true, 0⟩,
    ⟨(some (Pos.ofNat 25)), none, .load1 (tm 24), true, 0⟩,
    ⟨(some (Pos.ofNat 26)), none, .lenS (tm 25), true, 0⟩,
    ⟨(some (Pos.ofNat 27)), none, .bin .gtr .other true (tm 26) (vl (int64 (9000))), true, 0⟩]

noncomputable def writes_3 : List O := [
    ⟨(some (Pos.ofNat 28)), none, .call (.value (vl (.fn (.func 4) [] []))) [], true, 0⟩,
    ⟨(some (Pos.ofNat 2)), none, .mov (tm 28), true, 0⟩]

noncomputable def writes_4 : List O := [
    ⟨(some (Pos.ofNat 30)), none, .loadN 5 (tm 1), true, 0⟩,
    ⟨(some (Pos.ofNat 31)), none, .call (.value (vl (.fn (.func 5) [] []))) [(tm 30)], true, 0⟩,
    ⟨(some (Pos.ofNat 29)), none, .mov (tm 31), true, 0⟩,
    ⟨(some (Pos.ofNat 32)), none, .extract (tm 29) 0, true, 0⟩,
    ⟨(some (Pos.ofNat 33)), none, .extract (tm 29) 1, true, 0⟩,
    ⟨(some (Pos.ofNat 5)), none, .mov (tm 32), true, 0⟩,
    ⟨(some (Pos.ofNat 6)), none, .mov (tm 33), true, 0⟩]

noncomputable def writes_5 : List O := [
    ⟨(some (Pos.ofNat 35)), none, .loadN 3 (tm 3), true, 0⟩,
    ⟨(some (Pos.ofNat 36)), none, .call (.value (vl (.fn (.func 6) [] []))) [(tm 35)], true, 0⟩,
    ⟨(some (Pos.ofNat 34)), none, .mov (tm 36), true, 0⟩,
    ⟨(some (Pos.ofNat 37)), none, .extract (tm 34) 0, true, 0⟩,
    ⟨(some (Pos.ofNat 38)), none, .extract (tm 34) 1, true, 0⟩,
    ⟨(some (Pos.ofNat 7)), none, .mov (tm 37), true, 0⟩,
    ⟨(some (Pos.ofNat 8)), none, .mov (tm 38), true, 0⟩]

noncomputable def writes_6 : List O := [
    ⟨(some (Pos.ofNat 40)), none, .loadN 2 (tm 4), true, 0⟩,
    ⟨(some (Pos.ofNat 41)), none, .call (.value (vl (.fn (.func 7) [] []))) [(tm 40)], true, 0⟩,
    ⟨(some (Pos.ofNat 39)), none, .mov (tm 41), true, 0⟩,
    ⟨(some (Pos.ofNat 42)), none, .extract (tm 39) 0, true, 0⟩,
    ⟨(some (Pos.ofNat 43)), none, .extract (tm 39) 1, true, 0⟩,
    ⟨(some (Pos.ofNat 9)), none, .mov (tm 42), true, 0⟩,
    ⟨(some (Pos.ofNat 10)), none, .mov (tm 43), true, 0⟩]

noncomputable def writes_7 : List O := [
    ⟨(some (Pos.ofNat 45)), none, .loadN 5 (tm 1), true, 0⟩,
    ⟨(some (Pos.ofNat 46)), none, .call (.value (vl (.fn (.func 8) [] []))) [(tm 45)], true, 0⟩,
    ⟨(some (Pos.ofNat 44)), none, .mov (tm 46), true, 0⟩,
    ⟨(some (Pos.ofNat 47)), none, .extract (tm 44) 0, true, 0⟩,
    ⟨(some (Pos.ofNat 48)), none, .extract (tm 44) 1, true, 0⟩,
    ⟨(some (Pos.ofNat 11)), none, .mov (tm 47), true, 0⟩,
    ⟨(some (Pos.ofNat 12)), none, .mov (tm 48), true, 0⟩]

noncomputable def writes_8 : List O := [
    ⟨(some (Pos.ofNat 50)), none, .loadN 3 (tm 3), true, 0⟩,
    ⟨(some (Pos.ofNat 51)), none, .call (.value (vl (.fn (.func 9) [] []))) [(tm 50)], true, 0⟩,
    ⟨(some (Pos.ofNat 49)), none, .mov (tm 51), true, 0⟩,
    ⟨(some (Pos.ofNat 52)), none, .extract (tm 49) 0, true, 0⟩,
    ⟨(some (Pos.ofNat 53)), none, .extract (tm 49) 1, true, 0⟩,
    ⟨(some (Pos.ofNat 13)), none, .mov (tm 52), true, 0⟩,
    ⟨(some (Pos.ofNat 14)), none, .mov (tm 53), true, 0⟩]

noncomputable def writes_9 : List O := [
    ⟨(some (Pos.ofNat 55)), none, .loadN 2 (tm 4), true, 0⟩,
    ⟨(some (Pos.ofNat 56)), none, .call (.value (vl (.fn (.func 10) [] []))) [(tm 55)], true, 0⟩,
    ⟨(some (Pos.ofNat 54)), none, .mov (tm 56), true, 0⟩,
    ⟨(some (Pos.ofNat 57)), none, .extract (tm 54) 0, true, 0⟩,
    ⟨(some (Pos.ofNat 58)), none, .extract (tm 54) 1, true, 0⟩,
    ⟨(some (Pos.ofNat 15)), none, .mov (tm 57), true, 0⟩,
    ⟨(some (Pos.ofNat 16)), none, .mov (tm 58), true, 0⟩]

noncomputable def writes_10 : List O := [
    ⟨(some (Pos.ofNat 60)), none, .loadN 5 (tm 1), true, 0⟩,
    ⟨(some (Pos.ofNat 61)), none, .call (.value (vl (.fn (.func 11) [] []))) [(tm 60)], true, 0⟩,
    ⟨(some (Pos.ofNat 59)), none, .mov (tm 61), true, 0⟩,
    ⟨(some (Pos.ofNat 62)), none, .extract (tm 59) 0, true, 0⟩,
    ⟨(some (Pos.ofNat 63)), none, .extract (tm 59) 1, true, 0⟩,
    ⟨(some (Pos.ofNat 17)), none, .mov (tm 62), true, 0⟩,
    ⟨(some (Pos.ofNat 18)), none, .mov (tm 63), true, 0⟩]

noncomputable def writes_11 : List O := [
    ⟨(some (Pos.ofNat 64)), none, .loadN 5 (tm 1), true, 0⟩,
    ⟨(some (Pos.ofNat 65)), none, .call (.value (vl (.fn (.func 12) [] []))) [(tm 64)], true, 1⟩,
    ⟨(some (Pos.ofNat 66)), none, .loadN 5 (tm 1), true, 0⟩,
    ⟨(some (Pos.ofNat 67)), none, .call (.value (vl (.fn (.func 13) [] []))) [(tm 66)], true, 7⟩,
    ⟨(some (Pos.ofNat 68)), none, .bin .neq .bool false (tm 65) (tm 67), true, 15⟩,
    ⟨(some (Pos.ofNat 69)), none, .mov (tm 68), true, 31⟩,
    ⟨(some (Pos.ofNat 70)), (some ((Pos.ofNat 69), false)), .loadN 3 (tm 3), true, 63⟩,
    ⟨(some (Pos.ofNat 71)), (some ((Pos.ofNat 69), false)), .call (.value (vl (.fn (.func 14) [] []))) [(tm 70)], true, 127⟩,
    ⟨(some (Pos.ofNat 72)), (some ((Pos.ofNat 69), false)), .loadN 3 (tm 3), true, 63⟩,
    ⟨(some (Pos.ofNat 73)), (some ((Pos.ofNat 69), false)), .call (.value (vl (.fn (.func 15) [] []))) [(tm 72)], true, 511⟩,
    ⟨(some (Pos.ofNat 74)), (some ((Pos.ofNat 69), false)), .bin .neq .bool false (tm 71) (tm 73), true, 1023⟩,
    ⟨(some (Pos.ofNat 75)), none, .pick (tm 69) (vl (.bool true)) (tm 74), true, 2047⟩,
    ⟨(some (Pos.ofNat 76)), none, .mov (tm 75), true, 4095⟩,
    ⟨(some (Pos.ofNat 77)), (some ((Pos.ofNat 76), false)), .loadN 2 (tm 4), true, 8191⟩,
    ⟨(some (Pos.ofNat 78)), (some ((Pos.ofNat 76), false)), .call (.value (vl (.fn (.func 16) [] []))) [(tm 77)], true, 16383⟩,
    ⟨(some (Pos.ofNat 79)), (some ((Pos.ofNat 76), false)), .loadN 2 (tm 4), true, 8191⟩,
    ⟨(some (Pos.ofNat 80)), (some ((Pos.ofNat 76), false)), .call (.value (vl (.fn (.func 17) [] []))) [(tm 79)], true, 65535⟩,
    ⟨(some (Pos.ofNat 81)), (some ((Pos.ofNat 76), false)), .bin .neq .bool false (tm 78) (tm 80), true, 131071⟩,
    ⟨(some (Pos.ofNat 82)), none, .pick (tm 76) (vl (.bool true)) (tm 81), true, 262143⟩]

noncomputable def writes_12 : List O := [
    ⟨(some (Pos.ofNat 2)), none, .mov (vl (.bool false)), true, 0⟩]

noncomputable def writes_13 : List O := [
    ⟨(some (Pos.ofNat 83)), none, .loadN 5 (tm 1), true, 0⟩,
    ⟨(some (Pos.ofNat 84)), none, .call (.value (vl (.fn (.func 13) [] []))) [(tm 83)], true, 0⟩]

noncomputable def writes_14 : List O := [
    ⟨(some (Pos.ofNat 85)), none, .mov (tm 5), true, 0⟩,
    ⟨(some (Pos.ofNat 86)), none, .bytesStr (tm 85), true, 1⟩,
    ⟨(some (Pos.ofNat 87)), none, .loadN 5 (tm 1), true, 0⟩,
    ⟨(some (Pos.ofNat 88)), none, .call (.value (vl (.fn (.func 18) [] []))) [(tm 87)], true, 4⟩,
    ⟨(some (Pos.ofNat 89)), none, .bytesStr (tm 88), true, 12⟩,
    ⟨(some (Pos.ofNat 90)), none, .bin .neq .other false (tm 86) (tm 89), true, 31⟩,
    ⟨(some (Pos.ofNat 91)), none, .mov (tm 90), true, 63⟩,
    ⟨(some (Pos.ofNat 92)), (some ((Pos.ofNat 91), false)), .mov (tm 11), true, 127⟩,
    ⟨(some (Pos.ofNat 93)), (some ((Pos.ofNat 91), false)), .loadN 5 (tm 1), true, 127⟩,
    ⟨(some (Pos.ofNat 94)), (some ((Pos.ofNat 91), false)), .call (.value (vl (.fn (.func 19) [] []))) [(tm 93)], true, 383⟩,
    ⟨(some (Pos.ofNat 95)), (some ((Pos.ofNat 91), false)), .bin .neq .other false (tm 92) (tm 94), true, 1023⟩,
    ⟨(some (Pos.ofNat 96)), none, .pick (tm 91) (vl (.bool true)) (tm 95), true, 2047⟩,
    ⟨(some (Pos.ofNat 97)), none, .mov (tm 96), true, 4095⟩,
    ⟨(some (Pos.ofNat 98)), (some ((Pos.ofNat 97), false)), .mov (tm 17), true, 8191⟩,
    ⟨(some (Pos.ofNat 99)), (some ((Pos.ofNat 97), false)), .loadN 5 (tm 1), true, 8191⟩,
    ⟨(some (Pos.ofNat 100)), (some ((Pos.ofNat 97), false)), .call (.value (vl (.fn (.func 20) [] []))) [(tm 99)], true, 24575⟩,
    ⟨(some (Pos.ofNat 101)), (some ((Pos.ofNat 97), false)), .bin .neq .other false (tm 98) (tm 100), true, 65535⟩,
    ⟨(some (Pos.ofNat 102)), none, .pick (tm 97) (vl (.bool true)) (tm 101), true, 131071⟩,
    ⟨(some (Pos.ofNat 103)), none, .mov (tm 102), true, 262143⟩,
    ⟨(some (Pos.ofNat 104)), (some ((Pos.ofNat 103), false)), .mov (tm 6), true, 524287⟩,
    ⟨(some (Pos.ofNat 105)), (some ((Pos.ofNat 103), false)), .call (.value (vl (.fn (.func 21) [] []))) [(tm 104)], true, 1048575⟩,
    ⟨(some (Pos.ofNat 106)), (some ((Pos.ofNat 103), false)), .mov (tm 12), true, 524287⟩,
    ⟨(some (Pos.ofNat 107)), (some ((Pos.ofNat 103), false)), .call (.value (vl (.fn (.func 21) [] []))) [(tm 106)], true, 4194303⟩,
    ⟨(some (Pos.ofNat 108)), (some ((Pos.ofNat 103), false)), .bin .add .other false (tm 105) (tm 107), true, 8388607⟩,
    ⟨(some (Pos.ofNat 109)), (some ((Pos.ofNat 103), false)), .mov (tm 18), true, 524287⟩,
    ⟨(some (Pos.ofNat 110)), (some ((Pos.ofNat 103), false)), .call (.value (vl (.fn (.func 21) [] []))) [(tm 109)], true, 25165823⟩,
    ⟨(some (Pos.ofNat 111)), (some ((Pos.ofNat 103), false)), .bin .add .other false (tm 108) (tm 110), true, 67108863⟩,
    ⟨(some (Pos.ofNat 112)), (some ((Pos.ofNat 103), false)), .bin .neq .other true (tm 111) (vl (int64 (0))), true, 134217727⟩,
    ⟨(some (Pos.ofNat 113)), none, .pick (tm 103) (vl (.bool true)) (tm 112), true, 268435455⟩]

noncomputable def writes_15 : List O := [
    ⟨(some (Pos.ofNat 2)), none, .mov (vl (.bool false)), true, 0⟩]

noncomputable def writes_16 : List O := [
    ⟨(some (Pos.ofNat 114)), none, .mov (tm 5), true, 0⟩,
    ⟨(some (Pos.ofNat 115)), none, .lenL (tm 114), true, 0⟩,
    ⟨(some (Pos.ofNat 116)), none, .bin .neq .other true (tm 115) (vl (int64 (0))), true, 0⟩,
    ⟨(some (Pos.ofNat 117)), none, .mov (tm 116), true, 0⟩,
    ⟨(some (Pos.ofNat 118)), (some ((Pos.ofNat 117), false)), .mov (tm 11), true, 0⟩,
    ⟨(some (Pos.ofNat 119)), (some ((Pos.ofNat 117), false)), .bin .neq .other true (tm 118) (vl (.str 0 0)), true, 0⟩,
    ⟨(some (Pos.ofNat 120)), none, .pick (tm 117) (vl (.bool true)) (tm 119), true, 0⟩,
    ⟨(some (Pos.ofNat 121)), none, .mov (tm 120), true, 0⟩,
    ⟨(some (Pos.ofNat 122)), (some ((Pos.ofNat 121), false)), .mov (tm 17), true, 0⟩,
    ⟨(some (Pos.ofNat 123)), (some ((Pos.ofNat 121), false)), .bin .neq .other true (tm 122) (vl (.str 0 0)), true, 0⟩,
    ⟨(some (Pos.ofNat 124)), none, .pick (tm 121) (vl (.bool true)) (tm 123), true, 0⟩,
    ⟨(some (Pos.ofNat 125)), none, .mov (tm 124), true, 0⟩,
    ⟨(some (Pos.ofNat 126)), (some ((Pos.ofNat 125), false)), .mov (tm 6), true, 0⟩,
    ⟨(some (Pos.ofNat 127)), (some ((Pos.ofNat 125), false)), .call (.value (vl (.fn (.func 21) [] []))) [(tm 126)], true, 0⟩,
    ⟨(some (Pos.ofNat 128)), (some ((Pos.ofNat 125), false)), .bin .neq .other true (tm 127) (vl (int64 (2))), true, 0⟩,
    ⟨(some (Pos.ofNat 129)), none, .pick (tm 125) (vl (.bool true)) (tm 128), true, 0⟩,
    ⟨(some (Pos.ofNat 130)), none, .mov (tm 129), true, 0⟩,
    ⟨(some (Pos.ofNat 131)), (some ((Pos.ofNat 130), false)), .mov (tm 12), true, 0⟩,
    ⟨(some (Pos.ofNat 132)), (some ((Pos.ofNat 130), false)), .call (.value (vl (.fn (.func 21) [] []))) [(tm 131)], true, 0⟩,
    ⟨(some (Pos.ofNat 133)), (some ((Pos.ofNat 130), false)), .bin .neq .other true (tm 132) (vl (int64 (2))), true, 0⟩,
    ⟨(some (Pos.ofNat 134)), none, .pick (tm 130) (vl (.bool true)) (tm 133), true, 0⟩,
    ⟨(some (Pos.ofNat 135)), none, .mov (tm 134), true, 0⟩,
    ⟨(some (Pos.ofNat 136)), (some ((Pos.ofNat 135), false)), .mov (tm 18), true, 0⟩,
    ⟨(some (Pos.ofNat 137)), (some ((Pos.ofNat 135), false)), .call (.value (vl (.fn (.func 21) [] []))) [(tm 136)], true, 0⟩,
    ⟨(some (Pos.ofNat 138)), (some ((Pos.ofNat 135), false)), .bin .neq .other true (tm 137) (vl (int64 (2))), true, 0⟩,
    ⟨(some (Pos.ofNat 139)), none, .pick (tm 135) (vl (.bool true)) (tm 138), true, 0⟩]

noncomputable def writes_17 : List O := [
    ⟨(some (Pos.ofNat 2)), none, .mov (vl (.bool false)), true, 0⟩]

noncomputable def writes_18 : List O := [
    ⟨(some (Pos.ofNat 140)), none, .loadN 3 (tm 3), true, 0⟩,
    ⟨(some (Pos.ofNat 141)), none, .call (.value (vl (.fn (.func 15) [] []))) [(tm 140)], true, 0⟩]

noncomputable def writes_19 : List O := [
    ⟨(some (Pos.ofNat 142)), none, .mov (tm 7), true, 0⟩,
    ⟨(some (Pos.ofNat 143)), none, .bytesStr (tm 142), true, 1⟩,
    ⟨(some (Pos.ofNat 144)), none, .loadN 3 (tm 3), true, 0⟩,
    ⟨(some (Pos.ofNat 145)), none, .call (.value (vl (.fn (.func 22) [] []))) [(tm 144)], true, 4⟩,
    ⟨(some (Pos.ofNat 146)), none, .bytesStr (tm 145), true, 12⟩,
    ⟨(some (Pos.ofNat 147)), none, .bin .neq .other false (tm 143) (tm 146), true, 31⟩,
    ⟨(some (Pos.ofNat 148)), none, .mov (tm 147), true, 63⟩,
    ⟨(some (Pos.ofNat 149)), (some ((Pos.ofNat 148), false)), .mov (tm 13), true, 127⟩,
    ⟨(some (Pos.ofNat 150)), (some ((Pos.ofNat 148), false)), .loadN 3 (tm 3), true, 127⟩,
    ⟨(some (Pos.ofNat 151)), (some ((Pos.ofNat 148), false)), .call (.value (vl (.fn (.func 23) [] []))) [(tm 150)], true, 383⟩,
    ⟨(some (Pos.ofNat 152)), (some ((Pos.ofNat 148), false)), .bin .neq .other false (tm 149) (tm 151), true, 1023⟩,
    ⟨(some (Pos.ofNat 153)), none, .pick (tm 148) (vl (.bool true)) (tm 152), true, 2047⟩,
    ⟨(some (Pos.ofNat 154)), none, .mov (tm 153), true, 4095⟩,
    ⟨(some (Pos.ofNat 155)), (some ((Pos.ofNat 154), false)), .mov (tm 8), true, 8191⟩,
    ⟨(some (Pos.ofNat 156)), (some ((Pos.ofNat 154), false)), .call (.value (vl (.fn (.func 21) [] []))) [(tm 155)], true, 16383⟩,
    ⟨(some (Pos.ofNat 157)), (some ((Pos.ofNat 154), false)), .mov (tm 14), true, 8191⟩,
    ⟨(some (Pos.ofNat 158)), (some ((Pos.ofNat 154), false)), .call (.value (vl (.fn (.func 21) [] []))) [(tm 157)], true, 65535⟩,
    ⟨(some (Pos.ofNat 159)), (some ((Pos.ofNat 154), false)), .bin .add .other false (tm 156) (tm 158), true, 131071⟩,
    ⟨(some (Pos.ofNat 160)), (some ((Pos.ofNat 154), false)), .bin .neq .other true (tm 159) (vl (int64 (0))), true, 262143⟩,
    ⟨(some (Pos.ofNat 161)), none, .pick (tm 154) (vl (.bool true)) (tm 160), true, 524287⟩]

noncomputable def writes_20 : List O := [
    ⟨(some (Pos.ofNat 2)), none, .mov (vl (.bool false)), true, 0⟩]

noncomputable def writes_21 : List O := [
    ⟨(some (Pos.ofNat 162)), none, .mov (tm 7), true, 0⟩,
    ⟨(some (Pos.ofNat 163)), none, .lenL (tm 162), true, 0⟩,
    ⟨(some (Pos.ofNat 164)), none, .bin .neq .other true (tm 163) (vl (int64 (0))), true, 0⟩,
    ⟨(some (Pos.ofNat 165)), none, .mov (tm 164), true, 0⟩,
    ⟨(some (Pos.ofNat 166)), (some ((Pos.ofNat 165), false)), .mov (tm 13), true, 0⟩,
    ⟨(some (Pos.ofNat 167)), (some ((Pos.ofNat 165), false)), .bin .neq .other true (tm 166) (vl (.str 0 0)), true, 0⟩,
    ⟨(some (Pos.ofNat 168)), none, .pick (tm 165) (vl (.bool true)) (tm 167), true, 0⟩,
    ⟨(some (Pos.ofNat 169)), none, .mov (tm 168), true, 0⟩,
    ⟨(some (Pos.ofNat 170)), (some ((Pos.ofNat 169), false)), .mov (tm 8), true, 0⟩,
    ⟨(some (Pos.ofNat 171)), (some ((Pos.ofNat 169), false)), .call (.value (vl (.fn (.func 21) [] []))) [(tm 170)], true, 0⟩,
    ⟨(some (Pos.ofNat 172)), (some ((Pos.ofNat 169), false)), .bin .neq .other true (tm 171) (vl (int64 (2))), true, 0⟩,
    ⟨(some (Pos.ofNat 173)), none, .pick (tm 169) (vl (.bool true)) (tm 172), true, 0⟩,
    ⟨(some (Pos.ofNat 174)), none, .mov (tm 173), true, 0⟩,
    ⟨(some (Pos.ofNat 175)), (some ((Pos.ofNat 174), false)), .mov (tm 14), true, 0⟩,
    ⟨(some (Pos.ofNat 176)), (some ((Pos.ofNat 174), false)), .call (.value (vl (.fn (.func 21) [] []))) [(tm 175)], true, 0⟩,
    ⟨(some (Pos.ofNat 177)), (some ((Pos.ofNat 174), false)), .bin .neq .other true (tm 176) (vl (int64 (2))), true, 0⟩,
    ⟨(some (Pos.ofNat 178)), none, .pick (tm 174) (vl (.bool true)) (tm 177), true, 0⟩]

noncomputable def writes_22 : List O := [
    ⟨(some (Pos.ofNat 2)), none, .mov (vl (.bool false)), true, 0⟩]

noncomputable def writes_23 : List O := [
    ⟨(some (Pos.ofNat 179)), none, .loadN 2 (tm 4), true, 0⟩,
    ⟨(some (Pos.ofNat 180)), none, .call (.value (vl (.fn (.func 17) [] []))) [(tm 179)], true, 0⟩]

noncomputable def writes_24 : List O := [
    ⟨(some (Pos.ofNat 181)), none, .mov (tm 9), true, 0⟩,
    ⟨(some (Pos.ofNat 182)), none, .bytesStr (tm 181), true, 1⟩,
    ⟨(some (Pos.ofNat 183)), none, .loadN 2 (tm 4), true, 0⟩,
    ⟨(some (Pos.ofNat 184)), none, .call (.value (vl (.fn (.func 24) [] []))) [(tm 183)], true, 4⟩,
    ⟨(some (Pos.ofNat 185)), none, .bytesStr (tm 184), true, 12⟩,
    ⟨(some (Pos.ofNat 186)), none, .bin .eql .other false (tm 182) (tm 185), true, 31⟩,
    ⟨(some (Pos.ofNat 187)), none, .mov (tm 186), true, 63⟩,
    ⟨(some (Pos.ofNat 188)), (some ((Pos.ofNat 187), true)), .mov (tm 15), true, 127⟩,
    ⟨(some (Pos.ofNat 189)), (some ((Pos.ofNat 187), true)), .loadN 2 (tm 4), true, 127⟩,
    ⟨(some (Pos.ofNat 190)), (some ((Pos.ofNat 187), true)), .call (.value (vl (.fn (.func 25) [] []))) [(tm 189)], true, 383⟩,
    ⟨(some (Pos.ofNat 191)), (some ((Pos.ofNat 187), true)), .bin .eql .other false (tm 188) (tm 190), true, 1023⟩,
    ⟨(some (Pos.ofNat 192)), none, .pick (tm 187) (tm 191) (vl (.bool false)), true, 2047⟩,
    ⟨(some (Pos.ofNat 193)), none, .mov (tm 192), true, 4095⟩,
    ⟨(some (Pos.ofNat 194)), (some ((Pos.ofNat 193), true)), .mov (tm 10), true, 8191⟩,
    ⟨(some (Pos.ofNat 195)), (some ((Pos.ofNat 193), true)), .call (.value (vl (.fn (.func 21) [] []))) [(tm 194)], true, 16383⟩,
    ⟨(some (Pos.ofNat 196)), (some ((Pos.ofNat 193), true)), .mov (tm 16), true, 8191⟩,
    ⟨(some (Pos.ofNat 197)), (some ((Pos.ofNat 193), true)), .call (.value (vl (.fn (.func 21) [] []))) [(tm 196)], true, 65535⟩,
    ⟨(some (Pos.ofNat 198)), (some ((Pos.ofNat 193), true)), .bin .add .other false (tm 195) (tm 197), true, 131071⟩,
    ⟨(some (Pos.ofNat 199)), (some ((Pos.ofNat 193), true)), .bin .eql .other true (tm 198) (vl (int64 (0))), true, 262143⟩,
    ⟨(some (Pos.ofNat 200)), none, .pick (tm 193) (tm 199) (vl (.bool false)), true, 524287⟩,
    ⟨(some (Pos.ofNat 201)), none, .mov (tm 200), true, 1048575⟩,
    ⟨(some (Pos.ofNat 202)), (some ((Pos.ofNat 201), true)), .call (.value (vl (.fn (.func 4) [] []))) [], true, 2097151⟩,
    ⟨(some (Pos.ofNat 203)), none, .pick (tm 201) (tm 202) (vl (.bool false)), true, 4194303⟩,
    ⟨(some (Pos.ofNat 2)), none, .mov (tm 203), true, 8388607⟩]

noncomputable def writes_25 : List O := [
    ⟨(some (Pos.ofNat 204)), none, .mov (tm 9), true, 0⟩,
    ⟨(some (Pos.ofNat 205)), none, .lenL (tm 204), true, 0⟩,
    ⟨(some (Pos.ofNat 206)), none, .bin .eql .other true (tm 205) (vl (int64 (0))), true, 0⟩,
    ⟨(some (Pos.ofNat 207)), none, .mov (tm 206), true, 0⟩,
    ⟨(some (Pos.ofNat 208)), (some ((Pos.ofNat 207), true)), .mov (tm 15), true, 0⟩,
    ⟨(some (Pos.ofNat 209)), (some ((Pos.ofNat 207), true)), .bin .eql .other true (tm 208) (vl (.str 0 0)), true, 0⟩,
    ⟨(some (Pos.ofNat 210)), none, .pick (tm 207) (tm 209) (vl (.bool false)), true, 0⟩,
    ⟨(some (Pos.ofNat 211)), none, .mov (tm 210), true, 0⟩,
    ⟨(some (Pos.ofNat 212)), (some ((Pos.ofNat 211), true)), .mov (tm 10), true, 0⟩,
    ⟨(some (Pos.ofNat 213)), (some ((Pos.ofNat 211), true)), .call (.value (vl (.fn (.func 21) [] []))) [(tm 212)], true, 0⟩,
    ⟨(some (Pos.ofNat 214)), (some ((Pos.ofNat 211), true)), .bin .eql .other true (tm 213) (vl (int64 (2))), true, 0⟩,
    ⟨(some (Pos.ofNat 215)), none, .pick (tm 211) (tm 214) (vl (.bool false)), true, 0⟩,
    ⟨(some (Pos.ofNat 216)), none, .mov (tm 215), true, 0⟩,
    ⟨(some (Pos.ofNat 217)), (some ((Pos.ofNat 216), true)), .mov (tm 16), true, 0⟩,
    ⟨(some (Pos.ofNat 218)), (some ((Pos.ofNat 216), true)), .call (.value (vl (.fn (.func 21) [] []))) [(tm 217)], true, 0⟩,
    ⟨(some (Pos.ofNat 219)), (some ((Pos.ofNat 216), true)), .bin .eql .other true (tm 218) (vl (int64 (2))), true, 0⟩,
    ⟨(some (Pos.ofNat 220)), none, .pick (tm 216) (tm 219) (vl (.bool false)), true, 0⟩,
    ⟨(some (Pos.ofNat 221)), none, .mov (tm 220), true, 0⟩,
    ⟨(some (Pos.ofNat 222)), (some ((Pos.ofNat 221), true)), .call (.value (vl (.fn (.func 4) [] []))) [], true, 0⟩,
    ⟨(some (Pos.ofNat 223)), none, .pick (tm 221) (tm 222) (vl (.bool false)), true, 0⟩,
    ⟨(some (Pos.ofNat 2)), none, .mov (tm 223), true, 0⟩]

noncomputable def writes_fu : Fu := ⟨[.tmp (Pos.ofNat 2)], 224, (.seq (.region writes_0) (.seq (.drawn writes_1) (.seq (.seq (.region writes_2) (.cond (tm 27) (.seq (.region writes_3) .ret) .skip)) (.seq (.region writes_4) (.seq (.region writes_5) (.seq (.region writes_6) (.seq (.region writes_7) (.seq (.region writes_8) (.seq (.region writes_9) (.seq (.region writes_10) (.seq (.seq (.drawn writes_11) (.cond (tm 82) (.seq (.region writes_12) .ret) .skip)) (.seq (.seq (.region writes_13) (.cond (tm 84) (.seq (.drawn writes_14) (.cond (tm 113) (.seq (.region writes_15) .ret) .skip)) (.seq (.region writes_16) (.cond (tm 139) (.seq (.region writes_17) .ret) .skip)))) (.seq (.seq (.region writes_18) (.cond (tm 141) (.seq (.drawn writes_19) (.cond (tm 161) (.seq (.region writes_20) .ret) .skip)) (.seq (.region writes_21) (.cond (tm 178) (.seq (.region writes_22) .ret) .skip)))) (.seq (.seq (.region writes_23) (.cond (tm 180) (.seq (.drawn writes_24) .ret) .skip)) (.seq (.region writes_25) .ret)))))))))))))))⟩

theorem writes_code : compFn Tryd.prog 3 = some writes_fu := by kernel_rfl

/-! (some estuary/estuarylaw06.known) -/

noncomputable def known_0 : List O := [
    ⟨(some (Pos.ofNat 0)), none, .mov (vl (.bool false)), true, 0⟩]

noncomputable def known_1 : List O := [
    ⟨(some (Pos.ofNat 14)), none, .call (.value (vl (.fn (.func 26) [] []))) [], true, 0⟩,
    ⟨(some (Pos.ofNat 15)), none, .call (.value (vl (.fn (.func 8) [] []))) [(tm 14)], true, 0⟩,
    ⟨(some (Pos.ofNat 13)), none, .mov (tm 15), true, 0⟩,
    ⟨(some (Pos.ofNat 16)), none, .extract (tm 13) 0, true, 0⟩,
    ⟨(some (Pos.ofNat 17)), none, .extract (tm 13) 1, true, 0⟩,
    ⟨(some (Pos.ofNat 1)), none, .mov (tm 16), true, 0⟩,
    ⟨(some (Pos.ofNat 2)), none, .mov (tm 17), true, 0⟩]

noncomputable def known_2 : List O := [
    ⟨(some (Pos.ofNat 19)), none, .call (.value (vl (.fn (.func 26) [] []))) [], true, 0⟩,
    ⟨(some (Pos.ofNat 20)), none, .call (.value (vl (.fn (.func 5) [] []))) [(tm 19)], true, 0⟩,
    ⟨(some (Pos.ofNat 18)), none, .mov (tm 20), true, 0⟩,
    ⟨(some (Pos.ofNat 21)), none, .extract (tm 18) 0, true, 0⟩,
    ⟨(some (Pos.ofNat 22)), none, .extract (tm 18) 1, true, 0⟩,
    ⟨(some (Pos.ofNat 3)), none, .mov (tm 21), true, 0⟩,
    ⟨(some (Pos.ofNat 4)), none, .mov (tm 22), true, 0⟩]

noncomputable def known_3 : List O := [
    ⟨(some (Pos.ofNat 24)), none, .call (.value (vl (.fn (.func 27) [] []))) [(vl (.str 9 907235896815422156851))], true, 0⟩,
    ⟨(some (Pos.ofNat 23)), none, .mov (tm 24), true, 0⟩,
    ⟨(some (Pos.ofNat 25)), none, .extract (tm 23) 0, true, 0⟩,
    ⟨(some (Pos.ofNat 26)), none, .extract (tm 23) 1, true, 0⟩,
    ⟨(some (Pos.ofNat 5)), none, .new [(int64 (0)), (.str 0 0), (int64 (0))], true, 0⟩,
    ⟨none, none, .store 3 (tm 5) (tm 25), true, 0⟩,
    ⟨(some (Pos.ofNat 6)), none, .mov (tm 26), true, 0⟩]

noncomputable def known_4 : List O := [
    ⟨(some (Pos.ofNat 28)), none, .build [(int64 (0)), (.str 0 0)] [(0, 1, (vl (int64 (8)))), (1, 1, (vl (.str 1 97)))], true, 0⟩,
    ⟨(some (Pos.ofNat 29)), none, .call (.value (vl (.fn (.func 7) [] []))) [(tm 28)], true, 0⟩,
    ⟨(some (Pos.ofNat 27)), none, .mov (tm 29), true, 0⟩,
    ⟨(some (Pos.ofNat 30)), none, .extract (tm 27) 0, true, 0⟩,
    ⟨(some (Pos.ofNat 31)), none, .extract (tm 27) 1, true, 0⟩,
    ⟨(some (Pos.ofNat 7)), none, .mov (tm 30), true, 0⟩,
    ⟨(some (Pos.ofNat 8)), none, .mov (tm 31), true, 0⟩]

noncomputable def known_5 : List O := [
    ⟨(some (Pos.ofNat 33)), none, .call (.value (vl (.fn (.func 26) [] []))) [], true, 0⟩,
    ⟨(some (Pos.ofNat 34)), none, .call (.value (vl (.fn (.func 11) [] []))) [(tm 33)], true, 0⟩,
    ⟨(some (Pos.ofNat 32)), none, .mov (tm 34), true, 0⟩,
    ⟨(some (Pos.ofNat 35)), none, .extract (tm 32) 0, true, 0⟩,
    ⟨(some (Pos.ofNat 36)), none, .extract (tm 32) 1, true, 0⟩,
    ⟨(some (Pos.ofNat 9)), none, .mov (tm 35), true, 0⟩,
    ⟨(some (Pos.ofNat 10)), none, .mov (tm 36), true, 0⟩]

noncomputable def known_6 : List O := [
    ⟨(some (Pos.ofNat 38)), none, .mov (tm 9), true, 0⟩,
    ⟨(some (Pos.ofNat 39)), none, .call (.value (vl (.fn (.func 28) [] []))) [(tm 38)], true, 0⟩,
    ⟨(some (Pos.ofNat 37)), none, .mov (tm 39), true, 0⟩,
    ⟨(some (Pos.ofNat 40)), none, .extract (tm 37) 0, true, 0⟩,
    ⟨(some (Pos.ofNat 41)), none, .extract (tm 37) 1, true, 0⟩,
    ⟨(some (Pos.ofNat 11)), none, .new [(int64 (0)), (int64 (0)), (.str 0 0), (int64 (0)), (int64 (0))], true, 0⟩,
    ⟨none, none, .store 5 (tm 11) (tm 40), true, 0⟩,
    ⟨(some (Pos.ofNat 12)), none, .mov (tm 41), true, 0⟩]

noncomputable def known_7 : List O := [
    ⟨(some (Pos.ofNat 42)), none, .mov (tm 1), true, 0⟩,
    ⟨(some (Pos.ofNat 43)), none, .bin .eql .other true (tm 42) (vl (.str 12 16458548360623146332522229296)), true, 1⟩,
    ⟨(some (Pos.ofNat 44)), none, .mov (tm 43), true, 3⟩,
    ⟨(some (Pos.ofNat 45)), (some ((Pos.ofNat 44), true)), .mov (tm 2), true, 7⟩,
    ⟨(some (Pos.ofNat 46)), (some ((Pos.ofNat 44), true)), .call (.value (vl (.fn (.func 21) [] []))) [(tm 45)], true, 15⟩,
    ⟨(some (Pos.ofNat 47)), (some ((Pos.ofNat 44), true)), .bin .eql .other true (tm 46) (vl (int64 (0))), true, 31⟩,
    ⟨(some (Pos.ofNat 48)), none, .pick (tm 44) (tm 47) (vl (.bool false)), true, 63⟩,
    ⟨(some (Pos.ofNat 49)), none, .mov (tm 48), true, 127⟩,
    ⟨(some (Pos.ofNat 50)), (some ((Pos.ofNat 49), true)), .mov (tm 3), true, 255⟩,
    ⟨(some (Pos.ofNat 51)), (some ((Pos.ofNat 49), true)), .bytesStr (tm 50), true, 511⟩,
    ⟨(some (Pos.ofNat 52)), (some ((Pos.ofNat 49), true)), .bin .eql .other true (tm 51) (vl (.str 9 92307024127640601344)), true, 1023⟩,
    ⟨(some (Pos.ofNat 53)), none, .pick (tm 49) (tm 52) (vl (.bool false)), true, 2047⟩,
    ⟨(some (Pos.ofNat 54)), none, .mov (tm 53), true, 4095⟩,
    ⟨(some (Pos.ofNat 55)), (some ((Pos.ofNat 54), true)), .mov (tm 4), true, 8191⟩,
    ⟨(some (Pos.ofNat 56)), (some ((Pos.ofNat 54), true)), .call (.value (vl (.fn (.func 21) [] []))) [(tm 55)], true, 16383⟩,
    ⟨(some (Pos.ofNat 57)), (some ((Pos.ofNat 54), true)), .bin .eql .other true (tm 56) (vl (int64 (0))), true, 32767⟩,
    ⟨(some (Pos.ofNat 58)), none, .pick (tm 54) (tm 57) (vl (.bool false)), true, 65535⟩,
    ⟨(some (Pos.ofNat 59)), none, .mov (tm 58), true, 131071⟩,
    ⟨(some (Pos.ofNat 60)), (some ((Pos.ofNat 59), true)), .mov (tm 6), true, 262143⟩,
    ⟨(some (Pos.ofNat 61)), (some ((Pos.ofNat 59), true)), .call (.value (vl (.fn (.func 21) [] []))) [(tm 60)], true, 524287⟩,
    ⟨(some (Pos.ofNat 62)), (some ((Pos.ofNat 59), true)), .bin .eql .other true (tm 61) (vl (int64 (4))), true, 1048575⟩,
    ⟨(some (Pos.ofNat 63)), none, .pick (tm 59) (tm 62) (vl (.bool false)), true, 2097151⟩,
    ⟨(some (Pos.ofNat 64)), none, .mov (tm 63), true, 4194303⟩,
    ⟨(some (Pos.ofNat 65)), (some ((Pos.ofNat 64), true)), .mov (tm 8), true, 8388607⟩,
    ⟨(some (Pos.ofNat 66)), (some ((Pos.ofNat 64), true)), .call (.value (vl (.fn (.func 21) [] []))) [(tm 65)], true, 16777215⟩,
    ⟨(some (Pos.ofNat 67)), (some ((Pos.ofNat 64), true)), .bin .eql .other true (tm 66) (vl (int64 (2))), true, 33554431⟩,
    ⟨(some (Pos.ofNat 68)), none, .pick (tm 64) (tm 67) (vl (.bool false)), true, 67108863⟩,
    ⟨(some (Pos.ofNat 69)), none, .mov (tm 68), true, 134217727⟩,
    ⟨(some (Pos.ofNat 70)), (some ((Pos.ofNat 69), true)), .mov (tm 9), true, 268435455⟩,
    ⟨(some (Pos.ofNat 71)), (some ((Pos.ofNat 69), true)), .bin .eql .other true (tm 70) (vl (.str 23 6653550776190583979263364047203992320)), true, 536870911⟩,
    ⟨(some (Pos.ofNat 72)), none, .pick (tm 69) (tm 71) (vl (.bool false)), true, 1073741823⟩,
    ⟨(some (Pos.ofNat 73)), none, .mov (tm 72), true, 2147483647⟩,
    ⟨(some (Pos.ofNat 74)), (some ((Pos.ofNat 73), true)), .mov (tm 10), true, 4294967295⟩,
    ⟨(some (Pos.ofNat 75)), (some ((Pos.ofNat 73), true)), .call (.value (vl (.fn (.func 21) [] []))) [(tm 74)], true, 8589934591⟩,
    ⟨(some (Pos.ofNat 76)), (some ((Pos.ofNat 73), true)), .bin .eql .other true (tm 75) (vl (int64 (0))), true, 17179869183⟩,
    ⟨(some (Pos.ofNat 77)), none, .pick (tm 73) (tm 76) (vl (.bool false)), true, 34359738367⟩,
    ⟨(some (Pos.ofNat 78)), none, .mov (tm 77), true, 68719476735⟩,
    ⟨(some (Pos.ofNat 79)), (some ((Pos.ofNat 78), true)), .loadN 5 (tm 11), true, 137438953471⟩,
    ⟨(some (Pos.ofNat 80)), (some ((Pos.ofNat 78), true)), .call (.value (vl (.fn (.func 26) [] []))) [], true, 137438953471⟩,
    ⟨(some (Pos.ofNat 81)), (some ((Pos.ofNat 78), true)), .bin .eql (.flat [.int, .int, .str, .int, .int]) false (tm 79) (tm 80), true, 549755813887⟩,
    ⟨(some (Pos.ofNat 82)), none, .pick (tm 78) (tm 81) (vl (.bool false)), true, 1099511627775⟩,
    ⟨(some (Pos.ofNat 83)), none, .mov (tm 82), true, 2199023255551⟩,
    ⟨(some (Pos.ofNat 84)), (some ((Pos.ofNat 83), true)), .mov (tm 12), true, 4398046511103⟩,
    ⟨(some (Pos.ofNat 85)), (some ((Pos.ofNat 83), true)), .call (.value (vl (.fn (.func 21) [] []))) [(tm 84)], true, 8796093022207⟩,
    ⟨(some (Pos.ofNat 86)), (some ((Pos.ofNat 83), true)), .bin .eql .other true (tm 85) (vl (int64 (0))), true, 17592186044415⟩,
    ⟨(some (Pos.ofNat 87)), none, .pick (tm 83) (tm 86) (vl (.bool false)), true, 35184372088831⟩,
    ⟨(some (Pos.ofNat 0)), none, .mov (tm 87), true, 70368744177663⟩]

noncomputable def known_fu : Fu := ⟨[.tmp (Pos.ofNat 0)], 88, (.seq (.region known_0) (.seq (.region known_1) (.seq (.region known_2) (.seq (.region known_3) (.seq (.region known_4) (.seq (.region known_5) (.seq (.region known_6) (.seq (.drawn known_7) .ret))))))))⟩

theorem known_code : compFn Tryd.prog 4 = some known_fu := by kernel_rfl


theorem ok_label : okCall Tryd.prog 35 = true := by kernel_rfl
theorem ok_number : okCall Tryd.prog 30 = true := by kernel_rfl
theorem ok_bytes : okCall Tryd.prog 46 = true := by kernel_rfl
theorem ok_join : okCall Tryd.prog 29 = true := by kernel_rfl
theorem ok_form : okCall Tryd.prog 31 = true := by kernel_rfl
theorem ok_branch : okCall Tryd.prog 16 = true := by kernel_rfl
theorem ok_name : okCall Tryd.prog 14 = true := by kernel_rfl
theorem ok_stamp : okCall Tryd.prog 12 = true := by kernel_rfl
theorem ok_putb : okCall Tryd.prog 7 = true := by kernel_rfl
theorem ok_putn : okCall Tryd.prog 6 = true := by kernel_rfl
theorem ok_put : okCall Tryd.prog 5 = true := by kernel_rfl
theorem ok_digits : okCall Tryd.prog 33 = true := by kernel_rfl
theorem ok_text : okCall Tryd.prog 32 = true := by kernel_rfl
theorem ok_textb : okCall Tryd.prog 10 = true := by kernel_rfl
theorem ok_textn : okCall Tryd.prog 9 = true := by kernel_rfl
theorem ok_texts : okCall Tryd.prog 8 = true := by kernel_rfl
theorem ok_eight : okCall Tryd.prog 34 = true := by kernel_rfl
theorem ok_key : okCall Tryd.prog 11 = true := by kernel_rfl
theorem ok_rlabel : okCall Tryd.prog 36 = true := by kernel_rfl
theorem ok_rnumber : okCall Tryd.prog 37 = true := by kernel_rfl
theorem ok_rbytes : okCall Tryd.prog 40 = true := by kernel_rfl
theorem ok_rbranch : okCall Tryd.prog 17 = true := by kernel_rfl
theorem ok_rname : okCall Tryd.prog 15 = true := by kernel_rfl
theorem ok_rstamp : okCall Tryd.prog 13 = true := by kernel_rfl
theorem ok_rputb : okCall Tryd.prog 24 = true := by kernel_rfl
theorem ok_rputn : okCall Tryd.prog 22 = true := by kernel_rfl
theorem ok_rput : okCall Tryd.prog 18 = true := by kernel_rfl
theorem ok_rdigits : okCall Tryd.prog 38 = true := by kernel_rfl
theorem ok_rtextb : okCall Tryd.prog 25 = true := by kernel_rfl
theorem ok_rtextn : okCall Tryd.prog 23 = true := by kernel_rfl
theorem ok_rtext : okCall Tryd.prog 19 = true := by kernel_rfl
theorem ok_reight : okCall Tryd.prog 39 = true := by kernel_rfl
theorem ok_rkey : okCall Tryd.prog 20 = true := by kernel_rfl
theorem ok_num : okCall Tryd.prog 21 = true := by kernel_rfl
theorem ok_writes : okCall Tryd.prog 3 = true := by kernel_rfl
theorem ok_known : okCall Tryd.prog 4 = true := by kernel_rfl
end Go.Proofs.YtjhgembcdndmkaaDoor.St

namespace Go.Proofs.YtjhgembcdndmkaaDoor.St
open Go Go.RowKit Go.Proofs

/-- lower case letters alone? -/
def low (l : List UInt8) : Bool := l.all fun c => 97 ≤ c.toNat && c.toNat ≤ 122
def labelB (l : List UInt8) : Bool := low l && (1 ≤ l.length && l.length ≤ 12)

theorem low_no {l : List UInt8} {k : Nat} (hk : k < l.length) (h : (l[k].toNat : Int) < 97 ∨ 122 < (l[k].toNat : Int)) : labelB l = false := by
  have : low l = false := by
    rw [← Bool.not_eq_true]; intro q
    have := List.all_eq_true.1 q _ (List.getElem_mem hk)
    simp at this; omega
  unfold labelB; rw [this]; rfl
theorem low_step {l : List UInt8} {k : Nat} (hk : k < l.length) (h : low (l.take k) = true) (h1 : ¬ (l[k].toNat : Int) < 97) (h2 : ¬ 122 < (l[k].toNat : Int)) : low (l.take (k + 1)) = true := by
  unfold low at *
  rw [List.take_succ_eq_append_getElem hk, List.all_append, h]
  simp; omega

set_option maxHeartbeats 1600000 in
set_option maxRecDepth 1000000 in
theorem label_any (s : ByteArray) (w : World) (hs : s.size ≤ 9223372036854775807) :
    Calls Tryd.prog 35 #[.string s] w fun e w' => e = .returned (.bool (labelB s.data.toList)) ∧ Below w.heap.size w w' := by
  have hconv := run_bytes_of_string (P := Tryd.prog) w 9 29 5 s Tryd.underlying9 Tryd.underlying29 Tryd.underlying5
  generalize grownCap w s.size 0 5 = cap at hconv
  generalize hC : bytesRow s cap = C at hconv
  have hcell : ∀ j (hj : j < s.data.toList.length), (w.alloc (.cells C 5 (C.size, C.size + 1))).cell? ⟨w.heap.size, j, none⟩ = some (.int .u8 (s.data.toList[j].toNat : Int)) := by
    intro j hj
    subst hC
    unfold World.cell? World.alloc
    simp only [Array.getElem?_push_size]
    exact bytesRow_at s cap j (by simpa using hj)
  clear hC
  go_enter Tryd.func35, Tryd.ntmps35
  go_wp2
  go_loop [8] (fun i => ∃ k : Nat, k ≤ s.size ∧ i = .int .i64 k ∧ low (s.data.toList.take k) = true) (fun i => s.size - (intOf i).toNat)
  case atStart => exact ⟨0, Nat.zero_le _, rfl, rfl⟩
  case round =>
    obtain ⟨k, hk, rfl, hl⟩ := hrel
    have hsl : s.data.toList.length = s.size := by simp
    by_cases hlt : k < s.size
    · have hc := hcell k (by omega)
      have hkl : k < s.data.toList.length := by omega
      have hs1 := low_step hkl hl
      have hn1 := low_no hkl
      generalize (s.data.toList[k]).toNat = c at hc hs1 hn1
      clear hcell hconv
      go_wp2
      · go_ret
        exact ⟨rfl, by first | exact ((Below.refl _ _).alloc (Nat.le_refl _) _).drew | exact (Below.refl _ _).drew.alloc (Nat.le_refl _) _⟩
      · go_round
        case rel => exact ⟨k + 1, by omega, by go_num, hs1 (by omega) (by omega)⟩
        case measure => simp [intOf]; omega
      · go_ret
        exact ⟨rfl, by first | exact ((Below.refl _ _).alloc (Nat.le_refl _) _).drew | exact (Below.refl _ _).drew.alloc (Nat.le_refl _) _⟩
    · have hkk : k = s.size := by omega
      obtain rfl : s.size = k := hkk.symm
      have hfull : low s.data.toList = true := by rw [← hsl, List.take_length] at hl; exact hl
      have hB : labelB s.data.toList = (decide (1 ≤ s.size) && decide (s.size ≤ 12)) := by unfold labelB; rw [hfull, hsl]; simp
      have HB := Lib.hid hB
      clear hB hcell hconv hsl hl hfull
      go_wp2
      all_goals
        go_ret
        refine ⟨?_, by first | exact ((Below.refl _ _).alloc (Nat.le_refl _) _).drew | exact (Below.refl _ _).drew.alloc (Nat.le_refl _) _⟩
        rw [HB.out]
        first
          | (have h1 : 1 ≤ s.size := by omega
             simp [h1]
             by_cases h2 : s.size ≤ 12 <;> simp [h2] <;> omega)
          | (have h1 : ¬ 1 ≤ s.size := by omega
             simp [h1])
end Go.Proofs.YtjhgembcdndmkaaDoor.St

namespace Go.Proofs.YtjhgembcdndmkaaDoor.St
open Go Go.Proofs.YtjhgembcdndmkaaDoor.Am Go.Proofs

def branchB (r : Int) (s : List UInt8) : Bool := decide (0 ≤ r) && (decide (r < 8) && labelB s)

theorem rel_strOf {φ : Phi} {b : List UInt8} {x : Value} (h : Rel φ (strOf b) x) : x = .string ⟨b.toArray⟩ := by
  cases h with
  | str e hv =>
    rename_i s
    rw [unpack_pack] at e
    congr 1
    cases s with | mk d => cases d with | mk l => cases e; rfl
theorem relL_one {φ : Phi} {a : AV} {xs : Array Value} (h : RelL φ [a] xs.toList) : ∃ x, xs = #[x] ∧ Rel φ a x := by
  cases xs with
  | mk l =>
    cases h with
    | cons p q => cases q; exact ⟨_, rfl, p⟩

theorem label_kit (s : List UInt8) (hs : s.length ≤ 9000) (h : Hp) : KitFn Tryd.prog 35 [strOf s] h (.bool (labelB s)) := by
  intro φ w xs hR hx
  obtain ⟨x, rfl, p⟩ := relL_one hx
  obtain rfl := rel_strOf p
  exact (label_any ⟨s.toArray⟩ w (by show s.length ≤ _; omega)).mono fun e w' ⟨he, hb⟩ => ⟨_, he, .bool _, hb⟩

theorem boxed (P : Program) (l : List AV) (h : Hp) : ∃ h1, (∀ env x, ev env x = .agg l → evalOp P (.box x) env h = .val (.ptr h.next 0 0) h1) ∧ Arr h1 h.next l ∧ Only [] h h1 ∧ h1.next.num = h.next.num + 1 :=
  ⟨_, fun env x hx => by rw [qev_boxL, hx]; rfl, newH_arr h l, newH_only _ _ _, newH_next _ _⟩

theorem _root_.Go.Proofs.YtjhgembcdndmkaaDoor.Am.Arr.part2 {h : Hp} {id : Pos} {l : List AV} (a : Arr h id l) (P : Program) {i n : Nat} (hn : i + n ≤ l.length) : ∀ env x, ev env x = .ptr id 0 i → evalOp P (.loadN n x) env h = .val (.agg ((l.drop i).take n)) h := by
  intro env x hx
  obtain ⟨c, c1, _, c3⟩ := (a.gro.part hn).all
  rw [List.length_take, List.length_drop, Nat.min_eq_left (by omega)] at c1
  rw [qev_loadN P hx c1, c3]

theorem branch_fn (r : Int) (s : List UInt8) (hs : s.length ≤ 9000) (h : Hp) : ∃ h', AmFn Tryd.prog 16 [.agg [int64 r, strOf s]] h (.bool (branchB r s)) h' ∧ Only [] h h' := by
  obtain ⟨h1, bx, A, o1, n1⟩ := boxed Tryd.prog [int64 r, strOf s] h
  have l0 := A.one (i := 0) (by simp)
  have l1 := A.one (i := 1) (by simp)
  simp only [List.getElem_cons_zero, List.getElem_cons_succ] at l0 l1
  have kl := label_kit s hs h1
  obtain ⟨B, hB, env1, e1, f⟩ : ∃ B, (∀ a ∈ B, CallR Tryd.prog a) ∧ ∃ env', runS Tryd.prog true branch_fu.body B (setArgs .e 0 [.agg [int64 r, strOf s]]) h = some (.ret, [], env', h1) ∧ sv env' 2 = .bool (branchB r s) := by
    unfold branch_fu branchB
    by_cases c0 : 0 ≤ r
    · by_cases c1 : r < 8
      · refine ⟨[⟨35, [strOf s], h1, .bool (labelB s), h1⟩], fun a ha => by simp at ha; subst ha; exact .kit kl rfl, ?_⟩
        simp [branch_0, branch_1, runS, runR, Rs.seq, Rs.block, sv_args, runOps, wanted_no, wanted_sv, ev_tm, ev_vl, sv_setD, sv_set, setD_none, qev_mov, qev_bin, qev_un, qev_lenI, qev_lenS, qev_pick, qev_load1, qev_idxSl, idx2_sl, idxA2_ptr, opt_some, bin_add, bin_sub, bin_mul, bin_lss, bin_leq, bin_gtr, bin_geq, bin_eql, bin_neq, un_not, un_neg, qev_callv, qev_new1, qev_store1, qev_nilC, nilC_ptr, qev_fld, fld0, fldN, qev_extract, nth0, nth1, nth2, qev_eqPtr, sameP_nil, notIf, bx, l0, l1, c0, c1, callA_ok ok_label]
      · refine ⟨[], by simp, ?_⟩
        simp [branch_0, branch_1, runS, runR, Rs.seq, Rs.block, sv_args, runOps, wanted_no, wanted_sv, ev_tm, ev_vl, sv_setD, sv_set, setD_none, qev_mov, qev_bin, qev_un, qev_lenI, qev_lenS, qev_pick, qev_load1, qev_idxSl, idx2_sl, idxA2_ptr, opt_some, bin_add, bin_sub, bin_mul, bin_lss, bin_leq, bin_gtr, bin_geq, bin_eql, bin_neq, un_not, un_neg, qev_callv, qev_new1, qev_store1, qev_nilC, nilC_ptr, qev_fld, fld0, fldN, qev_extract, nth0, nth1, nth2, qev_eqPtr, sameP_nil, notIf, bx, l0, l1, c0, c1, callA_ok ok_label]
    · refine ⟨[], by simp, ?_⟩
      simp [branch_0, branch_1, runS, runR, Rs.seq, Rs.block, sv_args, runOps, wanted_no, wanted_sv, ev_tm, ev_vl, sv_setD, sv_set, setD_none, qev_mov, qev_bin, qev_un, qev_lenI, qev_lenS, qev_pick, qev_load1, qev_idxSl, idx2_sl, idxA2_ptr, opt_some, bin_add, bin_sub, bin_mul, bin_lss, bin_leq, bin_gtr, bin_geq, bin_eql, bin_neq, un_not, un_neg, qev_callv, qev_new1, qev_store1, qev_nilC, nilC_ptr, qev_fld, fld0, fldN, qev_extract, nth0, nth1, nth2, qev_eqPtr, sameP_nil, notIf, bx, l0, l1, c0, callA_ok ok_label]
  exact ⟨h1, AmFn.dos branch_code (by simp) (Dos.runRet _ hB e1) (vs := [sv env1 2]) rfl f, o1⟩

def nameB (r : Int) (s : List UInt8) (n : Int) : Bool := branchB r s && (decide (1 ≤ n) && decide (n ≤ 4611686018427387904))
def stampB (g r : Int) (s : List UInt8) (n i : Int) : Bool := decide (1 ≤ g) && (decide (g ≤ 4611686018427387904) && (nameB r s n && (decide (0 ≤ i) && decide (i < 64))))

theorem name_fn (r : Int) (s : List UInt8) (n : Int) (hs : s.length ≤ 9000) (h : Hp) : ∃ h', AmFn Tryd.prog 14 [.agg [int64 r, strOf s, int64 n]] h (.bool (nameB r s n)) h' ∧ Only [] h h' := by
  obtain ⟨h1, bx, A, o1, n1⟩ := boxed Tryd.prog [int64 r, strOf s, int64 n] h
  have l2 := A.one (i := 2) (by simp)
  simp only [List.getElem_cons_zero, List.getElem_cons_succ] at l2
  have lB := A.part2 Tryd.prog (i := 0) (n := 2) (by simp)
  obtain ⟨h2, kb, o2⟩ := branch_fn r s hs h1
  have l2' := A.only o2 (by simp) |>.one (i := 2) (by simp)
  simp only [List.getElem_cons_zero, List.getElem_cons_succ] at l2'
  obtain ⟨env1, e1, f⟩ : ∃ env', runS Tryd.prog true name_fu.body [⟨16, [.agg [int64 r, strOf s]], h1, .bool (branchB r s), h2⟩] (setArgs .e 0 [.agg [int64 r, strOf s, int64 n]]) h = some (.ret, [], env', h2) ∧ sv env' 2 = .bool (nameB r s n) := by
    unfold name_fu nameB
    cases branchB r s <;> by_cases c1 : 1 ≤ n <;>
    simp [name_0, name_1, runS, runR, Rs.seq, Rs.block, sv_args, runOps, wanted_no, wanted_sv, ev_tm, ev_vl, sv_setD, sv_set, setD_none, qev_mov, qev_bin, qev_un, qev_lenI, qev_lenS, qev_pick, qev_load1, qev_idxSl, idx2_sl, idxA2_ptr, opt_some, bin_add, bin_sub, bin_mul, bin_lss, bin_leq, bin_gtr, bin_geq, bin_eql, bin_neq, un_not, un_neg, qev_callv, qev_new1, qev_store1, qev_nilC, nilC_ptr, qev_fld, fld0, fldN, qev_extract, nth0, nth1, nth2, qev_eqPtr, sameP_nil, notIf, bx, lB, l2', c1, callA_ok ok_branch]
  exact ⟨h2, AmFn.dos name_code (by simp) (Dos.runRet _ (fun x hx => by simp at hx; subst hx; exact .fn kb) e1) (vs := [sv env1 2]) rfl f, o1.trans o2⟩

theorem stamp_fn (g r : Int) (s : List UInt8) (n i : Int) (hs : s.length ≤ 9000) (h : Hp) : ∃ h', AmFn Tryd.prog 12 [.agg [int64 g, int64 r, strOf s, int64 n, int64 i]] h (.bool (stampB g r s n i)) h' ∧ Only [] h h' := by
  obtain ⟨h1, bx, A, o1, n1⟩ := boxed Tryd.prog [int64 g, int64 r, strOf s, int64 n, int64 i] h
  have l0 := A.one (i := 0) (by simp)
  have l4 := A.one (i := 4) (by simp)
  have lN := A.part2 Tryd.prog (i := 1) (n := 3) (by simp)
  obtain ⟨h2, kb, o2⟩ := name_fn r s n hs h1
  have l4' := A.only o2 (by simp) |>.one (i := 4) (by simp)
  simp only [List.getElem_cons_zero, List.getElem_cons_succ] at l0 l4 l4'
  obtain ⟨B, hB, h3, o3, env1, e1, f⟩ : ∃ B, (∀ a ∈ B, CallR Tryd.prog a) ∧ ∃ h3, Only [] h1 h3 ∧ ∃ env', runS Tryd.prog true stamp_fu.body B (setArgs .e 0 [.agg [int64 g, int64 r, strOf s, int64 n, int64 i]]) h = some (.ret, [], env', h3) ∧ sv env' 2 = .bool (stampB g r s n i) := by
    unfold stamp_fu stampB
    by_cases c0 : 1 ≤ g
    · by_cases c1 : g ≤ 4611686018427387904
      · refine ⟨[⟨14, [.agg [int64 r, strOf s, int64 n]], h1, .bool (nameB r s n), h2⟩], fun a ha => by simp at ha; subst ha; exact .fn kb, h2, o2, ?_⟩
        cases nameB r s n <;> by_cases c2 : 0 ≤ i <;>
        simp [stamp_0, stamp_1, runS, runR, Rs.seq, Rs.block, sv_args, runOps, wanted_no, wanted_sv, ev_tm, ev_vl, sv_setD, sv_set, setD_none, qev_mov, qev_bin, qev_un, qev_lenI, qev_lenS, qev_pick, qev_load1, qev_idxSl, idx2_sl, idxA2_ptr, opt_some, bin_add, bin_sub, bin_mul, bin_lss, bin_leq, bin_gtr, bin_geq, bin_eql, bin_neq, un_not, un_neg, qev_callv, qev_new1, qev_store1, qev_nilC, nilC_ptr, qev_fld, fld0, fldN, qev_extract, nth0, nth1, nth2, qev_eqPtr, sameP_nil, notIf, bx, l0, lN, l4', c0, c1, c2, callA_ok ok_name]
      · refine ⟨[], by simp, h1, .refl _ _, ?_⟩
        simp [stamp_0, stamp_1, runS, runR, Rs.seq, Rs.block, sv_args, runOps, wanted_no, wanted_sv, ev_tm, ev_vl, sv_setD, sv_set, setD_none, qev_mov, qev_bin, qev_un, qev_lenI, qev_lenS, qev_pick, qev_load1, qev_idxSl, idx2_sl, idxA2_ptr, opt_some, bin_add, bin_sub, bin_mul, bin_lss, bin_leq, bin_gtr, bin_geq, bin_eql, bin_neq, un_not, un_neg, qev_callv, qev_new1, qev_store1, qev_nilC, nilC_ptr, qev_fld, fld0, fldN, qev_extract, nth0, nth1, nth2, qev_eqPtr, sameP_nil, notIf, bx, l0, l4, c0, c1, callA_ok ok_name]
    · refine ⟨[], by simp, h1, .refl _ _, ?_⟩
      simp [stamp_0, stamp_1, runS, runR, Rs.seq, Rs.block, sv_args, runOps, wanted_no, wanted_sv, ev_tm, ev_vl, sv_setD, sv_set, setD_none, qev_mov, qev_bin, qev_un, qev_lenI, qev_lenS, qev_pick, qev_load1, qev_idxSl, idx2_sl, idxA2_ptr, opt_some, bin_add, bin_sub, bin_mul, bin_lss, bin_leq, bin_gtr, bin_geq, bin_eql, bin_neq, un_not, un_neg, qev_callv, qev_new1, qev_store1, qev_nilC, nilC_ptr, qev_fld, fld0, fldN, qev_extract, nth0, nth1, nth2, qev_eqPtr, sameP_nil, notIf, bx, l0, l4, c0, callA_ok ok_name]
  exact ⟨h3, AmFn.dos stamp_code (by simp) (Dos.runRet _ hB e1) (vs := [sv env1 2]) rfl f, o1.trans o3⟩
end Go.Proofs.YtjhgembcdndmkaaDoor.St

namespace Go.Proofs.YtjhgembcdndmkaaDoor.St
open Go Go.Proofs.YtjhgembcdndmkaaDoor.Am Go.Proofs

/-- A number's form. -/
def numB (n : Nat) : List UInt8 := if n > 127 then UInt8.ofNat (n % 128 + 128) :: numB (n / 128) else [UInt8.ofNat n]
termination_by n
decreasing_by omega

theorem numB_more {m : Nat} (h : 127 < m) : numB m = UInt8.ofNat (m % 128 + 128) :: numB (m / 128) := by rw [numB, if_pos h]
theorem numB_last {m : Nat} (h : ¬ 127 < m) : numB m = [UInt8.ofNat m] := by rw [numB, if_neg h]

theorem len_le {n m k : Nat} (h : n < 18446744073709551616) (hp : m * 128 ^ k ≤ n) (hm : 0 < k → 0 < m) : k ≤ 9 := by
  rcases Nat.lt_or_ge 9 k with c | c
  · have h1 : 128 ^ 10 ≤ 128 ^ k := Nat.pow_le_pow_right (by omega) c
    have h2 : 1 * 128 ^ k ≤ m * 128 ^ k := Nat.mul_le_mul_right _ (hm (by omega))
    omega
  · exact c
theorem len_lt {n m k : Nat} (h : n < 18446744073709551616) (hp : m * 128 ^ k ≤ n) (hm : 127 < m) : k ≤ 8 := by
  rcases Nat.lt_or_ge 8 k with c | c
  · have h1 : 128 ^ 9 ≤ 128 ^ k := Nat.pow_le_pow_right (by omega) c
    have h2 : 128 * 128 ^ k ≤ m * 128 ^ k := Nat.mul_le_mul_right _ hm
    omega
  · exact c
theorem pow_more {m n k : Nat} (h : m * 128 ^ k ≤ n) : m / 128 * 128 ^ (k + 1) ≤ n := by
  rw [Nat.pow_succ]
  have : m / 128 * (128 ^ k * 128) = (m / 128 * 128) * 128 ^ k := by rw [Nat.mul_assoc, Nat.mul_comm (128 ^ k) 128]
  have h2 : (m / 128 * 128) * 128 ^ k ≤ m * 128 ^ k := Nat.mul_le_mul_right _ (Nat.div_mul_le_self _ _)
  omega

section
variable {N : Nat} {n : Nat}

/-- The loop of a number's form. -/
theorem number_loop (hn : n < 18446744073709551616) : ∀ (m : Nat) (acc : List UInt8) (env : T AV) (h : Hp) (v : AV), m * 128 ^ acc.length ≤ n → (0 < acc.length → 0 < m) → sv env 0 = u64v m → sv env 3 = v → Mine N h v acc → N ≤ h.next.num →
    ∃ env' h' v' acc' k, Loops Tryd.prog 30 number_5 env h (.exit 0) [] env' h' ∧ sv env' 0 = u64v k ∧ sv env' 3 = v' ∧ k ≤ 127 ∧ acc ++ numB m = acc' ++ numB k ∧ acc'.length ≤ 9 ∧ Mine N h' v' acc' ∧ N ≤ h'.next.num ∧ ∃ S, Only S h h' ∧ ∀ id ∈ S, N ≤ id.num := by
  intro m
  induction m using Nat.strongRecOn with
  | ind m ih =>
    intro acc env h v hp hm0 s0 s3 o hN
    by_cases hm : 127 < m
    · have hlen := len_lt hn hp hm
      have hm' : (127 : Int) < (m : Int) := by omega
      have hb := toNat8 (n := m % 128 + 128) (by omega)
      obtain ⟨h1, b1, r1, o1, n1⟩ := oneB Tryd.prog h (UInt8.ofNat (m % 128 + 128)) (.int .u8 0)
      rw [hb] at b1
      obtain ⟨v2, h2, S, p1, p2, p3, p4, p5⟩ := (o.more o1).push Tryd.prog (bytes := 0) r1 (by simp; omega) (by omega) (by omega)
      obtain ⟨env1, e1, f0, f3⟩ : ∃ env', runS Tryd.prog true number_5 [] env h = some (.upt [], [], env', h2) ∧ sv env' 0 = u64v (m / 128) ∧ sv env' 3 = v2 := by
        unfold number_5
        simp [number_2, number_3, number_4, runS, runR, Rs.seq, Rs.block, runOps, wanted_no, wanted_sv, ev_tm, ev_vl, sv_setD, sv_set, setD_none, qev_mov, qev_bin, qev_un, qev_lenI, qev_lenS, qev_pick, qev_load1, qev_idxSl, idx2_sl, idxA2_ptr, opt_some, bin_add, bin_sub, bin_mul, bin_lss, bin_leq, bin_gtr, bin_geq, bin_eql, bin_neq, un_not, un_neg, qev_callv, qev_new1, qev_store1, qev_nilC, nilC_ptr, qev_fld, fld0, fldN, qev_extract, nth0, nth1, nth2, qev_eqPtr, sameP_nil, notIf, s0, s3, hm', qev_conv, wrap8, bin_or128', bin_shr7, b1, p1]
      have hlt : m / 128 < m := by omega
      obtain ⟨env', h', v', acc', k, L, q0, q3, hk, e, hl, oo, hN', S2, o2, hS2⟩ := ih (m / 128) hlt (acc ++ [UInt8.ofNat (m % 128 + 128)]) env1 h2 v2 (by rw [List.length_append]; exact pow_more hp) (fun _ => by omega) f0 f3 p2 (by have := o1.next; have := p3.next; omega)
      refine ⟨env', h', v', acc', k, .more (M := []) (M1 := []) (Dos.runGo [] (by simp) e1) L, q0, q3, hk, ?_, hl, oo, hN', S ++ S2, ?_, fun id hid => ?_⟩
      · rw [numB_more hm, ← e, List.append_assoc]; rfl
      · exact ((o1.mono (S' := S ++ S2) (by simp)).trans (p3.mono fun id q => .inl (by simp [q]))).trans (o2.mono fun id q => .inl (by simp [q]))
      · rcases List.mem_append.1 hid with q | q
        · exact (o.old (p4 id q)).1
        · exact hS2 id q
    · have hm' : ¬ (127 : Int) < (m : Int) := by omega
      obtain ⟨env1, e1, f0, f3⟩ : ∃ env', runS Tryd.prog true number_5 [] env h = some (.exit 0, [], env', h) ∧ sv env' 0 = u64v m ∧ sv env' 3 = v := by
        unfold number_5
        simp [number_2, runS, runR, Rs.seq, Rs.block, runOps, wanted_no, wanted_sv, ev_tm, ev_vl, sv_setD, sv_set, setD_none, qev_mov, qev_bin, qev_un, qev_lenI, qev_lenS, qev_pick, qev_load1, qev_idxSl, idx2_sl, idxA2_ptr, opt_some, bin_add, bin_sub, bin_mul, bin_lss, bin_leq, bin_gtr, bin_geq, bin_eql, bin_neq, un_not, un_neg, qev_callv, qev_new1, qev_store1, qev_nilC, nilC_ptr, qev_fld, fld0, fldN, qev_extract, nth0, nth1, nth2, qev_eqPtr, sameP_nil, notIf, s0, s3, hm']
      exact ⟨env1, h, v, acc, m, .out (Dos.runExit [] (by simp) e1) (by simp), f0, f3, by omega, rfl, len_le hn hp hm0, o, hN, [], .refl _ _, by simp⟩
end

theorem numB_small {k : Nat} (h : k ≤ 127) : numB k = [UInt8.ofNat k] := numB_last (by omega)

theorem number_fn1 (n : Nat) (hn : n < 18446744073709551616) (h : Hp) : ∃ v h', AmFn Tryd.prog 30 [u64v n] h v h' ∧ Mine h.next.num h' v (numB n) ∧ Only [] h h' ∧ h.next.num < h'.next.num := by
  obtain ⟨h1, mk, g1, o1, n1⟩ := mkSl_room Tryd.prog (h := h) (l := 0) (c := 10) (bytes := 1) (z := .int .u8 0) (by omega) (by omega) (by omega)
  have mk := fun env => mk env (vl (int64 0)) (vl (int64 10)) rfl rfl
  obtain ⟨env1, e1, f0, f3⟩ : ∃ env', runS Tryd.prog true number_fu.body [] (setArgs .e 0 [u64v n]) h = some (.upt [.code (.loop number_5), .inBlock 0, .code (.seq (.region number_6) .ret)], [], env', h1) ∧ sv env' 0 = u64v n ∧ sv env' 3 = .sl h.next 0 0 0 10 true 1 := by
    simp [number_fu, number_0, number_1, runS, runR, Rs.seq, Rs.block, sv_args, runOps, wanted_no, wanted_sv, ev_tm, ev_vl, sv_setD, sv_set, setD_none, qev_mov, qev_bin, qev_un, qev_lenI, qev_lenS, qev_pick, qev_load1, qev_idxSl, idx2_sl, idxA2_ptr, opt_some, bin_add, bin_sub, bin_mul, bin_lss, bin_leq, bin_gtr, bin_geq, bin_eql, bin_neq, un_not, un_neg, qev_callv, qev_new1, qev_store1, qev_nilC, nilC_ptr, qev_fld, fld0, fldN, qev_extract, nth0, nth1, nth2, qev_eqPtr, sameP_nil, notIf, mk]
  have m1 : Mine h.next.num h1 (.sl h.next 0 0 0 10 true 1) [] := .inr ⟨h.next, List.replicate 10 (.int .u8 0), Nat.le_refl _, by simp, g1, by simp [byt], by simp⟩
  obtain ⟨env2, h2, v2, acc, k, L, q0, q3, hk, he, hl, m2, hN, S, o2, hS⟩ := number_loop hn n [] env1 h1 _ (by simp) (by simp) f0 f3 m1 (by omega)
  have hb := toNat8 (n := k) (by omega)
  obtain ⟨h3, b3, r3, o3, n3⟩ := oneB Tryd.prog h2 (UInt8.ofNat k) (.int .u8 0)
  rw [hb] at b3
  obtain ⟨v4, h4, S4, p1, p2, p3, p4, p5⟩ := (m2.more o3).push Tryd.prog (bytes := 0) r3 (by simp; omega) (by omega) (by omega)
  have hk8 : (k : Int) % 256 = k := by omega
  obtain ⟨env3, e3, z⟩ : ∃ env', runS Tryd.prog true (.seq (.region number_6) .ret) [] env2 h2 = some (.ret, [], env', h4) ∧ sv env' 2 = v4 := by
    simp [number_6, runS, runR, Rs.seq, Rs.block, runOps, wanted_no, wanted_sv, ev_tm, ev_vl, sv_setD, sv_set, setD_none, qev_mov, qev_bin, qev_un, qev_lenI, qev_lenS, qev_pick, qev_load1, qev_idxSl, idx2_sl, idxA2_ptr, opt_some, bin_add, bin_sub, bin_mul, bin_lss, bin_leq, bin_gtr, bin_geq, bin_eql, bin_neq, un_not, un_neg, qev_callv, qev_new1, qev_store1, qev_nilC, nilC_ptr, qev_fld, fld0, fldN, qev_extract, nth0, nth1, nth2, qev_eqPtr, sameP_nil, notIf, q0, q3, qev_conv, wrap8, hk8, b3, p1]
  refine ⟨v4, h4, AmFn.dos number_code (by simp) (Dos.run (M := []) [] (by simp) e1 (.leave (M := []) (M1 := []) (i := 0) (Dos.loop L) rfl (.ret (Dos.runRet [] (by simp) e3)))) (vs := [sv env3 2]) rfl z, ?_, ?_, by have := o2.next; have := o3.next; have := p3.next; omega⟩
  · rw [show numB n = acc ++ [UInt8.ofNat k] from he.trans (by rw [numB_small hk])]
    exact p2
  · exact (((o1.mono (S' := S ++ S4) (by simp)).trans (o2.mono fun id q => .inl (by simp [q]))).trans ((o3.mono (S' := S ++ S4) (by simp)).trans (p3.mono fun id q => .inl (by simp [q])))).mono fun id q => .inr (by
      rcases List.mem_append.1 q with q | q
      · exact hS id q
      · exact (m2.old (p4 id q)).1)

theorem number_fn (n : Nat) (hn : n < 18446744073709551616) (h : Hp) : ∃ v h', AmFn Tryd.prog 30 [u64v n] h v h' ∧ Mine h.next.num h' v (numB n) ∧ Only [] h h' :=
  let ⟨v, h', a, b, c, _⟩ := number_fn1 n hn h
  ⟨v, h', a, b, c⟩
end Go.Proofs.YtjhgembcdndmkaaDoor.St

namespace Go.Proofs.YtjhgembcdndmkaaDoor.St
open Go Go.Proofs.YtjhgembcdndmkaaDoor.Am Go.Proofs

theorem numB_length_le (n : Nat) (hn : n < 18446744073709551616) : (numB n).length ≤ 10 := by
  have key : ∀ k m : Nat, m < 128 ^ (k + 1) → (numB m).length ≤ k + 1 := by
    intro k
    induction k with
    | zero => intro m hm; rw [numB_small (by omega)]; simp
    | succ k ih =>
      intro m hm
      by_cases c : 127 < m
      · rw [numB_more c]
        have := ih (m / 128) (by rw [Nat.pow_succ] at hm; exact Nat.div_lt_of_lt_mul (by rw [Nat.mul_comm]; exact hm))
        simp; omega
      · rw [numB_small (by omega)]; simp
  exact key 9 n (by omega)

def bytB (b : List UInt8) : List UInt8 := numB b.length ++ b

theorem bytes_fn {h : Hp} {v : AV} {b : List UInt8} (hb : b.length ≤ 20000) (hv : SlN h 1 v b.length (byt b)) : ∃ v' h', AmFn Tryd.prog 46 [v] h v' h' ∧ Mine h.next.num h' v' (bytB b) ∧ Only [] h h' := by
  obtain ⟨v1, h1, k1, m1, o1⟩ := number_fn b.length (by omega) h
  have hnl := numB_length_le b.length (by omega)
  have n1 := o1.next
  obtain ⟨v2, h2, S, p1, p2, p3, p4, p5⟩ := m1.push Tryd.prog (bytes := 0) (hv.more o1) (by omega) (by omega) n1
  have ll := hv.lenI (P := Tryd.prog) h
  have lm : (b.length : Int) % 18446744073709551616 = b.length := by omega
  obtain ⟨env1, e1, z⟩ : ∃ env', runS Tryd.prog true bytes_fu.body [⟨30, [u64v b.length], h, v1, h1⟩] (setArgs .e 0 [v]) h = some (.ret, [], env', h2) ∧ sv env' 2 = v2 := by
    simp [bytes_fu, bytes_0, bytes_1, runS, runR, Rs.seq, Rs.block, sv_args, runOps, wanted_no, wanted_sv, ev_tm, ev_vl, sv_setD, sv_set, setD_none, qev_mov, qev_bin, qev_un, qev_lenI, qev_lenS, qev_pick, qev_load1, qev_idxSl, idx2_sl, idxA2_ptr, opt_some, bin_add, bin_sub, bin_mul, bin_lss, bin_leq, bin_gtr, bin_geq, bin_eql, bin_neq, un_not, un_neg, qev_callv, qev_new1, qev_store1, qev_nilC, nilC_ptr, qev_fld, fld0, fldN, qev_extract, nth0, nth1, nth2, qev_eqPtr, sameP_nil, notIf, ll, qev_conv, wrapU, lm, callA_ok ok_number, p1]
  exact ⟨v2, h2, AmFn.dos bytes_code (by simp) (Dos.runRet _ (fun x hx => by simp at hx; subst hx; exact .fn k1) e1) (vs := [sv env1 2]) rfl z, p2, ((o1.mono (S' := S) (by simp)).trans p3).mono fun id q => .inr (m1.old (p4 id q)).1⟩
end Go.Proofs.YtjhgembcdndmkaaDoor.St
