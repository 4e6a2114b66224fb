import Derived.Test.YtjhgembcdndmkaaGreatDoorProg
import Derived.KernelRfl
import Derived.WalkKit
import Derived.Outline
import Derived.OwnWalk
import Derived.IntWalk
import Derived.WalkLawsBesides
import Derived.Laws.IdiomStrings
import Derived.Lib.Hide
import Derived.Shelf.LaysM
import Derived.Shelf.LaysC
import Derived.Shelf.Strings.OnBuilder
import Derived.Shelf.Strconv.Itoa4
import Derived.Shelf.Strconv.ErrVarParseInt
import Derived.Shelf.Strconv.ParseIntPublic10
import Derived.Shelf.Strings.Cut
import Derived.Shelf.Strings.SplitShaped
import Derived.Test.YtjhgembcdndmkaaGreatDoorRows
import Derived.Lib.ParseIntBTie
import Derived.Lib.ParseIntBCases
import Derived.Lib.Split
import Derived.Lib.SplitLaws
import Derived.Lib.ItoaLen
import Derived.Lib.ItoaMem
import Derived.Lib.Join
import Derived.Test.YtjhgembcdndmkaaGreatDoorAmJ
/- THE WALK'S PARTS, part A: what the functions of the law compute, over the abstract machine that stands beside this text. No condition. -/
set_option linter.unusedSimpArgs false
set_option linter.unusedVariables false
namespace Go.Proofs.YtjhgembcdndmkaaGreatDoor.St
open Go Go.Proofs.YtjhgembcdndmkaaGreatDoor.Am Go.Proofs
noncomputable def branch_fu : Fu := ⟨[.tmp (Pos.ofNat 2)], 16, (.seq (.region [k 1 (.box (tm 0)) 0, k 2 (.mov (vl (.bool false))) 0]) (.seq (.region [k 3 (.fieldAddr 0 (tm 1)) 0, k 4 (.load1 (tm 3)) 0, k 5 (.bin .geq .other true (tm 4) (vl (int64 (0)))) 0, k 6 (.mov (tm 5)) 0, kg 7 6 true (.fieldAddr 0 (tm 1)) 0, kg 8 6 true (.load1 (tm 7)) 0, kg 9 6 true (.bin .lss .other true (tm 8) (vl (int64 (8)))) 0, k 10 (.pick (tm 6) (tm 9) (vl (.bool false))) 0, k 11 (.mov (tm 10)) 0, kg 12 11 true (.fieldAddr 1 (tm 1)) 0, kg 13 11 true (.load1 (tm 12)) 0, kg 14 11 true (.call (.value (vl (.fn (.func 92) [] []))) [(tm 13)]) 0, k 15 (.pick (tm 11) (tm 14) (vl (.bool false))) 0, k 2 (.mov (tm 15)) 0]) .ret))⟩
theorem branch_code : compFn Tryz.prog 41 = some branch_fu := by kernel_rfl
noncomputable def name_fu : Fu := ⟨[.tmp (Pos.ofNat 2)], 16, (.seq (.region [k 1 (.box (tm 0)) 0, k 2 (.mov (vl (.bool false))) 0]) (.seq (.region [k 3 (.fieldAddr 0 (tm 1)) 0, k 4 (.loadN 2 (tm 3)) 0, k 5 (.call (.value (vl (.fn (.func 41) [] []))) [(tm 4)]) 0, k 6 (.mov (tm 5)) 0, kg 7 6 true (.fieldAddr 2 (tm 1)) 0, kg 8 6 true (.load1 (tm 7)) 0, kg 9 6 true (.bin .geq .other true (tm 8) (vl (int64 (1)))) 0, k 10 (.pick (tm 6) (tm 9) (vl (.bool false))) 0, k 11 (.mov (tm 10)) 0, kg 12 11 true (.fieldAddr 2 (tm 1)) 0, kg 13 11 true (.load1 (tm 12)) 0, kg 14 11 true (.bin .leq .other true (tm 13) (vl (int64 (4611686018427387904)))) 0, k 15 (.pick (tm 11) (tm 14) (vl (.bool false))) 0, k 2 (.mov (tm 15)) 0]) .ret))⟩
theorem name_code : compFn Tryz.prog 42 = some name_fu := by kernel_rfl
noncomputable def stamp_fu : Fu := ⟨[.tmp (Pos.ofNat 2)], 26, (.seq (.region [k 1 (.box (tm 0)) 0, k 2 (.mov (vl (.bool false))) 0]) (.seq (.region [k 3 (.fieldAddr 0 (tm 1)) 0, k 4 (.load1 (tm 3)) 0, k 5 (.bin .geq .other true (tm 4) (vl (int64 (1)))) 0, k 6 (.mov (tm 5)) 0, kg 7 6 true (.fieldAddr 0 (tm 1)) 0, kg 8 6 true (.load1 (tm 7)) 0, kg 9 6 true (.bin .leq .other true (tm 8) (vl (int64 (4611686018427387904)))) 0, k 10 (.pick (tm 6) (tm 9) (vl (.bool false))) 0, k 11 (.mov (tm 10)) 0, kg 12 11 true (.fieldAddr 1 (tm 1)) 0, kg 13 11 true (.loadN 3 (tm 12)) 0, kg 14 11 true (.call (.value (vl (.fn (.func 42) [] []))) [(tm 13)]) 0, k 15 (.pick (tm 11) (tm 14) (vl (.bool false))) 0, k 16 (.mov (tm 15)) 0, kg 17 16 true (.fieldAddr 4 (tm 1)) 0, kg 18 16 true (.load1 (tm 17)) 0, kg 19 16 true (.bin .geq .other true (tm 18) (vl (int64 (0)))) 0, k 20 (.pick (tm 16) (tm 19) (vl (.bool false))) 0, k 21 (.mov (tm 20)) 0, kg 22 21 true (.fieldAddr 4 (tm 1)) 0, kg 23 21 true (.load1 (tm 22)) 0, kg 24 21 true (.bin .lss .other true (tm 23) (vl (int64 (64)))) 0, k 25 (.pick (tm 21) (tm 24) (vl (.bool false))) 0, k 2 (.mov (tm 25)) 0]) .ret))⟩
theorem stamp_code : compFn Tryz.prog 43 = some stamp_fu := by kernel_rfl
noncomputable def rlabel_0 : C := (.seq (.seq (.region [k 4 (.mov (tm 3)) 0, k 5 (.mov (tm 0)) 0, k 6 (.lenS (tm 5)) 0, k 7 (.bin .lss .other false (tm 4) (tm 6)) 0]) (.cond (tm 7) .skip (.exit 0))) (.seq (.block 1 (.seq (.region [k 10 (.mov (tm 0)) 0, k 11 (.mov (tm 3)) 0, k 12 (.idxStr (tm 10) (tm 11)) 0, k 13 (.bin .lss .other true (tm 12) (vl (.int .u8 (97)))) 0, k 14 (.mov (tm 13)) 0, kg 15 14 false (.mov (tm 0)) 0, kg 16 14 false (.mov (tm 3)) 0, kg 17 14 false (.idxStr (tm 15) (tm 16)) 0, kg 18 14 false (.bin .gtr .other true (tm 17) (vl (.int .u8 (122)))) 0, k 19 (.pick (tm 14) (vl (.bool true)) (tm 18)) 0]) (.cond (tm 19) (.seq (.region [k 2 (.mov (vl (.bool false))) 0]) .ret) .skip))) (.region [k 8 (.mov (tm 3)) 0, k 9 (.bin .add .other true (tm 8) (vl (int64 (1)))) 0, k 3 (.mov (tm 9)) 0])))
noncomputable def rlabel_fu : Fu := ⟨[.tmp (Pos.ofNat 2)], 28, (.seq (.region [k 2 (.mov (vl (.bool false))) 0]) (.seq (.seq (.region [k 3 (.mov (vl (int64 (0)))) 0]) (.block 0 (.loop rlabel_0))) (.seq (.region [k 20 (.mov (tm 0)) 0, k 21 (.lenS (tm 20)) 0, k 22 (.bin .geq .other true (tm 21) (vl (int64 (1)))) 0, k 23 (.mov (tm 22)) 0, kg 24 23 true (.mov (tm 0)) 0, kg 25 23 true (.lenS (tm 24)) 0, kg 26 23 true (.bin .leq .other true (tm 25) (vl (int64 (12)))) 0, k 27 (.pick (tm 23) (tm 26) (vl (.bool false))) 0, k 2 (.mov (tm 27)) 0]) .ret)))⟩
theorem rlabel_code : compFn Tryz.prog 96 = some rlabel_fu := by kernel_rfl
noncomputable def rbranch_fu : Fu := ⟨[.tmp (Pos.ofNat 2)], 16, (.seq (.region [k 1 (.box (tm 0)) 0, k 2 (.mov (vl (.bool false))) 0]) (.seq (.region [k 3 (.fieldAddr 0 (tm 1)) 0, k 4 (.load1 (tm 3)) 0, k 5 (.bin .geq .other true (tm 4) (vl (int64 (0)))) 0, k 6 (.mov (tm 5)) 0, kg 7 6 true (.fieldAddr 0 (tm 1)) 0, kg 8 6 true (.load1 (tm 7)) 0, kg 9 6 true (.bin .lss .other true (tm 8) (vl (int64 (8)))) 0, k 10 (.pick (tm 6) (tm 9) (vl (.bool false))) 0, k 11 (.mov (tm 10)) 0, kg 12 11 true (.fieldAddr 1 (tm 1)) 0, kg 13 11 true (.load1 (tm 12)) 0, kg 14 11 true (.call (.value (vl (.fn (.func 96) [] []))) [(tm 13)]) 0, k 15 (.pick (tm 11) (tm 14) (vl (.bool false))) 0, k 2 (.mov (tm 15)) 0]) .ret))⟩
theorem rbranch_code : compFn Tryz.prog 51 = some rbranch_fu := by kernel_rfl
noncomputable def rname_fu : Fu := ⟨[.tmp (Pos.ofNat 2)], 16, (.seq (.region [k 1 (.box (tm 0)) 0, k 2 (.mov (vl (.bool false))) 0]) (.seq (.region [k 3 (.fieldAddr 0 (tm 1)) 0, k 4 (.loadN 2 (tm 3)) 0, k 5 (.call (.value (vl (.fn (.func 51) [] []))) [(tm 4)]) 0, k 6 (.mov (tm 5)) 0, kg 7 6 true (.fieldAddr 2 (tm 1)) 0, kg 8 6 true (.load1 (tm 7)) 0, kg 9 6 true (.bin .geq .other true (tm 8) (vl (int64 (1)))) 0, k 10 (.pick (tm 6) (tm 9) (vl (.bool false))) 0, k 11 (.mov (tm 10)) 0, kg 12 11 true (.fieldAddr 2 (tm 1)) 0, kg 13 11 true (.load1 (tm 12)) 0, kg 14 11 true (.bin .leq .other true (tm 13) (vl (int64 (4611686018427387904)))) 0, k 15 (.pick (tm 11) (tm 14) (vl (.bool false))) 0, k 2 (.mov (tm 15)) 0]) .ret))⟩
theorem rname_code : compFn Tryz.prog 56 = some rname_fu := by kernel_rfl
noncomputable def rstamp_fu : Fu := ⟨[.tmp (Pos.ofNat 2)], 26, (.seq (.region [k 1 (.box (tm 0)) 0, k 2 (.mov (vl (.bool false))) 0]) (.seq (.region [k 3 (.fieldAddr 0 (tm 1)) 0, k 4 (.load1 (tm 3)) 0, k 5 (.bin .geq .other true (tm 4) (vl (int64 (1)))) 0, k 6 (.mov (tm 5)) 0, kg 7 6 true (.fieldAddr 0 (tm 1)) 0, kg 8 6 true (.load1 (tm 7)) 0, kg 9 6 true (.bin .leq .other true (tm 8) (vl (int64 (4611686018427387904)))) 0, k 10 (.pick (tm 6) (tm 9) (vl (.bool false))) 0, k 11 (.mov (tm 10)) 0, kg 12 11 true (.fieldAddr 1 (tm 1)) 0, kg 13 11 true (.loadN 3 (tm 12)) 0, kg 14 11 true (.call (.value (vl (.fn (.func 56) [] []))) [(tm 13)]) 0, k 15 (.pick (tm 11) (tm 14) (vl (.bool false))) 0, k 16 (.mov (tm 15)) 0, kg 17 16 true (.fieldAddr 4 (tm 1)) 0, kg 18 16 true (.load1 (tm 17)) 0, kg 19 16 true (.bin .geq .other true (tm 18) (vl (int64 (0)))) 0, k 20 (.pick (tm 16) (tm 19) (vl (.bool false))) 0, k 21 (.mov (tm 20)) 0, kg 22 21 true (.fieldAddr 4 (tm 1)) 0, kg 23 21 true (.load1 (tm 22)) 0, kg 24 21 true (.bin .lss .other true (tm 23) (vl (int64 (64)))) 0, k 25 (.pick (tm 21) (tm 24) (vl (.bool false))) 0, k 2 (.mov (tm 25)) 0]) .ret))⟩
theorem rstamp_code : compFn Tryz.prog 59 = some rstamp_fu := by kernel_rfl
noncomputable def num_fu : Fu := ⟨[.tmp (Pos.ofNat 2)], 4, (.seq (.region [k 2 (.mov (vl (int64 (0)))) 0]) (.seq (.region [k 3 (.mov (tm 0)) 0, k 2 (.mov (tm 3)) 0]) .ret))⟩
theorem num_code : compFn Tryz.prog 17 = some num_fu := by kernel_rfl
theorem ok_label : okCall Tryz.prog 92 = true := by kernel_rfl
theorem ok_branch : okCall Tryz.prog 41 = true := by kernel_rfl
theorem ok_name : okCall Tryz.prog 42 = true := by kernel_rfl
theorem ok_stamp : okCall Tryz.prog 43 = true := by kernel_rfl
theorem ok_rlabel : okCall Tryz.prog 96 = true := by kernel_rfl
theorem ok_rbranch : okCall Tryz.prog 51 = true := by kernel_rfl
theorem ok_rname : okCall Tryz.prog 56 = true := by kernel_rfl
theorem ok_rstamp : okCall Tryz.prog 59 = true := by kernel_rfl
theorem ok_num : okCall Tryz.prog 17 = true := by kernel_rfl
theorem ok_known : okCall Tryz.prog 8 = true := by kernel_rfl
end Go.Proofs.YtjhgembcdndmkaaGreatDoor.St

namespace Go.Proofs.YtjhgembcdndmkaaGreatDoor.St
open Go Go.Proofs.YtjhgembcdndmkaaGreatDoor.Am Go.Proofs
noncomputable def takes_0 : C := (.seq (.seq (.region [k 44 (.mov (tm 7)) 0, k 45 (.mov (tm 1)) 0, k 46 (.bin .lss .other false (tm 44) (tm 45)) 0]) (.cond (tm 46) .skip (.exit 2))) (.seq (.block 3 (.seq (.region [k 49 (.mov (tm 6)) 0, k 50 (.call (.value (vl (.fn (.func 19) [] []))) [(tm 49)]) 0, k 51 (.mov (tm 0)) 0, k 52 (.lenL (tm 51)) 0, k 53 (.mov (tm 1)) 0, k 54 (.bin .sub .other false (tm 52) (tm 53)) 0, k 55 (.bin .gtr .other false (tm 50) (tm 54)) 0]) (.cond (tm 55) (.seq (.region [k 56 (.mov (tm 6)) 0, k 57 (.call (.value (vl (.fn (.func 20) [] []))) [(tm 56)]) 0]) (.region [k 58 (.mov (tm 6)) 0, k 59 (.call (.value (vl (.fn (.func 21) [] []))) [(tm 58)]) 0])) .skip))) (.region [k 47 (.mov (tm 7)) 0, k 48 (.bin .add .other true (tm 47) (vl (int64 (1)))) 0, k 7 (.mov (tm 48)) 0])))
noncomputable def takes_1 : C := (.seq (.seq (.region [k 36 (.mov (tm 5)) 0, k 37 (.bin .lss .other true (tm 36) (vl (int64 (3)))) 0]) (.cond (tm 37) .skip (.exit 0))) (.seq (.block 1 (.seq (.region [k 40 (.mov (tm 0)) 0, k 41 (.call (.value (vl (.fn (.func 18) [] []))) [(tm 40)]) 0, k 6 (.mov (tm 41)) 0]) (.seq (.seq (.region [k 42 (.mov (tm 6)) 0, k 43 (.eqPtr false (tm 42) (vl .nilPtr)) 0]) (.cond (tm 43) (.seq (.region [k 4 (.mov (vl (.bool false))) 0]) .ret) .skip)) (.seq (.seq (.region [k 7 (.mov (vl (int64 (0)))) 0]) (.block 2 (.loop takes_0))) (.seq (.region [k 60 (.mov (tm 0)) 0, k 61 (.mov (tm 0)) 0, k 62 (.lenL (tm 61)) 0, k 63 (.mov (tm 6)) 0, k 64 (.call (.value (vl (.fn (.func 19) [] []))) [(tm 63)]) 0, k 65 (.bin .sub .other false (tm 62) (tm 64)) 0, k 66 (.build [.nilSl, (int64 (0))] [(0, 1, (tm 60)), (1, 1, (tm 65))]) 0, k 67 (.box (tm 66)) 0, k 8 (.mov (tm 67)) 0]) (.seq (.region [k 9 (.mov (vl (.bool false))) 0]) (.seq (.seq (.region [k 68 (.mov (tm 5)) 0]) (.block 4 (.seq (.region [k 70 (.bin .eql .other true (tm 68) (vl (int64 (0)))) 0, k 69 (.mov (tm 70)) 0]) (.cond (tm 69) (.seq (.region [k 72 (.mov (tm 6)) 0, k 73 (.call (.value (vl (.fn (.func 22) [] []))) [(tm 72)]) 0, k 71 (.mov (tm 73)) 0, k 74 (.extract (tm 71) 0) 0, k 75 (.extract (tm 71) 1) 0, k 10 (.new [(int64 (0)), (.str 0 0)]) 0, kn (.store 2 (tm 10) (tm 74)) 0, k 11 (.mov (tm 75)) 0]) (.seq (.region [k 77 (.mov (tm 8)) 0, k 78 (.call (.value (vl (.fn (.func 23) [] []))) [(tm 77)]) 0, k 76 (.mov (tm 78)) 0, k 79 (.extract (tm 76) 0) 0, k 80 (.extract (tm 76) 1) 0, k 12 (.new [(int64 (0)), (.str 0 0)]) 0, kn (.store 2 (tm 12) (tm 79)) 0, k 13 (.mov (tm 80)) 0]) (.region [k 81 (.loadN 2 (tm 10)) 0, k 82 (.loadN 2 (tm 12)) 0, k 83 (.bin .eql (.flat [.int, .str]) false (tm 81) (tm 82)) 0, k 84 (.mov (tm 83)) 0, kg 85 84 true (.mov (tm 11)) 0, kg 86 84 true (.call (.value (vl (.fn (.func 17) [] []))) [(tm 85)]) 0, kg 87 84 true (.mov (tm 13)) 0, kg 88 84 true (.bin .eql .other false (tm 86) (tm 87)) 0, k 89 (.pick (tm 84) (tm 88) (vl (.bool false))) 0, k 9 (.mov (tm 89)) 0]))) (.seq (.region [k 91 (.bin .eql .other true (tm 68) (vl (int64 (1)))) 0, k 90 (.mov (tm 91)) 0]) (.cond (tm 90) (.seq (.region [k 93 (.mov (tm 6)) 0, k 94 (.call (.value (vl (.fn (.func 24) [] []))) [(tm 93)]) 0, k 92 (.mov (tm 94)) 0, k 95 (.extract (tm 92) 0) 0, k 96 (.extract (tm 92) 1) 0, k 14 (.new [(int64 (0)), (.str 0 0), (int64 (0))]) 0, kn (.store 3 (tm 14) (tm 95)) 0, k 15 (.mov (tm 96)) 0]) (.seq (.region [k 98 (.mov (tm 8)) 0, k 99 (.call (.value (vl (.fn (.func 25) [] []))) [(tm 98)]) 0, k 97 (.mov (tm 99)) 0, k 100 (.extract (tm 97) 0) 0, k 101 (.extract (tm 97) 1) 0, k 16 (.new [(int64 (0)), (.str 0 0), (int64 (0))]) 0, kn (.store 3 (tm 16) (tm 100)) 0, k 17 (.mov (tm 101)) 0]) (.region [k 102 (.loadN 3 (tm 14)) 0, k 103 (.loadN 3 (tm 16)) 0, k 104 (.bin .eql (.flat [.int, .str, .int]) false (tm 102) (tm 103)) 0, k 105 (.mov (tm 104)) 0, kg 106 105 true (.mov (tm 15)) 0, kg 107 105 true (.call (.value (vl (.fn (.func 17) [] []))) [(tm 106)]) 0, kg 108 105 true (.mov (tm 17)) 0, kg 109 105 true (.bin .eql .other false (tm 107) (tm 108)) 0, k 110 (.pick (tm 105) (tm 109) (vl (.bool false))) 0, k 9 (.mov (tm 110)) 0]))) (.seq (.region [k 112 (.bin .eql .other true (tm 68) (vl (int64 (2)))) 0, k 111 (.mov (tm 112)) 0]) (.cond (tm 111) (.seq (.region [k 114 (.mov (tm 6)) 0, k 115 (.call (.value (vl (.fn (.func 26) [] []))) [(tm 114)]) 0, k 113 (.mov (tm 115)) 0, k 116 (.extract (tm 113) 0) 0, k 117 (.extract (tm 113) 1) 0, k 18 (.new [(int64 (0)), (int64 (0)), (.str 0 0), (int64 (0)), (int64 (0))]) 0, kn (.store 5 (tm 18) (tm 116)) 0, k 19 (.mov (tm 117)) 0]) (.seq (.region [k 119 (.mov (tm 8)) 0, k 120 (.call (.value (vl (.fn (.func 27) [] []))) [(tm 119)]) 0, k 118 (.mov (tm 120)) 0, k 121 (.extract (tm 118) 0) 0, k 122 (.extract (tm 118) 1) 0, k 20 (.new [(int64 (0)), (int64 (0)), (.str 0 0), (int64 (0)), (int64 (0))]) 0, kn (.store 5 (tm 20) (tm 121)) 0, k 21 (.mov (tm 122)) 0]) (.region [k 123 (.loadN 5 (tm 18)) 0, k 124 (.loadN 5 (tm 20)) 0, k 125 (.bin .eql (.flat [.int, .int, .str, .int, .int]) false (tm 123) (tm 124)) 0, k 126 (.mov (tm 125)) 0, kg 127 126 true (.mov (tm 19)) 0, kg 128 126 true (.call (.value (vl (.fn (.func 17) [] []))) [(tm 127)]) 0, kg 129 126 true (.mov (tm 21)) 0, kg 130 126 true (.bin .eql .other false (tm 128) (tm 129)) 0, k 131 (.pick (tm 126) (tm 130) (vl (.bool false))) 0, k 9 (.mov (tm 131)) 0]))) .skip)))))))) (.seq (.region [k 132 (.mov (tm 9)) 0, k 133 (.un .not (tm 132)) 0, k 134 (.mov (tm 133)) 0, kg 135 134 false (.mov (tm 6)) 0, kg 136 134 false (.call (.value (vl (.fn (.func 19) [] []))) [(tm 135)]) 0, kg 137 134 false (.mov (tm 8)) 0, kg 138 134 false (.call (.value (vl (.fn (.func 28) [] []))) [(tm 137)]) 0, kg 139 134 false (.bin .neq .other false (tm 136) (tm 138)) 0, k 140 (.pick (tm 134) (vl (.bool true)) (tm 139)) 0]) (.cond (tm 140) (.seq (.region [k 4 (.mov (vl (.bool false))) 0]) .ret) .skip))))))))) (.region [k 38 (.mov (tm 5)) 0, k 39 (.bin .add .other true (tm 38) (vl (int64 (1)))) 0, k 5 (.mov (tm 39)) 0])))
noncomputable def takes_fu : Fu := ⟨[.tmp (Pos.ofNat 4)], 142, (.seq (.region [k 4 (.mov (vl (.bool false))) 0]) (.seq (.seq (.region [k 22 (.mov (tm 0)) 0, k 23 (.lenL (tm 22)) 0, k 24 (.bin .gtr .other true (tm 23) (vl (int64 (9000)))) 0, k 25 (.mov (tm 24)) 0, kg 26 25 false (.mov (tm 1)) 0, kg 27 25 false (.bin .lss .other true (tm 26) (vl (int64 (0)))) 0, k 28 (.pick (tm 25) (vl (.bool true)) (tm 27)) 0, k 29 (.mov (tm 28)) 0, kg 30 29 false (.mov (tm 1)) 0, kg 31 29 false (.mov (tm 0)) 0, kg 32 29 false (.lenL (tm 31)) 0, kg 33 29 false (.bin .gtr .other false (tm 30) (tm 32)) 0, k 34 (.pick (tm 29) (vl (.bool true)) (tm 33)) 0]) (.cond (tm 34) (.seq (.region [k 35 (.call (.value (vl (.fn (.func 8) [] []))) []) 0, k 4 (.mov (tm 35)) 0]) .ret) .skip)) (.seq (.seq (.region [k 5 (.mov (vl (int64 (0)))) 0]) (.block 0 (.loop takes_1))) (.seq (.region [k 141 (.call (.value (vl (.fn (.func 8) [] []))) []) 0, k 4 (.mov (tm 141)) 0]) .ret))))⟩
theorem takes_code : compFn Tryz.prog 4 = some takes_fu := by kernel_rfl
noncomputable def wopen_fu : Fu := ⟨[.tmp (Pos.ofNat 2)], 11, (.seq (.region [k 2 (.mov (vl .nilPtr)) 0]) (.seq (.region [k 3 (.mov (tm 0)) 0, k 4 (.lenL (tm 3)) 0, k 5 (.bin .add .other true (tm 4) (vl (int64 (1)))) 0, k 6 (.mkSl 1 1 [(.int .u8 (0))] (vl (int64 (0))) (tm 5)) 0, k 7 (.mov (tm 0)) 0, k 8 (.append 1 0 (tm 6) (tm 7)) 0, k 9 (.build [.nilSl, (int64 (0))] [(0, 1, (tm 8))]) 0, k 10 (.box (tm 9)) 0, k 2 (.mov (tm 10)) 0]) .ret))⟩
theorem wopen_code : compFn Tryz.prog 18 = some wopen_fu := by kernel_rfl
noncomputable def wleft_fu : Fu := ⟨[.tmp (Pos.ofNat 2)], 16, (.seq (.region [k 2 (.mov (vl (int64 (0)))) 0]) (.seq (.seq (.region [k 3 (.mov (tm 0)) 0, k 4 (.call (.value (vl (.fn (.func 64) [] []))) [(tm 3)]) 0, k 5 (.un .not (tm 4)) 0]) (.cond (tm 5) (.seq (.region [k 2 (.mov (vl (int64 (0)))) 0]) .ret) .skip)) (.seq (.drawn [k 6 (.mov (tm 0)) 0, k 7 (.nilCheck (tm 6)) 1, k 8 (.fieldAddr 0 (tm 7)) 3, k 9 (.load1 (tm 8)) 7, k 10 (.lenL (tm 9)) 15, k 11 (.mov (tm 0)) 0, k 12 (.nilCheck (tm 11)) 32, k 13 (.fieldAddr 1 (tm 12)) 96, k 14 (.load1 (tm 13)) 224, k 15 (.bin .sub .other false (tm 10) (tm 14)) 511, k 2 (.mov (tm 15)) 1023]) .ret)))⟩
theorem wleft_code : compFn Tryz.prog 19 = some wleft_fu := by kernel_rfl
noncomputable def wflag_fu : Fu := ⟨[.tmp (Pos.ofNat 2), .tmp (Pos.ofNat 3)], 44, (.seq (.region [k 2 (.mov (vl (.bool false))) 0, k 3 (.mov (vl (int64 (0)))) 0]) (.seq (.block 0 (.seq (.region [k 5 (.mov (tm 0)) 0, k 6 (.call (.value (vl (.fn (.func 64) [] []))) [(tm 5)]) 0, k 7 (.un .not (tm 6)) 0, k 4 (.mov (tm 7)) 0]) (.cond (tm 4) (.seq (.region [k 2 (.mov (vl (.bool false))) 0, k 3 (.mov (vl (int64 (1)))) 0]) .ret) (.seq (.drawn [k 9 (.mov (tm 0)) 0, k 10 (.call (.value (vl (.fn (.func 19) [] []))) [(tm 9)]) 1, k 11 (.bin .eql .other true (tm 10) (vl (int64 (0)))) 3, k 12 (.mov (tm 11)) 7, kg 13 12 false (.mov (tm 0)) 15, kg 14 12 false (.nilCheck (tm 13)) 31, kg 15 12 false (.fieldAddr 0 (tm 14)) 63, kg 16 12 false (.load1 (tm 15)) 127, kg 17 12 false (.mov (tm 0)) 15, kg 18 12 false (.nilCheck (tm 17)) 271, kg 19 12 false (.fieldAddr 1 (tm 18)) 783, kg 20 12 false (.load1 (tm 19)) 1807, kg 21 12 false (.idxAddrSl 1 (tm 16) (tm 20)) 4095, kg 22 12 false (.load1 (tm 21)) 8191, kg 23 12 false (.bin .gtr .other true (tm 22) (vl (.int .u8 (1)))) 16383, k 24 (.pick (tm 12) (vl (.bool true)) (tm 23)) 32767, k 8 (.mov (tm 24)) 65535]) (.cond (tm 8) (.seq (.region [k 2 (.mov (vl (.bool false))) 0, k 3 (.mov (vl (int64 (4)))) 0]) .ret) .skip))))) (.seq (.region [k 25 (.mov (tm 0)) 0, k 26 (.nilCheck (tm 25)) 0, k 27 (.fieldAddr 1 (tm 26)) 0, k 28 (.load1 (tm 27)) 0, k 29 (.bin .add .other true (tm 28) (vl (int64 (1)))) 0, k 30 (.nilCheck (tm 25)) 0, k 31 (.fieldAddr 1 (tm 30)) 0, kn (.store 1 (tm 31) (tm 29)) 0]) (.seq (.drawn [k 32 (.mov (tm 0)) 0, k 33 (.nilCheck (tm 32)) 1, k 34 (.fieldAddr 0 (tm 33)) 3, k 35 (.load1 (tm 34)) 7, k 36 (.mov (tm 0)) 0, k 37 (.nilCheck (tm 36)) 16, k 38 (.fieldAddr 1 (tm 37)) 48, k 39 (.load1 (tm 38)) 112, k 40 (.bin .sub .other true (tm 39) (vl (int64 (1)))) 240, k 41 (.idxAddrSl 1 (tm 35) (tm 40)) 511, k 42 (.load1 (tm 41)) 1023, k 43 (.bin .eql .other true (tm 42) (vl (.int .u8 (1)))) 2047, k 2 (.mov (tm 43)) 4095, k 3 (.mov (vl (int64 (0)))) 8191]) .ret))))⟩
theorem wflag_code : compFn Tryz.prog 20 = some wflag_fu := by kernel_rfl
noncomputable def wnum_0 : C := (.seq (.seq (.region [k 15 (.mov (tm 5)) 0, k 16 (.mov (tm 0)) 0, k 17 (.nilCheck (tm 16)) 0, k 18 (.fieldAddr 0 (tm 17)) 0, k 19 (.load1 (tm 18)) 0, k 20 (.lenL (tm 19)) 0, k 21 (.bin .lss .other false (tm 15) (tm 20)) 0]) (.cond (tm 21) .skip (.exit 0))) (.seq (.block 1 (.seq (.region [k 24 (.mov (tm 0)) 0, k 25 (.nilCheck (tm 24)) 0, k 26 (.fieldAddr 0 (tm 25)) 0, k 27 (.load1 (tm 26)) 0, k 28 (.mov (tm 5)) 0, k 29 (.idxAddrSl 1 (tm 27) (tm 28)) 0, k 30 (.load1 (tm 29)) 0, k 7 (.mov (tm 30)) 0]) (.seq (.seq (.region [k 31 (.mov (tm 6)) 0, k 32 (.bin .eql .other true (tm 31) (vl (.int .u64 (63)))) 0, k 33 (.mov (tm 32)) 0, kg 34 33 true (.mov (tm 7)) 0, kg 35 33 true (.bin .gtr .other true (tm 34) (vl (.int .u8 (1)))) 0, k 36 (.pick (tm 33) (tm 35) (vl (.bool false))) 0, k 37 (.mov (tm 36)) 0, kg 38 37 false (.mov (tm 6)) 0, kg 39 37 false (.bin .gtr .other true (tm 38) (vl (.int .u64 (0)))) 0, kg 40 37 false (.mov (tm 39)) 0, kg 41 40 true (.mov (tm 7)) 0, kg 42 40 true (.bin .eql .other true (tm 41) (vl (.int .u8 (0)))) 0, kg 43 37 false (.pick (tm 40) (tm 42) (vl (.bool false))) 0, k 44 (.pick (tm 37) (vl (.bool true)) (tm 43)) 0]) (.cond (tm 44) (.exit 0) .skip)) (.seq (.region [k 45 (.mov (tm 5)) 0, k 46 (.bin .add .other true (tm 45) (vl (int64 (1)))) 0, k 5 (.mov (tm 46)) 0]) (.seq (.region [k 47 (.mov (tm 4)) 0, k 48 (.mov (tm 7)) 0, k 49 (.bin .and .other true (tm 48) (vl (.int .u8 (127)))) 0, k 50 (.convInt .u64 (tm 49)) 0, k 51 (.mov (tm 6)) 0, k 52 (.bin .shl .other false (tm 50) (tm 51)) 0, k 53 (.bin .or .other false (tm 47) (tm 52)) 0, k 4 (.mov (tm 53)) 0]) (.seq (.region [k 54 (.mov (tm 7)) 0, k 55 (.bin .lss .other true (tm 54) (vl (.int .u8 (128)))) 0]) (.cond (tm 55) (.seq (.region [k 56 (.mov (tm 0)) 0, k 57 (.mov (tm 5)) 0, k 58 (.nilCheck (tm 56)) 0, k 59 (.fieldAddr 1 (tm 58)) 0, kn (.store 1 (tm 59) (tm 57)) 0]) (.seq (.region [k 60 (.mov (tm 4)) 0, k 2 (.mov (tm 60)) 0, k 3 (.mov (vl (int64 (0)))) 0]) .ret)) .skip))))))) (.region [k 22 (.mov (tm 6)) 0, k 23 (.bin .add .other true (tm 22) (vl (.int .u64 (7)))) 0, k 6 (.mov (tm 23)) 0])))
noncomputable def wnum_fu : Fu := ⟨[.tmp (Pos.ofNat 2), .tmp (Pos.ofNat 3)], 61, (.seq (.region [k 2 (.mov (vl (.int .u64 (0)))) 0, k 3 (.mov (vl (int64 (0)))) 0]) (.scope (.seq (.seq (.region [k 8 (.mov (tm 0)) 0, k 9 (.call (.value (vl (.fn (.func 64) [] []))) [(tm 8)]) 0, k 10 (.un .not (tm 9)) 0]) (.cond (tm 10) (.seq (.region [k 2 (.mov (vl (.int .u64 (0)))) 0, k 3 (.mov (vl (int64 (1)))) 0]) .ret) .skip)) (.seq (.drawn [k 11 (.mov (tm 0)) 0, k 12 (.nilCheck (tm 11)) 1, k 13 (.fieldAddr 1 (tm 12)) 3, k 14 (.load1 (tm 13)) 7, k 4 (.mov (vl (.int .u64 (0)))) 0, k 5 (.mov (tm 14)) 31]) (.seq .label (.seq (.seq (.region [k 6 (.mov (vl (.int .u64 (0)))) 0]) (.block 0 (.loop wnum_0))) (.seq (.region [k 2 (.mov (vl (.int .u64 (0)))) 0, k 3 (.mov (vl (int64 (4)))) 0]) .ret)))))))⟩
theorem wnum_code : compFn Tryz.prog 21 = some wnum_fu := by kernel_rfl
noncomputable def tb_fu : Fu := ⟨[.cellN (Pos.ofNat 2) 2, .tmp (Pos.ofNat 3)], 8, (.seq (.region [k 2 (.new [(int64 (0)), (.str 0 0)]) 0, k 3 (.mov (vl (int64 (0)))) 0]) (.seq (.region [k 4 (.mov (tm 0)) 0, k 5 (.call (.value (vl (.fn (.func 65) [] []))) [(tm 4), (vl (.fn (.func 66) [] [])), (vl (.fn (.func 41) [] []))]) 0, k 6 (.extract (tm 5) 0) 0, k 7 (.extract (tm 5) 1) 0, kn (.store 2 (tm 2) (tm 6)) 0, k 3 (.mov (tm 7)) 0]) .ret))⟩
theorem tb_code : compFn Tryz.prog 22 = some tb_fu := by kernel_rfl
noncomputable def rtb_fu : Fu := ⟨[.cellN (Pos.ofNat 2) 2, .tmp (Pos.ofNat 3)], 38, (.seq (.region [k 2 (.new [(int64 (0)), (.str 0 0)]) 0, k 3 (.mov (vl (int64 (0)))) 0]) (.seq (.region [k 6 (.mov (tm 0)) 0, k 7 (.nilCheck (tm 6)) 0, k 8 (.fieldAddr 1 (tm 7)) 0, k 9 (.load1 (tm 8)) 0, k 4 (.mov (tm 9)) 0]) (.seq (.region [k 10 (.mov (tm 0)) 0, k 11 (.call (.value (vl (.fn (.func 67) [] []))) [(tm 10)]) 0, k 5 (.new [(int64 (0)), (.str 0 0)]) 0, kn (.store 2 (tm 5) (tm 11)) 0]) (.seq (.seq (.drawn [k 12 (.loadN 2 (tm 5)) 0, k 13 (.call (.value (vl (.fn (.func 51) [] []))) [(tm 12)]) 1, k 14 (.un .not (tm 13)) 3, k 15 (.mov (tm 14)) 7, kg 16 15 false (.mov (tm 0)) 15, kg 17 15 false (.nilCheck (tm 16)) 31, kg 18 15 false (.fieldAddr 0 (tm 17)) 63, kg 19 15 false (.load1 (tm 18)) 127, kg 20 15 false (.mov (tm 4)) 15, kg 21 15 false (.mov (tm 0)) 15, kg 22 15 false (.nilCheck (tm 21)) 527, kg 23 15 false (.fieldAddr 1 (tm 22)) 1551, kg 24 15 false (.load1 (tm 23)) 3599, kg 25 15 false (.sliceSl 1 (tm 19) (some (tm 20)) (some (tm 24)) none) 8191, kg 26 15 false (.bytesStr (tm 25)) 16383, kg 27 15 false (.loadN 2 (tm 5)) 15, kg 28 15 false (.call (.value (vl (.fn (.func 68) [] []))) [(tm 27)]) 32783, kg 29 15 false (.bytesStr (tm 28)) 98319, kg 30 15 false (.bin .neq .other false (tm 26) (tm 29)) 262143, k 31 (.pick (tm 15) (vl (.bool true)) (tm 30)) 524287]) (.cond (tm 31) (.seq (.region [k 32 (.mov (tm 0)) 0, k 33 (.mov (tm 4)) 0, k 34 (.nilCheck (tm 32)) 0, k 35 (.fieldAddr 1 (tm 34)) 0, kn (.store 1 (tm 35) (tm 33)) 0]) (.seq (.region [k 36 (.build [(int64 (0)), (.str 0 0)] []) 0, kn (.store 2 (tm 2) (tm 36)) 0, k 3 (.mov (vl (int64 (4)))) 0]) .ret)) .skip)) (.seq (.region [k 37 (.loadN 2 (tm 5)) 0, kn (.store 2 (tm 2) (tm 37)) 0, k 3 (.mov (vl (int64 (0)))) 0]) .ret)))))⟩
theorem rtb_code : compFn Tryz.prog 23 = some rtb_fu := by kernel_rfl
noncomputable def tn_fu : Fu := ⟨[.cellN (Pos.ofNat 2) 3, .tmp (Pos.ofNat 3)], 8, (.seq (.region [k 2 (.new [(int64 (0)), (.str 0 0), (int64 (0))]) 0, k 3 (.mov (vl (int64 (0)))) 0]) (.seq (.region [k 4 (.mov (tm 0)) 0, k 5 (.call (.value (vl (.fn (.func 69) [] []))) [(tm 4), (vl (.fn (.func 70) [] [])), (vl (.fn (.func 42) [] []))]) 0, k 6 (.extract (tm 5) 0) 0, k 7 (.extract (tm 5) 1) 0, kn (.store 3 (tm 2) (tm 6)) 0, k 3 (.mov (tm 7)) 0]) .ret))⟩
theorem tn_code : compFn Tryz.prog 24 = some tn_fu := by kernel_rfl
noncomputable def rtn_fu : Fu := ⟨[.cellN (Pos.ofNat 2) 3, .tmp (Pos.ofNat 3)], 38, (.seq (.region [k 2 (.new [(int64 (0)), (.str 0 0), (int64 (0))]) 0, k 3 (.mov (vl (int64 (0)))) 0]) (.seq (.region [k 6 (.mov (tm 0)) 0, k 7 (.nilCheck (tm 6)) 0, k 8 (.fieldAddr 1 (tm 7)) 0, k 9 (.load1 (tm 8)) 0, k 4 (.mov (tm 9)) 0]) (.seq (.region [k 10 (.mov (tm 0)) 0, k 11 (.call (.value (vl (.fn (.func 71) [] []))) [(tm 10)]) 0, k 5 (.new [(int64 (0)), (.str 0 0), (int64 (0))]) 0, kn (.store 3 (tm 5) (tm 11)) 0]) (.seq (.seq (.drawn [k 12 (.loadN 3 (tm 5)) 0, k 13 (.call (.value (vl (.fn (.func 56) [] []))) [(tm 12)]) 1, k 14 (.un .not (tm 13)) 3, k 15 (.mov (tm 14)) 7, kg 16 15 false (.mov (tm 0)) 15, kg 17 15 false (.nilCheck (tm 16)) 31, kg 18 15 false (.fieldAddr 0 (tm 17)) 63, kg 19 15 false (.load1 (tm 18)) 127, kg 20 15 false (.mov (tm 4)) 15, kg 21 15 false (.mov (tm 0)) 15, kg 22 15 false (.nilCheck (tm 21)) 527, kg 23 15 false (.fieldAddr 1 (tm 22)) 1551, kg 24 15 false (.load1 (tm 23)) 3599, kg 25 15 false (.sliceSl 1 (tm 19) (some (tm 20)) (some (tm 24)) none) 8191, kg 26 15 false (.bytesStr (tm 25)) 16383, kg 27 15 false (.loadN 3 (tm 5)) 15, kg 28 15 false (.call (.value (vl (.fn (.func 72) [] []))) [(tm 27)]) 32783, kg 29 15 false (.bytesStr (tm 28)) 98319, kg 30 15 false (.bin .neq .other false (tm 26) (tm 29)) 262143, k 31 (.pick (tm 15) (vl (.bool true)) (tm 30)) 524287]) (.cond (tm 31) (.seq (.region [k 32 (.mov (tm 0)) 0, k 33 (.mov (tm 4)) 0, k 34 (.nilCheck (tm 32)) 0, k 35 (.fieldAddr 1 (tm 34)) 0, kn (.store 1 (tm 35) (tm 33)) 0]) (.seq (.region [k 36 (.build [(int64 (0)), (.str 0 0), (int64 (0))] []) 0, kn (.store 3 (tm 2) (tm 36)) 0, k 3 (.mov (vl (int64 (4)))) 0]) .ret)) .skip)) (.seq (.region [k 37 (.loadN 3 (tm 5)) 0, kn (.store 3 (tm 2) (tm 37)) 0, k 3 (.mov (vl (int64 (0)))) 0]) .ret)))))⟩
theorem rtn_code : compFn Tryz.prog 25 = some rtn_fu := by kernel_rfl
noncomputable def tt_fu : Fu := ⟨[.cellN (Pos.ofNat 2) 5, .tmp (Pos.ofNat 3)], 8, (.seq (.region [k 2 (.new [(int64 (0)), (int64 (0)), (.str 0 0), (int64 (0)), (int64 (0))]) 0, k 3 (.mov (vl (int64 (0)))) 0]) (.seq (.region [k 4 (.mov (tm 0)) 0, k 5 (.call (.value (vl (.fn (.func 73) [] []))) [(tm 4), (vl (.fn (.func 74) [] [])), (vl (.fn (.func 43) [] []))]) 0, k 6 (.extract (tm 5) 0) 0, k 7 (.extract (tm 5) 1) 0, kn (.store 5 (tm 2) (tm 6)) 0, k 3 (.mov (tm 7)) 0]) .ret))⟩
theorem tt_code : compFn Tryz.prog 26 = some tt_fu := by kernel_rfl
noncomputable def rtt_fu : Fu := ⟨[.cellN (Pos.ofNat 2) 5, .tmp (Pos.ofNat 3)], 45, (.seq (.region [k 2 (.new [(int64 (0)), (int64 (0)), (.str 0 0), (int64 (0)), (int64 (0))]) 0, k 3 (.mov (vl (int64 (0)))) 0]) (.seq (.region [k 6 (.mov (tm 0)) 0, k 7 (.nilCheck (tm 6)) 0, k 8 (.fieldAddr 1 (tm 7)) 0, k 9 (.load1 (tm 8)) 0, k 4 (.mov (tm 9)) 0]) (.seq (.region [k 10 (.mov (tm 0)) 0, k 11 (.call (.value (vl (.fn (.func 76) [] []))) [(tm 10)]) 0, k 12 (.build [(int64 (0)), (int64 (0)), (.str 0 0), (int64 (0)), (int64 (0))] [(0, 1, (tm 11))]) 0, k 5 (.new [(int64 (0)), (int64 (0)), (.str 0 0), (int64 (0)), (int64 (0))]) 0, kn (.store 5 (tm 5) (tm 12)) 0]) (.seq (.region [k 13 (.mov (tm 0)) 0, k 14 (.call (.value (vl (.fn (.func 71) [] []))) [(tm 13)]) 0, k 15 (.fieldAddr 1 (tm 5)) 0, kn (.store 3 (tm 15) (tm 14)) 0]) (.seq (.region [k 16 (.mov (tm 0)) 0, k 17 (.call (.value (vl (.fn (.func 76) [] []))) [(tm 16)]) 0, k 18 (.fieldAddr 4 (tm 5)) 0, kn (.store 1 (tm 18) (tm 17)) 0]) (.seq (.seq (.drawn [k 19 (.loadN 5 (tm 5)) 0, k 20 (.call (.value (vl (.fn (.func 59) [] []))) [(tm 19)]) 1, k 21 (.un .not (tm 20)) 3, k 22 (.mov (tm 21)) 7, kg 23 22 false (.mov (tm 0)) 15, kg 24 22 false (.nilCheck (tm 23)) 31, kg 25 22 false (.fieldAddr 0 (tm 24)) 63, kg 26 22 false (.load1 (tm 25)) 127, kg 27 22 false (.mov (tm 4)) 15, kg 28 22 false (.mov (tm 0)) 15, kg 29 22 false (.nilCheck (tm 28)) 527, kg 30 22 false (.fieldAddr 1 (tm 29)) 1551, kg 31 22 false (.load1 (tm 30)) 3599, kg 32 22 false (.sliceSl 1 (tm 26) (some (tm 27)) (some (tm 31)) none) 8191, kg 33 22 false (.bytesStr (tm 32)) 16383, kg 34 22 false (.loadN 5 (tm 5)) 15, kg 35 22 false (.call (.value (vl (.fn (.func 77) [] []))) [(tm 34)]) 32783, kg 36 22 false (.bytesStr (tm 35)) 98319, kg 37 22 false (.bin .neq .other false (tm 33) (tm 36)) 262143, k 38 (.pick (tm 22) (vl (.bool true)) (tm 37)) 524287]) (.cond (tm 38) (.seq (.region [k 39 (.mov (tm 0)) 0, k 40 (.mov (tm 4)) 0, k 41 (.nilCheck (tm 39)) 0, k 42 (.fieldAddr 1 (tm 41)) 0, kn (.store 1 (tm 42) (tm 40)) 0]) (.seq (.region [k 43 (.build [(int64 (0)), (int64 (0)), (.str 0 0), (int64 (0)), (int64 (0))] []) 0, kn (.store 5 (tm 2) (tm 43)) 0, k 3 (.mov (vl (int64 (4)))) 0]) .ret)) .skip)) (.seq (.region [k 44 (.loadN 5 (tm 5)) 0, kn (.store 5 (tm 2) (tm 44)) 0, k 3 (.mov (vl (int64 (0)))) 0]) .ret)))))))⟩
theorem rtt_code : compFn Tryz.prog 27 = some rtt_fu := by kernel_rfl
noncomputable def oleft_fu : Fu := ⟨[.tmp (Pos.ofNat 2)], 13, (.seq (.region [k 2 (.mov (vl (int64 (0)))) 0]) (.seq (.drawn [k 3 (.mov (tm 0)) 0, k 4 (.nilCheck (tm 3)) 1, k 5 (.fieldAddr 0 (tm 4)) 3, k 6 (.load1 (tm 5)) 7, k 7 (.lenL (tm 6)) 15, k 8 (.mov (tm 0)) 0, k 9 (.nilCheck (tm 8)) 32, k 10 (.fieldAddr 1 (tm 9)) 96, k 11 (.load1 (tm 10)) 224, k 12 (.bin .sub .other false (tm 7) (tm 11)) 511, k 2 (.mov (tm 12)) 1023]) .ret))⟩
theorem oleft_code : compFn Tryz.prog 28 = some oleft_fu := by kernel_rfl
noncomputable def there_fu : Fu := ⟨[.tmp (Pos.ofNat 2)], 12, (.seq (.region [k 2 (.mov (vl (.bool false))) 0]) (.seq (.region [k 3 (.mov (tm 0)) 0, k 4 (.eqPtr true (tm 3) (vl .nilPtr)) 0, k 5 (.mov (tm 4)) 0, kg 6 5 true (.mov (tm 0)) 0, kg 7 5 true (.nilCheck (tm 6)) 0, kg 8 5 true (.fieldAddr 0 (tm 7)) 0, kg 9 5 true (.load1 (tm 8)) 0, kg 10 5 true (.bin .neq .slice true (tm 9) (vl .nilSl)) 0, k 11 (.pick (tm 5) (tm 10) (vl (.bool false))) 0, k 2 (.mov (tm 11)) 0]) .ret))⟩
theorem there_code : compFn Tryz.prog 64 = some there_fu := by kernel_rfl
noncomputable def takenb_fu : Fu := ⟨[.cellN (Pos.ofNat 6) 2, .tmp (Pos.ofNat 7)], 40, (.seq (.region [k 6 (.new [(int64 (0)), (.str 0 0)]) 0, k 7 (.mov (vl (int64 (0)))) 0]) (.seq (.region [k 8 (.new [(int64 (0)), (.str 0 0)]) 0]) (.seq (.seq (.region [k 12 (.mov (tm 0)) 0, k 13 (.call (.value (vl (.fn (.func 100) [] []))) [(tm 12)]) 0, k 14 (.bin .eql .other true (tm 13) (vl (int64 (1)))) 0]) (.cond (tm 14) (.seq (.region [k 15 (.loadN 2 (tm 8)) 0, kn (.store 2 (tm 6) (tm 15)) 0, k 7 (.mov (vl (int64 (1)))) 0]) .ret) .skip)) (.seq (.region [k 16 (.mov (tm 0)) 0, k 17 (.nilCheck (tm 16)) 0, k 18 (.loadN 2 (tm 17)) 0, k 9 (.new [.nilSl, (int64 (0))]) 0, kn (.store 2 (tm 9) (tm 18)) 0]) (.seq (.region [k 19 (.mov (tm 0)) 0, k 20 (.build [.nilPtr, (.bool false)] [(0, 1, (tm 19))]) 0, k 21 (.box (tm 20)) 0, k 10 (.mov (tm 21)) 0]) (.seq (.seq (.region [k 22 (.mov (tm 1)) 0, k 23 (.mov (tm 10)) 0, k 24 (.call (.value (tm 22)) [(tm 23)]) 0, k 11 (.new [(int64 (0)), (.str 0 0)]) 0, kn (.store 2 (tm 11) (tm 24)) 0]) (.seq (.region [k 25 (.mov (tm 10)) 0, k 26 (.nilCheck (tm 25)) 0, k 27 (.fieldAddr 1 (tm 26)) 0, k 28 (.load1 (tm 27)) 0, k 29 (.un .not (tm 28)) 0, k 30 (.mov (tm 29)) 0, kg 31 30 true (.mov (tm 2)) 0, kg 32 30 true (.loadN 2 (tm 11)) 0, kg 33 30 true (.call (.value (tm 31)) [(tm 32)]) 0, k 34 (.pick (tm 30) (tm 33) (vl (.bool false))) 0]) (.cond (tm 34) (.seq (.region [k 35 (.loadN 2 (tm 11)) 0, kn (.store 2 (tm 6) (tm 35)) 0, k 7 (.mov (vl (int64 (0)))) 0]) .ret) .skip))) (.seq (.region [k 36 (.mov (tm 0)) 0, k 37 (.loadN 2 (tm 9)) 0, k 38 (.nilCheck (tm 36)) 0, kn (.store 2 (tm 38) (tm 37)) 0]) (.seq (.region [k 39 (.loadN 2 (tm 8)) 0, kn (.store 2 (tm 6) (tm 39)) 0, k 7 (.mov (vl (int64 (4)))) 0]) .ret))))))))⟩
theorem takenb_code : compFn Tryz.prog 65 = some takenb_fu := by kernel_rfl
noncomputable def gbranch_fu : Fu := ⟨[.cellN (Pos.ofNat 2) 2], 35, (.seq (.region [k 2 (.new [(int64 (0)), (.str 0 0)]) 0]) (.seq (.region [k 7 (.mov (tm 0)) 0, k 8 (.call (.value (vl (.fn (.func 75) [] []))) [(tm 7)]) 0, k 9 (.build [(int64 (0)), (.str 0 0)] [(0, 1, (tm 8))]) 0, k 3 (.new [(int64 (0)), (.str 0 0)]) 0, kn (.store 2 (tm 3) (tm 9)) 0]) (.seq (.region [k 10 (.mov (tm 0)) 0, k 11 (.nilCheck (tm 10)) 0, k 12 (.fieldAddr 0 (tm 11)) 0, k 13 (.load1 (tm 12)) 0, k 14 (.mkFn (.func 101) [(tm 13)] []) 0, k 4 (.mov (tm 14)) 0]) (.seq (.region [k 16 (.mov (tm 4)) 0, k 17 (.call (.value (tm 16)) [(vl (int64 (12)))]) 0, k 15 (.mov (tm 17)) 0, k 18 (.extract (tm 15) 0) 0, k 19 (.extract (tm 15) 1) 0, k 5 (.mov (tm 18)) 0, k 6 (.mov (tm 19)) 0]) (.seq (.region [k 20 (.mov (tm 0)) 0, k 21 (.mov (tm 0)) 0, k 22 (.nilCheck (tm 21)) 0, k 23 (.fieldAddr 1 (tm 22)) 0, k 24 (.load1 (tm 23)) 0, k 25 (.mov (tm 24)) 0, kg 26 25 false (.mov (tm 6)) 0, kg 27 25 false (.bin .neq .other true (tm 26) (vl (int64 (0)))) 0, k 28 (.pick (tm 25) (vl (.bool true)) (tm 27)) 0, k 29 (.nilCheck (tm 20)) 0, k 30 (.fieldAddr 1 (tm 29)) 0, kn (.store 1 (tm 30) (tm 28)) 0]) (.seq (.region [k 31 (.mov (tm 5)) 0, k 32 (.bytesStr (tm 31)) 0, k 33 (.fieldAddr 1 (tm 3)) 0, kn (.store 1 (tm 33) (tm 32)) 0]) (.seq (.region [k 34 (.loadN 2 (tm 3)) 0, kn (.store 2 (tm 2) (tm 34)) 0]) .ret)))))))⟩
theorem gbranch_code : compFn Tryz.prog 66 = some gbranch_fu := by kernel_rfl
noncomputable def rbr_fu : Fu := ⟨[.cellN (Pos.ofNat 2) 2], 18, (.seq (.region [k 2 (.new [(int64 (0)), (.str 0 0)]) 0]) (.seq (.region [k 6 (.mov (tm 0)) 0, k 7 (.call (.value (vl (.fn (.func 76) [] []))) [(tm 6)]) 0, k 8 (.build [(int64 (0)), (.str 0 0)] [(0, 1, (tm 7))]) 0, k 3 (.new [(int64 (0)), (.str 0 0)]) 0, kn (.store 2 (tm 3) (tm 8)) 0]) (.seq (.region [k 10 (.mov (tm 0)) 0, k 11 (.call (.value (vl (.fn (.func 102) [] []))) [(tm 10), (vl (int64 (99)))]) 0, k 9 (.mov (tm 11)) 0, k 12 (.extract (tm 9) 0) 0, k 13 (.extract (tm 9) 1) 0, k 4 (.mov (tm 12)) 0, k 5 (.mov (tm 13)) 0]) (.seq (.region [k 14 (.mov (tm 4)) 0, k 15 (.bytesStr (tm 14)) 0, k 16 (.fieldAddr 1 (tm 3)) 0, kn (.store 1 (tm 16) (tm 15)) 0]) (.seq (.region [k 17 (.loadN 2 (tm 3)) 0, kn (.store 2 (tm 2) (tm 17)) 0]) .ret)))))⟩
theorem rbr_code : compFn Tryz.prog 67 = some rbr_fu := by kernel_rfl
noncomputable def rputb_fu : Fu := ⟨[.tmp (Pos.ofNat 2)], 12, (.seq (.region [k 1 (.box (tm 0)) 0, k 2 (.mov (vl .nilSl)) 0]) (.seq (.drawn [k 3 (.fieldAddr 0 (tm 1)) 0, k 4 (.load1 (tm 3)) 1, k 5 (.convInt .u64 (tm 4)) 3, k 6 (.call (.value (vl (.fn (.func 103) [] []))) [(tm 5)]) 7, k 7 (.fieldAddr 1 (tm 1)) 0, k 8 (.load1 (tm 7)) 16, k 9 (.strBytes (tm 8)) 48, k 10 (.call (.value (vl (.fn (.func 104) [] []))) [(tm 9)]) 127, k 11 (.append 1 0 (tm 6) (tm 10)) 255, k 2 (.mov (tm 11)) 511]) .ret))⟩
theorem rputb_code : compFn Tryz.prog 68 = some rputb_fu := by kernel_rfl
noncomputable def takenn_fu : Fu := ⟨[.cellN (Pos.ofNat 6) 3, .tmp (Pos.ofNat 7)], 40, (.seq (.region [k 6 (.new [(int64 (0)), (.str 0 0), (int64 (0))]) 0, k 7 (.mov (vl (int64 (0)))) 0]) (.seq (.region [k 8 (.new [(int64 (0)), (.str 0 0), (int64 (0))]) 0]) (.seq (.seq (.region [k 12 (.mov (tm 0)) 0, k 13 (.call (.value (vl (.fn (.func 100) [] []))) [(tm 12)]) 0, k 14 (.bin .eql .other true (tm 13) (vl (int64 (1)))) 0]) (.cond (tm 14) (.seq (.region [k 15 (.loadN 3 (tm 8)) 0, kn (.store 3 (tm 6) (tm 15)) 0, k 7 (.mov (vl (int64 (1)))) 0]) .ret) .skip)) (.seq (.region [k 16 (.mov (tm 0)) 0, k 17 (.nilCheck (tm 16)) 0, k 18 (.loadN 2 (tm 17)) 0, k 9 (.new [.nilSl, (int64 (0))]) 0, kn (.store 2 (tm 9) (tm 18)) 0]) (.seq (.region [k 19 (.mov (tm 0)) 0, k 20 (.build [.nilPtr, (.bool false)] [(0, 1, (tm 19))]) 0, k 21 (.box (tm 20)) 0, k 10 (.mov (tm 21)) 0]) (.seq (.seq (.region [k 22 (.mov (tm 1)) 0, k 23 (.mov (tm 10)) 0, k 24 (.call (.value (tm 22)) [(tm 23)]) 0, k 11 (.new [(int64 (0)), (.str 0 0), (int64 (0))]) 0, kn (.store 3 (tm 11) (tm 24)) 0]) (.seq (.region [k 25 (.mov (tm 10)) 0, k 26 (.nilCheck (tm 25)) 0, k 27 (.fieldAddr 1 (tm 26)) 0, k 28 (.load1 (tm 27)) 0, k 29 (.un .not (tm 28)) 0, k 30 (.mov (tm 29)) 0, kg 31 30 true (.mov (tm 2)) 0, kg 32 30 true (.loadN 3 (tm 11)) 0, kg 33 30 true (.call (.value (tm 31)) [(tm 32)]) 0, k 34 (.pick (tm 30) (tm 33) (vl (.bool false))) 0]) (.cond (tm 34) (.seq (.region [k 35 (.loadN 3 (tm 11)) 0, kn (.store 3 (tm 6) (tm 35)) 0, k 7 (.mov (vl (int64 (0)))) 0]) .ret) .skip))) (.seq (.region [k 36 (.mov (tm 0)) 0, k 37 (.loadN 2 (tm 9)) 0, k 38 (.nilCheck (tm 36)) 0, kn (.store 2 (tm 38) (tm 37)) 0]) (.seq (.region [k 39 (.loadN 3 (tm 8)) 0, kn (.store 3 (tm 6) (tm 39)) 0, k 7 (.mov (vl (int64 (4)))) 0]) .ret))))))))⟩
theorem takenn_code : compFn Tryz.prog 69 = some takenn_fu := by kernel_rfl
noncomputable def gname_fu : Fu := ⟨[.cellN (Pos.ofNat 2) 3], 11, (.seq (.region [k 2 (.new [(int64 (0)), (.str 0 0), (int64 (0))]) 0]) (.seq (.region [k 4 (.mov (tm 0)) 0, k 5 (.call (.value (vl (.fn (.func 66) [] []))) [(tm 4)]) 0, k 6 (.build [(int64 (0)), (.str 0 0), (int64 (0))] [(0, 2, (tm 5))]) 0, k 3 (.new [(int64 (0)), (.str 0 0), (int64 (0))]) 0, kn (.store 3 (tm 3) (tm 6)) 0]) (.seq (.region [k 7 (.mov (tm 0)) 0, k 8 (.call (.value (vl (.fn (.func 75) [] []))) [(tm 7)]) 0, k 9 (.fieldAddr 2 (tm 3)) 0, kn (.store 1 (tm 9) (tm 8)) 0]) (.seq (.region [k 10 (.loadN 3 (tm 3)) 0, kn (.store 3 (tm 2) (tm 10)) 0]) .ret))))⟩
theorem gname_code : compFn Tryz.prog 70 = some gname_fu := by kernel_rfl
noncomputable def rnm_fu : Fu := ⟨[.cellN (Pos.ofNat 2) 3], 11, (.seq (.region [k 2 (.new [(int64 (0)), (.str 0 0), (int64 (0))]) 0]) (.seq (.region [k 4 (.mov (tm 0)) 0, k 5 (.call (.value (vl (.fn (.func 67) [] []))) [(tm 4)]) 0, k 6 (.build [(int64 (0)), (.str 0 0), (int64 (0))] [(0, 2, (tm 5))]) 0, k 3 (.new [(int64 (0)), (.str 0 0), (int64 (0))]) 0, kn (.store 3 (tm 3) (tm 6)) 0]) (.seq (.region [k 7 (.mov (tm 0)) 0, k 8 (.call (.value (vl (.fn (.func 76) [] []))) [(tm 7)]) 0, k 9 (.fieldAddr 2 (tm 3)) 0, kn (.store 1 (tm 9) (tm 8)) 0]) (.seq (.region [k 10 (.loadN 3 (tm 3)) 0, kn (.store 3 (tm 2) (tm 10)) 0]) .ret))))⟩
theorem rnm_code : compFn Tryz.prog 71 = some rnm_fu := by kernel_rfl
noncomputable def rputn_fu : Fu := ⟨[.tmp (Pos.ofNat 2)], 11, (.seq (.region [k 1 (.box (tm 0)) 0, k 2 (.mov (vl .nilSl)) 0]) (.seq (.drawn [k 3 (.fieldAddr 0 (tm 1)) 0, k 4 (.loadN 2 (tm 3)) 1, k 5 (.call (.value (vl (.fn (.func 68) [] []))) [(tm 4)]) 3, k 6 (.fieldAddr 2 (tm 1)) 0, k 7 (.load1 (tm 6)) 8, k 8 (.convInt .u64 (tm 7)) 24, k 9 (.call (.value (vl (.fn (.func 103) [] []))) [(tm 8)]) 63, k 10 (.append 1 0 (tm 5) (tm 9)) 127, k 2 (.mov (tm 10)) 255]) .ret))⟩
theorem rputn_code : compFn Tryz.prog 72 = some rputn_fu := by kernel_rfl
noncomputable def takens_fu : Fu := ⟨[.cellN (Pos.ofNat 6) 5, .tmp (Pos.ofNat 7)], 40, (.seq (.region [k 6 (.new [(int64 (0)), (int64 (0)), (.str 0 0), (int64 (0)), (int64 (0))]) 0, k 7 (.mov (vl (int64 (0)))) 0]) (.seq (.region [k 8 (.new [(int64 (0)), (int64 (0)), (.str 0 0), (int64 (0)), (int64 (0))]) 0]) (.seq (.seq (.region [k 12 (.mov (tm 0)) 0, k 13 (.call (.value (vl (.fn (.func 100) [] []))) [(tm 12)]) 0, k 14 (.bin .eql .other true (tm 13) (vl (int64 (1)))) 0]) (.cond (tm 14) (.seq (.region [k 15 (.loadN 5 (tm 8)) 0, kn (.store 5 (tm 6) (tm 15)) 0, k 7 (.mov (vl (int64 (1)))) 0]) .ret) .skip)) (.seq (.region [k 16 (.mov (tm 0)) 0, k 17 (.nilCheck (tm 16)) 0, k 18 (.loadN 2 (tm 17)) 0, k 9 (.new [.nilSl, (int64 (0))]) 0, kn (.store 2 (tm 9) (tm 18)) 0]) (.seq (.region [k 19 (.mov (tm 0)) 0, k 20 (.build [.nilPtr, (.bool false)] [(0, 1, (tm 19))]) 0, k 21 (.box (tm 20)) 0, k 10 (.mov (tm 21)) 0]) (.seq (.seq (.region [k 22 (.mov (tm 1)) 0, k 23 (.mov (tm 10)) 0, k 24 (.call (.value (tm 22)) [(tm 23)]) 0, k 11 (.new [(int64 (0)), (int64 (0)), (.str 0 0), (int64 (0)), (int64 (0))]) 0, kn (.store 5 (tm 11) (tm 24)) 0]) (.seq (.region [k 25 (.mov (tm 10)) 0, k 26 (.nilCheck (tm 25)) 0, k 27 (.fieldAddr 1 (tm 26)) 0, k 28 (.load1 (tm 27)) 0, k 29 (.un .not (tm 28)) 0, k 30 (.mov (tm 29)) 0, kg 31 30 true (.mov (tm 2)) 0, kg 32 30 true (.loadN 5 (tm 11)) 0, kg 33 30 true (.call (.value (tm 31)) [(tm 32)]) 0, k 34 (.pick (tm 30) (tm 33) (vl (.bool false))) 0]) (.cond (tm 34) (.seq (.region [k 35 (.loadN 5 (tm 11)) 0, kn (.store 5 (tm 6) (tm 35)) 0, k 7 (.mov (vl (int64 (0)))) 0]) .ret) .skip))) (.seq (.region [k 36 (.mov (tm 0)) 0, k 37 (.loadN 2 (tm 9)) 0, k 38 (.nilCheck (tm 36)) 0, kn (.store 2 (tm 38) (tm 37)) 0]) (.seq (.region [k 39 (.loadN 5 (tm 8)) 0, kn (.store 5 (tm 6) (tm 39)) 0, k 7 (.mov (vl (int64 (4)))) 0]) .ret))))))))⟩
theorem takens_code : compFn Tryz.prog 73 = some takens_fu := by kernel_rfl
noncomputable def take1_fu : Fu := ⟨[.cellN (Pos.ofNat 2) 5], 14, (.seq (.region [k 2 (.new [(int64 (0)), (int64 (0)), (.str 0 0), (int64 (0)), (int64 (0))]) 0]) (.seq (.region [k 4 (.mov (tm 0)) 0, k 5 (.call (.value (vl (.fn (.func 75) [] []))) [(tm 4)]) 0, k 6 (.build [(int64 (0)), (int64 (0)), (.str 0 0), (int64 (0)), (int64 (0))] [(0, 1, (tm 5))]) 0, k 3 (.new [(int64 (0)), (int64 (0)), (.str 0 0), (int64 (0)), (int64 (0))]) 0, kn (.store 5 (tm 3) (tm 6)) 0]) (.seq (.region [k 7 (.mov (tm 0)) 0, k 8 (.call (.value (vl (.fn (.func 70) [] []))) [(tm 7)]) 0, k 9 (.fieldAddr 1 (tm 3)) 0, kn (.store 3 (tm 9) (tm 8)) 0]) (.seq (.region [k 10 (.mov (tm 0)) 0, k 11 (.call (.value (vl (.fn (.func 75) [] []))) [(tm 10)]) 0, k 12 (.fieldAddr 4 (tm 3)) 0, kn (.store 1 (tm 12) (tm 11)) 0]) (.seq (.region [k 13 (.loadN 5 (tm 3)) 0, kn (.store 5 (tm 2) (tm 13)) 0]) .ret)))))⟩
theorem take1_code : compFn Tryz.prog 74 = some take1_fu := by kernel_rfl
noncomputable def gnumber_fu : Fu := ⟨[.tmp (Pos.ofNat 2)], 27, (.seq (.region [k 2 (.mov (vl (int64 (0)))) 0]) (.seq (.region [k 6 (.mov (tm 0)) 0, k 7 (.nilCheck (tm 6)) 0, k 8 (.fieldAddr 0 (tm 7)) 0, k 9 (.load1 (tm 8)) 0, k 10 (.mkFn (.func 21) [(tm 9)] []) 0, k 3 (.mov (tm 10)) 0]) (.seq (.region [k 12 (.mov (tm 3)) 0, k 13 (.call (.value (tm 12)) []) 0, k 11 (.mov (tm 13)) 0, k 14 (.extract (tm 11) 0) 0, k 15 (.extract (tm 11) 1) 0, k 4 (.mov (tm 14)) 0, k 5 (.mov (tm 15)) 0]) (.seq (.seq (.region [k 16 (.mov (tm 5)) 0, k 17 (.bin .neq .other true (tm 16) (vl (int64 (0)))) 0, k 18 (.mov (tm 17)) 0, kg 19 18 false (.mov (tm 4)) 0, kg 20 18 false (.bin .gtr .other true (tm 19) (vl (.int .u64 (4611686018427387904)))) 0, k 21 (.pick (tm 18) (vl (.bool true)) (tm 20)) 0]) (.cond (tm 21) (.seq (.region [k 22 (.mov (tm 0)) 0, k 23 (.nilCheck (tm 22)) 0, k 24 (.fieldAddr 1 (tm 23)) 0, kn (.store 1 (tm 24) (vl (.bool true))) 0]) (.seq (.region [k 2 (.mov (vl (int64 (0)))) 0]) .ret)) .skip)) (.seq (.region [k 25 (.mov (tm 4)) 0, k 26 (.convInt .i64 (tm 25)) 0, k 2 (.mov (tm 26)) 0]) .ret)))))⟩
theorem gnumber_code : compFn Tryz.prog 75 = some gnumber_fu := by kernel_rfl
noncomputable def rsmall_fu : Fu := ⟨[.tmp (Pos.ofNat 2)], 18, (.seq (.region [k 2 (.mov (vl (int64 (0)))) 0]) (.seq (.region [k 6 (.mov (tm 0)) 0, k 7 (.call (.value (vl (.fn (.func 105) [] []))) [(tm 6)]) 0, k 5 (.mov (tm 7)) 0, k 8 (.extract (tm 5) 0) 0, k 9 (.extract (tm 5) 1) 0, k 3 (.mov (tm 8)) 0, k 4 (.mov (tm 9)) 0]) (.seq (.seq (.region [k 10 (.mov (tm 4)) 0, k 11 (.bin .neq .other true (tm 10) (vl (int64 (0)))) 0, k 12 (.mov (tm 11)) 0, kg 13 12 false (.mov (tm 3)) 0, kg 14 12 false (.bin .gtr .other true (tm 13) (vl (.int .u64 (4611686018427387904)))) 0, k 15 (.pick (tm 12) (vl (.bool true)) (tm 14)) 0]) (.cond (tm 15) (.seq (.region [k 2 (.mov (vl (int64 (-1)))) 0]) .ret) .skip)) (.seq (.region [k 16 (.mov (tm 3)) 0, k 17 (.convInt .i64 (tm 16)) 0, k 2 (.mov (tm 17)) 0]) .ret))))⟩
theorem rsmall_code : compFn Tryz.prog 76 = some rsmall_fu := by kernel_rfl
noncomputable def rput_fu : Fu := ⟨[.tmp (Pos.ofNat 2)], 18, (.seq (.region [k 1 (.box (tm 0)) 0, k 2 (.mov (vl .nilSl)) 0]) (.seq (.drawn [k 4 (.fieldAddr 0 (tm 1)) 0, k 5 (.load1 (tm 4)) 1, k 6 (.convInt .u64 (tm 5)) 3, k 7 (.call (.value (vl (.fn (.func 103) [] []))) [(tm 6)]) 7, k 8 (.fieldAddr 1 (tm 1)) 0, k 9 (.loadN 3 (tm 8)) 16, k 10 (.call (.value (vl (.fn (.func 72) [] []))) [(tm 9)]) 63, k 11 (.append 1 0 (tm 7) (tm 10)) 127, k 3 (.mov (tm 11)) 255]) (.seq (.region [k 12 (.mov (tm 3)) 0, k 13 (.fieldAddr 4 (tm 1)) 0, k 14 (.load1 (tm 13)) 0, k 15 (.convInt .u64 (tm 14)) 0, k 16 (.call (.value (vl (.fn (.func 103) [] []))) [(tm 15)]) 0, k 17 (.append 1 0 (tm 12) (tm 16)) 0, k 2 (.mov (tm 17)) 0]) .ret)))⟩
theorem rput_code : compFn Tryz.prog 77 = some rput_fu := by kernel_rfl
noncomputable def wend_fu : Fu := ⟨[.tmp (Pos.ofNat 2)], 11, (.seq (.region [k 2 (.mov (vl (int64 (0)))) 0]) (.seq (.block 0 (.seq (.region [k 4 (.mov (tm 0)) 0, k 5 (.call (.value (vl (.fn (.func 64) [] []))) [(tm 4)]) 0, k 6 (.un .not (tm 5)) 0, k 3 (.mov (tm 6)) 0]) (.cond (tm 3) (.seq (.region [k 2 (.mov (vl (int64 (1)))) 0]) .ret) (.seq (.region [k 8 (.mov (tm 0)) 0, k 9 (.call (.value (vl (.fn (.func 19) [] []))) [(tm 8)]) 0, k 10 (.bin .gtr .other true (tm 9) (vl (int64 (0)))) 0, k 7 (.mov (tm 10)) 0]) (.cond (tm 7) (.seq (.region [k 2 (.mov (vl (int64 (4)))) 0]) .ret) .skip))))) (.seq (.region [k 2 (.mov (vl (int64 (0)))) 0]) .ret)))⟩
theorem wend_code : compFn Tryz.prog 100 = some wend_fu := by kernel_rfl
noncomputable def wbytes_fu : Fu := ⟨[.tmp (Pos.ofNat 4), .tmp (Pos.ofNat 5)], 62, (.seq (.region [k 4 (.mov (vl .nilSl)) 0, k 5 (.mov (vl (int64 (0)))) 0]) (.seq (.seq (.region [k 9 (.mov (tm 0)) 0, k 10 (.call (.value (vl (.fn (.func 64) [] []))) [(tm 9)]) 0, k 11 (.un .not (tm 10)) 0]) (.cond (tm 11) (.seq (.region [k 4 (.mov (vl .nilSl)) 0, k 5 (.mov (vl (int64 (1)))) 0]) .ret) .skip)) (.seq (.region [k 12 (.mov (tm 0)) 0, k 13 (.nilCheck (tm 12)) 0, k 14 (.fieldAddr 1 (tm 13)) 0, k 15 (.load1 (tm 14)) 0, k 6 (.mov (tm 15)) 0]) (.seq (.region [k 17 (.mov (tm 0)) 0, k 18 (.mov (tm 1)) 0, k 19 (.call (.value (vl (.fn (.func 119) [] []))) [(tm 17), (tm 18)]) 0, k 16 (.mov (tm 19)) 0, k 20 (.extract (tm 16) 0) 0, k 21 (.extract (tm 16) 1) 0, k 7 (.mov (tm 20)) 0, k 8 (.mov (tm 21)) 0]) (.seq (.seq (.region [k 22 (.mov (tm 8)) 0, k 23 (.bin .eql .other true (tm 22) (vl (int64 (0)))) 0, k 24 (.mov (tm 23)) 0, kg 25 24 true (.mov (tm 7)) 0, kg 26 24 true (.mov (tm 0)) 0, kg 27 24 true (.call (.value (vl (.fn (.func 19) [] []))) [(tm 26)]) 0, kg 28 24 true (.bin .gtr .other false (tm 25) (tm 27)) 0, k 29 (.pick (tm 24) (tm 28) (vl (.bool false))) 0]) (.cond (tm 29) (.region [k 8 (.mov (vl (int64 (4)))) 0]) .skip)) (.seq (.seq (.region [k 30 (.mov (tm 8)) 0, k 31 (.bin .neq .other true (tm 30) (vl (int64 (0)))) 0]) (.cond (tm 31) (.seq (.region [k 32 (.mov (tm 0)) 0, k 33 (.mov (tm 6)) 0, k 34 (.nilCheck (tm 32)) 0, k 35 (.fieldAddr 1 (tm 34)) 0, kn (.store 1 (tm 35) (tm 33)) 0]) (.seq (.region [k 36 (.mov (tm 8)) 0, k 4 (.mov (vl .nilSl)) 0, k 5 (.mov (tm 36)) 0]) .ret)) .skip)) (.seq (.region [k 37 (.mov (tm 0)) 0, k 38 (.nilCheck (tm 37)) 0, k 39 (.fieldAddr 1 (tm 38)) 0, k 40 (.load1 (tm 39)) 0, k 41 (.mov (tm 7)) 0, k 42 (.bin .add .other false (tm 40) (tm 41)) 0, k 43 (.nilCheck (tm 37)) 0, k 44 (.fieldAddr 1 (tm 43)) 0, kn (.store 1 (tm 44) (tm 42)) 0]) (.seq (.drawn [k 45 (.buildSl 0 1 [(.int .u8 (0))] []) 0, k 46 (.mov (tm 0)) 0, k 47 (.nilCheck (tm 46)) 2, k 48 (.fieldAddr 0 (tm 47)) 6, k 49 (.load1 (tm 48)) 14, k 50 (.mov (tm 0)) 0, k 51 (.nilCheck (tm 50)) 32, k 52 (.fieldAddr 1 (tm 51)) 96, k 53 (.load1 (tm 52)) 224, k 54 (.mov (tm 7)) 0, k 55 (.bin .sub .other false (tm 53) (tm 54)) 992, k 56 (.mov (tm 0)) 0, k 57 (.nilCheck (tm 56)) 2048, k 58 (.fieldAddr 1 (tm 57)) 6144, k 59 (.load1 (tm 58)) 14336, k 60 (.sliceSl 1 (tm 49) (some (tm 55)) (some (tm 59)) none) 32766, k 61 (.append 1 0 (tm 45) (tm 60)) 65535, k 4 (.mov (tm 61)) 131071, k 5 (.mov (vl (int64 (0)))) 262143]) .ret))))))))⟩
theorem wbytes_code : compFn Tryz.prog 101 = some wbytes_fu := by kernel_rfl
noncomputable def obytes_fu : Fu := ⟨[.tmp (Pos.ofNat 4), .tmp (Pos.ofNat 5)], 69, (.seq (.region [k 4 (.mov (vl .nilSl)) 0, k 5 (.mov (vl (int64 (0)))) 0]) (.seq (.region [k 9 (.mov (tm 0)) 0, k 10 (.nilCheck (tm 9)) 0, k 11 (.fieldAddr 1 (tm 10)) 0, k 12 (.load1 (tm 11)) 0, k 6 (.mov (tm 12)) 0]) (.seq (.region [k 14 (.mov (tm 0)) 0, k 15 (.call (.value (vl (.fn (.func 105) [] []))) [(tm 14)]) 0, k 13 (.mov (tm 15)) 0, k 16 (.extract (tm 13) 0) 0, k 17 (.extract (tm 13) 1) 0, k 7 (.mov (tm 16)) 0, k 8 (.mov (tm 17)) 0]) (.seq (.seq (.region [k 18 (.mov (tm 8)) 0, k 19 (.bin .eql .other true (tm 18) (vl (int64 (0)))) 0, k 20 (.mov (tm 19)) 0, kg 21 20 true (.mov (tm 7)) 0, kg 22 20 true (.mov (tm 1)) 0, kg 23 20 true (.convInt .u64 (tm 22)) 0, kg 24 20 true (.bin .gtr .other false (tm 21) (tm 23)) 0, k 25 (.pick (tm 20) (tm 24) (vl (.bool false))) 0]) (.cond (tm 25) (.region [k 8 (.mov (vl (int64 (3)))) 0]) .skip)) (.seq (.seq (.region [k 26 (.mov (tm 8)) 0, k 27 (.bin .eql .other true (tm 26) (vl (int64 (0)))) 0, k 28 (.mov (tm 27)) 0, kg 29 28 true (.mov (tm 7)) 0, kg 30 28 true (.mov (tm 0)) 0, kg 31 28 true (.call (.value (vl (.fn (.func 28) [] []))) [(tm 30)]) 0, kg 32 28 true (.convInt .u64 (tm 31)) 0, kg 33 28 true (.bin .gtr .other false (tm 29) (tm 32)) 0, k 34 (.pick (tm 28) (tm 33) (vl (.bool false))) 0]) (.cond (tm 34) (.region [k 8 (.mov (vl (int64 (4)))) 0]) .skip)) (.seq (.seq (.region [k 35 (.mov (tm 8)) 0, k 36 (.bin .neq .other true (tm 35) (vl (int64 (0)))) 0]) (.cond (tm 36) (.seq (.region [k 37 (.mov (tm 0)) 0, k 38 (.mov (tm 6)) 0, k 39 (.nilCheck (tm 37)) 0, k 40 (.fieldAddr 1 (tm 39)) 0, kn (.store 1 (tm 40) (tm 38)) 0]) (.seq (.region [k 41 (.mov (tm 8)) 0, k 4 (.mov (vl .nilSl)) 0, k 5 (.mov (tm 41)) 0]) .ret)) .skip)) (.seq (.region [k 42 (.mov (tm 0)) 0, k 43 (.mov (tm 0)) 0, k 44 (.nilCheck (tm 43)) 0, k 45 (.fieldAddr 1 (tm 44)) 0, k 46 (.load1 (tm 45)) 0, k 47 (.mov (tm 7)) 0, k 48 (.convInt .i64 (tm 47)) 0, k 49 (.bin .add .other false (tm 46) (tm 48)) 0, k 50 (.nilCheck (tm 42)) 0, k 51 (.fieldAddr 1 (tm 50)) 0, kn (.store 1 (tm 51) (tm 49)) 0]) (.seq (.drawn [k 52 (.mov (tm 0)) 0, k 53 (.nilCheck (tm 52)) 1, k 54 (.fieldAddr 0 (tm 53)) 3, k 55 (.load1 (tm 54)) 7, k 56 (.mov (tm 0)) 0, k 57 (.nilCheck (tm 56)) 16, k 58 (.fieldAddr 1 (tm 57)) 48, k 59 (.load1 (tm 58)) 112, k 60 (.mov (tm 7)) 0, k 61 (.convInt .i64 (tm 60)) 256, k 62 (.bin .sub .other false (tm 59) (tm 61)) 1008, k 63 (.mov (tm 0)) 0, k 64 (.nilCheck (tm 63)) 2048, k 65 (.fieldAddr 1 (tm 64)) 6144, k 66 (.load1 (tm 65)) 14336, k 67 (.sliceSl 1 (tm 55) (some (tm 62)) (some (tm 66)) none) 32767, k 68 (.append 1 0 (vl .nilSl) (tm 67)) 65535, k 4 (.mov (tm 68)) 131071, k 5 (.mov (vl (int64 (0)))) 262143]) .ret))))))))⟩
theorem obytes_code : compFn Tryz.prog 102 = some obytes_fu := by kernel_rfl
noncomputable def onumber_0 : C := (.seq (.seq (.region [k 4 (.mov (tm 0)) 0, k 5 (.bin .gtr .other true (tm 4) (vl (.int .u64 (127)))) 0]) (.cond (tm 5) .skip (.exit 0))) (.block 1 (.seq (.region [k 6 (.mov (tm 3)) 0, k 7 (.mov (tm 0)) 0, k 8 (.bin .rem .other true (tm 7) (vl (.int .u64 (128)))) 0, k 9 (.bin .add .other true (tm 8) (vl (.int .u64 (128)))) 0, k 10 (.convInt .u8 (tm 9)) 0, k 11 (.buildSl 1 1 [(.int .u8 (0))] [(0, 1, (tm 10))]) 0, k 12 (.append 1 0 (tm 6) (tm 11)) 0, k 3 (.mov (tm 12)) 0]) (.region [k 13 (.mov (tm 0)) 0, k 14 (.bin .quo .other true (tm 13) (vl (.int .u64 (128)))) 0, k 0 (.mov (tm 14)) 0]))))
noncomputable def onumber_fu : Fu := ⟨[.tmp (Pos.ofNat 2)], 20, (.seq (.region [k 2 (.mov (vl .nilSl)) 0]) (.seq (.region [k 3 (.mov (vl .nilSl)) 0]) (.seq (.block 0 (.loop onumber_0)) (.seq (.region [k 15 (.mov (tm 3)) 0, k 16 (.mov (tm 0)) 0, k 17 (.convInt .u8 (tm 16)) 0, k 18 (.buildSl 1 1 [(.int .u8 (0))] [(0, 1, (tm 17))]) 0, k 19 (.append 1 0 (tm 15) (tm 18)) 0, k 2 (.mov (tm 19)) 0]) .ret))))⟩
theorem onumber_code : compFn Tryz.prog 103 = some onumber_fu := by kernel_rfl
noncomputable def obyt_fu : Fu := ⟨[.tmp (Pos.ofNat 2)], 9, (.seq (.region [k 2 (.mov (vl .nilSl)) 0]) (.seq (.region [k 3 (.mov (tm 0)) 0, k 4 (.lenL (tm 3)) 0, k 5 (.convInt .u64 (tm 4)) 0, k 6 (.call (.value (vl (.fn (.func 103) [] []))) [(tm 5)]) 0, k 7 (.mov (tm 0)) 0, k 8 (.append 1 0 (tm 6) (tm 7)) 0, k 2 (.mov (tm 8)) 0]) .ret))⟩
theorem obyt_code : compFn Tryz.prog 104 = some obyt_fu := by kernel_rfl
noncomputable def ornum_0 : C := (.seq (.seq (.drawn [k 7 (.mov (tm 5)) 0, k 8 (.bin .lss .other true (tm 7) (vl (int64 (10)))) 1, k 9 (.mov (tm 8)) 3, kg 10 9 true (.mov (tm 0)) 7, kg 11 9 true (.nilCheck (tm 10)) 15, kg 12 9 true (.fieldAddr 1 (tm 11)) 31, kg 13 9 true (.load1 (tm 12)) 63, kg 14 9 true (.mov (tm 5)) 7, kg 15 9 true (.bin .add .other false (tm 13) (tm 14)) 255, kg 16 9 true (.mov (tm 0)) 7, kg 17 9 true (.nilCheck (tm 16)) 519, kg 18 9 true (.fieldAddr 0 (tm 17)) 1543, kg 19 9 true (.load1 (tm 18)) 3591, kg 20 9 true (.lenL (tm 19)) 7687, kg 21 9 true (.bin .lss .other false (tm 15) (tm 20)) 16383, k 22 (.pick (tm 9) (tm 21) (vl (.bool false))) 32767]) (.cond (tm 22) .skip (.exit 0))) (.seq (.block 1 (.seq (.drawn [k 25 (.mov (tm 0)) 0, k 26 (.nilCheck (tm 25)) 1, k 27 (.fieldAddr 0 (tm 26)) 3, k 28 (.load1 (tm 27)) 7, k 29 (.mov (tm 0)) 0, k 30 (.nilCheck (tm 29)) 16, k 31 (.fieldAddr 1 (tm 30)) 48, k 32 (.load1 (tm 31)) 112, k 33 (.mov (tm 5)) 0, k 34 (.bin .add .other false (tm 32) (tm 33)) 496, k 35 (.idxAddrSl 1 (tm 28) (tm 34)) 1023, k 36 (.load1 (tm 35)) 2047, k 6 (.mov (tm 36)) 4095]) (.seq (.seq (.region [k 37 (.mov (tm 5)) 0, k 38 (.bin .eql .other true (tm 37) (vl (int64 (9)))) 0, k 39 (.mov (tm 38)) 0, kg 40 39 true (.mov (tm 6)) 0, kg 41 39 true (.bin .gtr .other true (tm 40) (vl (.int .u8 (1)))) 0, k 42 (.pick (tm 39) (tm 41) (vl (.bool false))) 0, k 43 (.mov (tm 42)) 0, kg 44 43 false (.mov (tm 5)) 0, kg 45 43 false (.bin .gtr .other true (tm 44) (vl (int64 (0)))) 0, kg 46 43 false (.mov (tm 45)) 0, kg 47 46 true (.mov (tm 6)) 0, kg 48 46 true (.bin .eql .other true (tm 47) (vl (.int .u8 (0)))) 0, kg 49 43 false (.pick (tm 46) (tm 48) (vl (.bool false))) 0, k 50 (.pick (tm 43) (vl (.bool true)) (tm 49)) 0]) (.cond (tm 50) (.seq (.region [k 2 (.mov (vl (.int .u64 (0)))) 0, k 3 (.mov (vl (int64 (4)))) 0]) .ret) .skip)) (.seq (.region [k 51 (.mov (tm 4)) 0, k 52 (.mov (tm 6)) 0, k 53 (.bin .rem .other true (tm 52) (vl (.int .u8 (128)))) 0, k 54 (.convInt .u64 (tm 53)) 0, k 55 (.mov (tm 5)) 0, k 56 (.bin .mul .other true (vl (int64 (7))) (tm 55)) 0, k 57 (.bin .shl .other false (tm 54) (tm 56)) 0, k 58 (.bin .add .other false (tm 51) (tm 57)) 0, k 4 (.mov (tm 58)) 0]) (.seq (.region [k 59 (.mov (tm 6)) 0, k 60 (.bin .lss .other true (tm 59) (vl (.int .u8 (128)))) 0]) (.cond (tm 60) (.seq (.region [k 61 (.mov (tm 0)) 0, k 62 (.mov (tm 0)) 0, k 63 (.nilCheck (tm 62)) 0, k 64 (.fieldAddr 1 (tm 63)) 0, k 65 (.load1 (tm 64)) 0, k 66 (.mov (tm 5)) 0, k 67 (.bin .add .other false (tm 65) (tm 66)) 0, k 68 (.bin .add .other true (tm 67) (vl (int64 (1)))) 0, k 69 (.nilCheck (tm 61)) 0, k 70 (.fieldAddr 1 (tm 69)) 0, kn (.store 1 (tm 70) (tm 68)) 0]) (.seq (.region [k 71 (.mov (tm 4)) 0, k 2 (.mov (tm 71)) 0, k 3 (.mov (vl (int64 (0)))) 0]) .ret)) .skip)))))) (.region [k 23 (.mov (tm 5)) 0, k 24 (.bin .add .other true (tm 23) (vl (int64 (1)))) 0, k 5 (.mov (tm 24)) 0])))
noncomputable def ornum_fu : Fu := ⟨[.tmp (Pos.ofNat 2), .tmp (Pos.ofNat 3)], 72, (.seq (.region [k 2 (.mov (vl (.int .u64 (0)))) 0, k 3 (.mov (vl (int64 (0)))) 0]) (.seq (.region [k 4 (.mov (vl (.int .u64 (0)))) 0]) (.seq (.seq (.region [k 5 (.mov (vl (int64 (0)))) 0]) (.block 0 (.loop ornum_0))) (.seq (.region [k 2 (.mov (vl (.int .u64 (0)))) 0, k 3 (.mov (vl (int64 (4)))) 0]) .ret))))⟩
theorem ornum_code : compFn Tryz.prog 105 = some ornum_fu := by kernel_rfl
noncomputable def wcount_fu : Fu := ⟨[.tmp (Pos.ofNat 4), .tmp (Pos.ofNat 5)], 28, (.seq (.region [k 4 (.mov (vl (int64 (0)))) 0, k 5 (.mov (vl (int64 (0)))) 0]) (.seq (.seq (.region [k 8 (.mov (tm 1)) 0, k 9 (.bin .lss .other true (tm 8) (vl (int64 (0)))) 0]) (.cond (tm 9) (.seq (.region [k 4 (.mov (vl (int64 (0)))) 0, k 5 (.mov (vl (int64 (2)))) 0]) .ret) .skip)) (.seq (.region [k 11 (.mov (tm 0)) 0, k 12 (.call (.value (vl (.fn (.func 21) [] []))) [(tm 11)]) 0, k 10 (.mov (tm 12)) 0, k 13 (.extract (tm 10) 0) 0, k 14 (.extract (tm 10) 1) 0, k 6 (.mov (tm 13)) 0, k 7 (.mov (tm 14)) 0]) (.seq (.seq (.region [k 15 (.mov (tm 7)) 0, k 16 (.bin .eql .other true (tm 15) (vl (int64 (0)))) 0, k 17 (.mov (tm 16)) 0, kg 18 17 true (.mov (tm 6)) 0, kg 19 17 true (.mov (tm 1)) 0, kg 20 17 true (.convInt .u64 (tm 19)) 0, kg 21 17 true (.bin .gtr .other false (tm 18) (tm 20)) 0, k 22 (.pick (tm 17) (tm 21) (vl (.bool false))) 0]) (.cond (tm 22) (.region [k 7 (.mov (vl (int64 (3)))) 0]) .skip)) (.seq (.seq (.region [k 23 (.mov (tm 7)) 0, k 24 (.bin .neq .other true (tm 23) (vl (int64 (0)))) 0]) (.cond (tm 24) (.seq (.region [k 25 (.mov (tm 7)) 0, k 4 (.mov (vl (int64 (0)))) 0, k 5 (.mov (tm 25)) 0]) .ret) .skip)) (.seq (.region [k 26 (.mov (tm 6)) 0, k 27 (.convInt .i64 (tm 26)) 0, k 4 (.mov (tm 27)) 0, k 5 (.mov (vl (int64 (0)))) 0]) .ret))))))⟩
theorem wcount_code : compFn Tryz.prog 119 = some wcount_fu := by kernel_rfl
theorem ok_takes : okCall Tryz.prog 4 = true := by kernel_rfl
theorem ok_wopen : okCall Tryz.prog 18 = true := by kernel_rfl
theorem ok_wleft : okCall Tryz.prog 19 = true := by kernel_rfl
theorem ok_wflag : okCall Tryz.prog 20 = true := by kernel_rfl
theorem ok_wnum : okCall Tryz.prog 21 = true := by kernel_rfl
theorem ok_tb : okCall Tryz.prog 22 = true := by kernel_rfl
theorem ok_rtb : okCall Tryz.prog 23 = true := by kernel_rfl
theorem ok_tn : okCall Tryz.prog 24 = true := by kernel_rfl
theorem ok_rtn : okCall Tryz.prog 25 = true := by kernel_rfl
theorem ok_tt : okCall Tryz.prog 26 = true := by kernel_rfl
theorem ok_rtt : okCall Tryz.prog 27 = true := by kernel_rfl
theorem ok_oleft : okCall Tryz.prog 28 = true := by kernel_rfl
theorem ok_there : okCall Tryz.prog 64 = true := by kernel_rfl
theorem ok_takenb : okCall Tryz.prog 65 = true := by kernel_rfl
theorem ok_gbranch : okCall Tryz.prog 66 = true := by kernel_rfl
theorem ok_rbr : okCall Tryz.prog 67 = true := by kernel_rfl
theorem ok_rputb : okCall Tryz.prog 68 = true := by kernel_rfl
theorem ok_takenn : okCall Tryz.prog 69 = true := by kernel_rfl
theorem ok_gname : okCall Tryz.prog 70 = true := by kernel_rfl
theorem ok_rnm : okCall Tryz.prog 71 = true := by kernel_rfl
theorem ok_rputn : okCall Tryz.prog 72 = true := by kernel_rfl
theorem ok_takens : okCall Tryz.prog 73 = true := by kernel_rfl
theorem ok_take1 : okCall Tryz.prog 74 = true := by kernel_rfl
theorem ok_gnumber : okCall Tryz.prog 75 = true := by kernel_rfl
theorem ok_rsmall : okCall Tryz.prog 76 = true := by kernel_rfl
theorem ok_rput : okCall Tryz.prog 77 = true := by kernel_rfl
theorem ok_wend : okCall Tryz.prog 100 = true := by kernel_rfl
theorem ok_wbytes : okCall Tryz.prog 101 = true := by kernel_rfl
theorem ok_obytes : okCall Tryz.prog 102 = true := by kernel_rfl
theorem ok_onumber : okCall Tryz.prog 103 = true := by kernel_rfl
theorem ok_obyt : okCall Tryz.prog 104 = true := by kernel_rfl
theorem ok_ornum : okCall Tryz.prog 105 = true := by kernel_rfl
theorem ok_wcount : okCall Tryz.prog 119 = true := by kernel_rfl
end Go.Proofs.YtjhgembcdndmkaaGreatDoor.St

namespace Go.Proofs.YtjhgembcdndmkaaGreatDoor.St
open Go Go.RowKit Go.Proofs
def low (l : List UInt8) : Bool := l.all fun c => 97 ≤ c.toNat && c.toNat ≤ 122
def labelB (l : List UInt8) : Bool := low l && (1 ≤ l.length && l.length ≤ 12)
theorem low_no {l : List UInt8} {k : Nat} (hk : k < l.length) (h : (l[k].toNat : Int) < 97 ∨ 122 < (l[k].toNat : Int)) : labelB l = false := by
  have : low l = false := by
    rw [← Bool.not_eq_true]; intro q
    have := List.all_eq_true.1 q _ (List.getElem_mem hk)
    simp at this; omega
  unfold labelB; rw [this]; rfl
theorem low_step {l : List UInt8} {k : Nat} (hk : k < l.length) (h : low (l.take k) = true) (h1 : ¬ (l[k].toNat : Int) < 97) (h2 : ¬ 122 < (l[k].toNat : Int)) : low (l.take (k + 1)) = true := by
  unfold low at *
  rw [List.take_succ_eq_append_getElem hk, List.all_append, h]
  simp; omega
set_option maxHeartbeats 1600000 in
set_option maxRecDepth 1000000 in
theorem label_any (s : ByteArray) (w : World) (hs : s.size ≤ 9223372036854775807) :
    Calls Tryz.prog 92 #[.string s] w fun e w' => e = .returned (.bool (labelB s.data.toList)) ∧ Below w.heap.size w w' := by
  have hconv := run_bytes_of_string (P := Tryz.prog) w 9 44 5 s Tryz.underlying9 Tryz.underlying44 Tryz.underlying5
  generalize grownCap w s.size 0 5 = cap at hconv
  generalize hC : bytesRow s cap = C at hconv
  have hcell : ∀ j (hj : j < s.data.toList.length), (w.alloc (.cells C 5 (C.size, C.size + 1))).cell? ⟨w.heap.size, j, none⟩ = some (.int .u8 (s.data.toList[j].toNat : Int)) := by
    intro j hj
    subst hC
    unfold World.cell? World.alloc
    simp only [Array.getElem?_push_size]
    exact bytesRow_at s cap j (by simpa using hj)
  clear hC
  go_enter Tryz.func92, Tryz.ntmps92
  go_wp2
  go_loop [8] (fun i => ∃ k : Nat, k ≤ s.size ∧ i = .int .i64 k ∧ low (s.data.toList.take k) = true) (fun i => s.size - (intOf i).toNat)
  case atStart => exact ⟨0, Nat.zero_le _, rfl, rfl⟩
  case round =>
    obtain ⟨k, hk, rfl, hl⟩ := hrel
    have hsl : s.data.toList.length = s.size := by simp
    by_cases hlt : k < s.size
    · have hc := hcell k (by omega)
      have hkl : k < s.data.toList.length := by omega
      have hs1 := low_step hkl hl
      have hn1 := low_no hkl
      generalize (s.data.toList[k]).toNat = c at hc hs1 hn1
      clear hcell hconv
      go_wp2
      · go_ret
        exact ⟨rfl, by first | exact ((Below.refl _ _).alloc (Nat.le_refl _) _).drew | exact (Below.refl _ _).drew.alloc (Nat.le_refl _) _⟩
      · go_round
        case rel => exact ⟨k + 1, by omega, by go_num, hs1 (by omega) (by omega)⟩
        case measure => simp [intOf]; omega
      · go_ret
        exact ⟨rfl, by first | exact ((Below.refl _ _).alloc (Nat.le_refl _) _).drew | exact (Below.refl _ _).drew.alloc (Nat.le_refl _) _⟩
    · have hkk : k = s.size := by omega
      obtain rfl : s.size = k := hkk.symm
      have hfull : low s.data.toList = true := by rw [← hsl, List.take_length] at hl; exact hl
      have hB : labelB s.data.toList = (decide (1 ≤ s.size) && decide (s.size ≤ 12)) := by unfold labelB; rw [hfull, hsl]; simp
      have HB := Lib.hid hB
      clear hB hcell hconv hsl hl hfull
      go_wp2
      all_goals
        go_ret
        refine ⟨?_, by first | exact ((Below.refl _ _).alloc (Nat.le_refl _) _).drew | exact (Below.refl _ _).drew.alloc (Nat.le_refl _) _⟩
        rw [HB.out]
        first
          | (have h1 : 1 ≤ s.size := by omega
             simp [h1]
             by_cases h2 : s.size ≤ 12 <;> simp [h2] <;> omega)
          | (have h1 : ¬ 1 ≤ s.size := by omega
             simp [h1])
end Go.Proofs.YtjhgembcdndmkaaGreatDoor.St

namespace Go.Proofs
open Go.Shelf
end Go.Proofs

namespace Go.Proofs.YtjhgembcdndmkaaGreatDoor.St
open Go Go.Proofs.YtjhgembcdndmkaaGreatDoor.Am Go.Proofs Go.RowKit
theorem strOf_eq {a b : List UInt8} : (strOf a = strOf b) = (a = b) := propext ⟨strOf_inj, fun e => by rw [e]⟩
theorem byt_eq {a b : List UInt8} : (byt a = byt b) = (a = b) := propext ⟨byt_inj, fun e => by rw [e]⟩
theorem map_strOf_inj : ∀ {a b : List (List UInt8)}, a.map strOf = b.map strOf → a = b
  | [], [], _ => rfl
  | [], _ :: _, e => by cases e
  | _ :: _, [], e => by cases e
  | x :: a, y :: b, e => by
    rw [List.map_cons, List.map_cons, List.cons.injEq] at e
    rw [strOf_inj e.1, map_strOf_inj e.2]
theorem map_strOf_eq {a b : List (List UInt8)} : (a.map strOf = b.map strOf) = (a = b) := propext ⟨map_strOf_inj, fun e => by rw [e]⟩
theorem cells_strOf (s : List UInt8) : (strOf s).cells = [strOf s] := rfl
theorem cells_int (k : IntKind) (z : Int) : (AV.int k z).cells = [.int k z] := rfl
theorem cells_agg (l : List AV) : (AV.agg l).cells = l := rfl
theorem at_int (k : IntKind) (z : Int) : (AV.int k z).atom = true := rfl
theorem at_str (n v : Nat) : (AV.str n v).atom = true := rfl
theorem at_strOf (s : List UInt8) : (strOf s).atom = true := rfl
theorem at_bool (b : Bool) : (AV.bool b).atom = true := rfl
theorem at_sl (id : Pos) (g o n c : Nat) (e : Bool) (k : Nat) : (AV.sl id g o n c e k).atom = true := rfl
theorem at_nil : AV.nilSl.atom = true := rfl
theorem at_ptr (id : Pos) (g o : Nat) : (AV.ptr id g o).atom = true := rfl
theorem cells_bool (b : Bool) : (AV.bool b).cells = [.bool b] := rfl
theorem cells_str (n v : Nat) : (AV.str n v).cells = [.str n v] := rfl
theorem cells_sl (id : Pos) (g o n c : Nat) (e : Bool) (k : Nat) : (AV.sl id g o n c e k).cells = [.sl id g o n c e k] := rfl
theorem cells_nil : AV.nilSl.cells = [.nilSl] := rfl
theorem cells_ptr (id : Pos) (g o : Nat) : (AV.ptr id g o).cells = [.ptr id g o] := rfl
theorem rel_strOf {φ : Phi} {b : List UInt8} {x : Value} (h : Rel φ (strOf b) x) : x = .string ⟨b.toArray⟩ := by
  cases h with
  | str e hv =>
    rename_i s
    rw [unpack_pack] at e
    congr 1
    cases s with | mk d => cases d with | mk l => cases e; rfl
theorem relL_one {φ : Phi} {a : AV} {xs : Array Value} (h : RelL φ [a] xs.toList) : ∃ x, xs = #[x] ∧ Rel φ a x := by
  cases xs with | mk l => cases h with | cons p q => cases q; exact ⟨_, rfl, p⟩
structure HasG (m : Int) (t1 t2 : AV) (h : Hp) : Prop where
  max : T.get (Pos.ofNat 0) h.heap = some (tabB [int64 m])
  syn : T.get (Pos.ofNat 1) h.heap = some (tabB [t1])
  rng : T.get (Pos.ofNat 2) h.heap = some (tabB [t2])
  tab : T.get (Pos.ofNat 3) h.heap = some (tabB (Lib.pow10Tab.map fun z => .int .u64 z))
  isA : ∃ t v, t1 = .ifc t v
  isB : ∃ t v, t2 = .ifc t v
  old : (Pos.ofNat 6).num ≤ h.next.num
section
variable {m : Int} {t1 t2 : AV}
theorem HasG.more {h h' : Hp} (g : HasG m t1 t2 h) (o : Only [] h h') : HasG m t1 t2 h' := by
  have n : ∀ i, i < 6 → (Pos.ofNat i).num < h.next.num := fun i hi => by have := g.old; rw [Pos.num_ofNat] at this ⊢; omega
  exact ⟨by rw [o.same _ (n 0 (by omega)) (by simp)]; exact g.max, by rw [o.same _ (n 1 (by omega)) (by simp)]; exact g.syn, by rw [o.same _ (n 2 (by omega)) (by simp)]; exact g.rng, by rw [o.same _ (n 3 (by omega)) (by simp)]; exact g.tab, g.isA, g.isB, Nat.le_trans g.old o.next⟩
noncomputable def e_label : Ent := mkEnt 92 1 [] (fun z_ : (List UInt8) => [strOf z_]) (fun _ => []) (fun z_ => z_.length ≤ 9000) (fun z_ => .plain (.bool (labelB z_)))
theorem f_label : e_label.f = 92 := rfl
theorem x_label {U : List Ent} {b : Pos} {st : XS} (hU : tget U 92 = some e_label) (s : List UInt8) (hp : s.length ≤ 9000) : xcall U b 92 [strOf s] st = some (XR.out b st (.plain (.bool (labelB s)))) :=
  xcall_at hU rfl rfl (mkEnt_spec (by rintro a0 b0 h hc; simp only [List.cons.injEq, AV.agg.injEq, AV.tup.injEq, AV.int.injEq, AV.bool.injEq, AV.ptr.injEq, AV.sl.injEq, strOf_eq, byt_eq, map_strOf_eq, true_and, and_true, Int.natCast_inj] at h hc; simp [h, hc]) s hp) (by first | rfl | (split <;> rfl))
theorem kit_label : EntK Tryz.prog (HasG m t1 t2) e_label := mkEnt_kit ok_label fun s h _ hs _ => KitFn.kitH fun φ w xs hR hx => by
  obtain ⟨x, rfl, p⟩ := relL_one hx
  obtain rfl := rel_strOf p
  exact (label_any ⟨s.toArray⟩ w (by show s.length ≤ _; omega)).mono fun e w' ⟨he, hb⟩ => ⟨_, he, .bool _, hb⟩
end
end Go.Proofs.YtjhgembcdndmkaaGreatDoor.St

namespace Go.Proofs.YtjhgembcdndmkaaGreatDoor.St
open Go Go.Proofs.YtjhgembcdndmkaaGreatDoor.Am Go.Proofs Go.RowKit
attribute [local simp] xr_mov xd_mov xr_pick xd_pick xr_bin xd_bin xr_un xd_un xr_build xr_convInt xd_convInt xr_mkFn xr_fld xd_fld xr_extract xr_lenS xr_lenL xd_lenL xr_nilPtr xd_nilPtr xr_load1 xd_load1 xr_loadN xd_loadN xr_bytesStr xd_bytesStr xr_eqPtr xr_new xr_box xr_buildSl xd_buildSl xd_strBytes xr_mkSl xr_idxAddrSl xd_idxAddrSl xr_idxStr xd_sliceSl orU_some orU_none lenSA_str lenSA_strOf lenLA_sl lenLA_nil xfn xcode xdrawn xr_nil xr_kg xr_kgu xr_call xr_store xr_append xd_append xap_sl xap_nl xapq_some xsrc_sl xsrc_nil xapp_nil xapp_grow xapp_room xset xown xnx_some xnp_some xnq_some xd_nil xdl_old xdl_new xda_some xd_call xd_kg xdn_some xld xal kindOf isAlloc allocs xins xrem xall xput xget xwhole xmine xcont xq xqs xres XS.add XR.out XR.outU XR.ups xsets XR.res Rs.seq Rs.inSc Rs.block mapO tupleA sv_args adv_eq tget eqs8 eqs7 eqi8 eqi7 eqg8 eql8 eqn8 eqn7 cells_strOf cells_int cells_agg cells_bool cells_str cells_sl cells_nil cells_ptr at_int at_str at_strOf at_bool at_sl at_nil at_ptr unstr_strOf unbyt_byt fill_nil fill_cons replA ev_tm ev_vl sv_stv bin_add bin_sub bin_mul bin_lss bin_leq bin_gtr bin_geq bin_eql bin_neq un_not nth0 nth1 nth2 xst_idxAddrSl xst_idxStr xst_sliceStr xst_sliceSl xsl_sl xbd slN Nat.testBit
def branchB (r : Int) (s : List UInt8) : Bool := decide (0 ≤ r) && (decide (r < 8) && labelB s)
def nameB (r : Int) (s : List UInt8) (n : Int) : Bool := branchB r s && (decide (1 ≤ n) && decide (n ≤ 4611686018427387904))
def stampB (g r : Int) (s : List UInt8) (n i : Int) : Bool := decide (1 ≤ g) && (decide (g ≤ 4611686018427387904) && (nameB r s n && (decide (0 ≤ i) && decide (i < 64))))
noncomputable def e_branch : Ent := mkEnt 41 1 [] (fun z_ : Int × (List UInt8) => [.agg [int64 z_.1, strOf z_.2]]) (fun _ => []) (fun z_ => z_.2.length ≤ 9000) (fun z_ => .plain (.bool (branchB z_.1 z_.2)))
theorem f_branch : e_branch.f = 41 := rfl
theorem x_branch {U : List Ent} {b : Pos} {st : XS} (hU : tget U 41 = some e_branch) (r : Int) (s : List UInt8) (hp : s.length ≤ 9000) : xcall U b 41 [.agg [int64 r, strOf s]] st = some (XR.out b st (.plain (.bool (branchB r s)))) :=
  xcall_at hU rfl rfl (mkEnt_spec (by rintro ⟨a0, a1⟩ ⟨b0, b1⟩ h hc; simp only [List.cons.injEq, AV.agg.injEq, AV.tup.injEq, AV.int.injEq, AV.bool.injEq, AV.ptr.injEq, AV.sl.injEq, strOf_eq, byt_eq, map_strOf_eq, true_and, and_true, Int.natCast_inj] at h hc; simp [h, hc]) (r, s) hp) (by first | rfl | (split <;> rfl))
noncomputable def e_name : Ent := mkEnt 42 1 [] (fun z_ : Int × (List UInt8) × Int => [.agg [int64 z_.1, strOf z_.2.1, int64 z_.2.2]]) (fun _ => []) (fun z_ => z_.2.1.length ≤ 9000) (fun z_ => .plain (.bool (nameB z_.1 z_.2.1 z_.2.2)))
theorem f_name : e_name.f = 42 := rfl
theorem x_name {U : List Ent} {b : Pos} {st : XS} (hU : tget U 42 = some e_name) (r : Int) (s : List UInt8) (n : Int) (hp : s.length ≤ 9000) : xcall U b 42 [.agg [int64 r, strOf s, int64 n]] st = some (XR.out b st (.plain (.bool (nameB r s n)))) :=
  xcall_at hU rfl rfl (mkEnt_spec (by rintro ⟨a0, a1, a2⟩ ⟨b0, b1, b2⟩ h hc; simp only [List.cons.injEq, AV.agg.injEq, AV.tup.injEq, AV.int.injEq, AV.bool.injEq, AV.ptr.injEq, AV.sl.injEq, strOf_eq, byt_eq, map_strOf_eq, true_and, and_true, Int.natCast_inj] at h hc; simp [h, hc]) (r, s, n) hp) (by first | rfl | (split <;> rfl))
noncomputable def e_stamp : Ent := mkEnt 43 1 [] (fun z_ : Int × Int × (List UInt8) × Int × Int => [.agg [int64 z_.1, int64 z_.2.1, strOf z_.2.2.1, int64 z_.2.2.2.1, int64 z_.2.2.2.2]]) (fun _ => []) (fun z_ => z_.2.2.1.length ≤ 9000) (fun z_ => .plain (.bool (stampB z_.1 z_.2.1 z_.2.2.1 z_.2.2.2.1 z_.2.2.2.2)))
theorem f_stamp : e_stamp.f = 43 := rfl
theorem x_stamp {U : List Ent} {b : Pos} {st : XS} (hU : tget U 43 = some e_stamp) (g : Int) (r : Int) (s : List UInt8) (n : Int) (i : Int) (hp : s.length ≤ 9000) : xcall U b 43 [.agg [int64 g, int64 r, strOf s, int64 n, int64 i]] st = some (XR.out b st (.plain (.bool (stampB g r s n i)))) :=
  xcall_at hU rfl rfl (mkEnt_spec (by rintro ⟨a0, a1, a2, a3, a4⟩ ⟨b0, b1, b2, b3, b4⟩ h hc; simp only [List.cons.injEq, AV.agg.injEq, AV.tup.injEq, AV.int.injEq, AV.bool.injEq, AV.ptr.injEq, AV.sl.injEq, strOf_eq, byt_eq, map_strOf_eq, true_and, and_true, Int.natCast_inj] at h hc; simp [h, hc]) (g, r, s, n, i) hp) (by first | rfl | (split <;> rfl))
section
variable {m : Int} {t1 t2 : AV}
theorem branch_ok : EntOK Tryz.prog (HasG m t1 t2) e_branch := mkEnt_ok ok_branch fun p h g hs _ => by
  obtain ⟨r, s⟩ := p
  have hs : s.length ≤ 9000 := hs
  refine plain_of (U := []) (K := [e_label]) (fun _ o => g.more o) (by simp) (by simp [kit_label]) 0 branch_code (by simp [branch_fu]) rfl ?_
  show _ = some (AV.bool (branchB r s))
  unfold branchB
  by_cases c0 : 0 ≤ r <;> by_cases c1 : r < 8 <;> simp [branch_fu, c0, c1, x_label, f_label, hs]
theorem name_ok : EntOK Tryz.prog (HasG m t1 t2) e_name := mkEnt_ok ok_name fun p h g hs _ => by
  obtain ⟨r, s, n⟩ := p
  have hs : s.length ≤ 9000 := hs
  refine plain_of (U := []) (K := [e_branch]) (fun _ o => g.more o) (by simp) (by simp [branch_ok.entK]) 0 name_code (by simp [name_fu]) rfl ?_
  show _ = some (AV.bool (nameB r s n))
  unfold nameB
  cases c0 : branchB r s <;> by_cases c1 : 1 ≤ n <;> simp [name_fu, c0, c1, x_branch, f_branch, hs]
theorem stamp_ok : EntOK Tryz.prog (HasG m t1 t2) e_stamp := mkEnt_ok ok_stamp fun p h g hs _ => by
  obtain ⟨g', r, s, n, i⟩ := p
  have hs : s.length ≤ 9000 := hs
  refine plain_of (U := []) (K := [e_name]) (fun _ o => g.more o) (by simp) (by simp [name_ok.entK]) 0 stamp_code (by simp [stamp_fu]) rfl ?_
  show _ = some (AV.bool (stampB g' r s n i))
  unfold stampB
  by_cases c1 : 1 ≤ g' <;> by_cases c2 : g' ≤ 4611686018427387904 <;> cases c0 : nameB r s n <;> by_cases c3 : 0 ≤ i <;> simp [stamp_fu, c0, c1, c2, c3, x_name, f_name, hs]
end
end Go.Proofs.YtjhgembcdndmkaaGreatDoor.St

namespace Go.Proofs.YtjhgembcdndmkaaGreatDoor.St
open Go Go.Proofs.YtjhgembcdndmkaaGreatDoor.Am Go.Proofs Go.RowKit
attribute [local simp] xr_mov xd_mov xr_pick xd_pick xr_bin xd_bin xr_un xd_un xr_build xr_convInt xd_convInt xr_mkFn xr_fld xd_fld xr_extract xr_lenS xr_lenL xd_lenL xr_nilPtr xd_nilPtr xr_load1 xd_load1 xr_loadN xd_loadN xr_bytesStr xd_bytesStr xr_eqPtr xr_new xr_box xr_buildSl xd_buildSl xd_strBytes xr_mkSl xr_idxAddrSl xd_idxAddrSl xr_idxStr xd_sliceSl orU_some orU_none lenSA_str lenSA_strOf lenLA_sl lenLA_nil xfn xcode xdrawn xr_nil xr_kg xr_kgu xr_call xr_store xr_append xd_append xap_sl xap_nl xapq_some xsrc_sl xsrc_nil xapp_nil xapp_grow xapp_room xset xown xnx_some xnp_some xnq_some xd_nil xdl_old xdl_new xda_some xd_call xd_kg xdn_some xld xal kindOf isAlloc allocs xins xrem xall xput xget xwhole xmine xcont xq xqs xres XS.add XR.out XR.outU XR.ups xsets XR.res Rs.seq Rs.inSc Rs.block mapO tupleA sv_args adv_eq tget eqs8 eqs7 eqi8 eqi7 eqg8 eql8 eqn8 eqn7 cells_strOf cells_int cells_agg cells_bool cells_str cells_sl cells_nil cells_ptr at_int at_str at_strOf at_bool at_sl at_nil at_ptr unstr_strOf unbyt_byt fill_nil fill_cons replA ev_tm ev_vl sv_stv bin_add bin_sub bin_mul bin_lss bin_leq bin_gtr bin_geq bin_eql bin_neq un_not nth0 nth1 nth2 xst_idxAddrSl xst_idxStr xst_sliceStr xst_sliceSl xsl_sl xbd slN Nat.testBit
noncomputable def rdC (q : Pos) (n : Nat) (a : Int) : List AV := [.sl q 0 0 n (n + 1) true 1, int64 a]
def lenN : AV → Nat
  | .sl _ _ _ n _ _ _ => n
  | _ => 0
noncomputable def e_there : Ent := mkEnt 64 1 [.blk 0] (fun z_ : Pos × Pos × Nat × Int => [.ptr z_.1 0 0]) (fun z_ => [[.sl z_.2.1 0 0 z_.2.2.1 (z_.2.2.1 + 1) true 1, int64 z_.2.2.2]]) (fun _ => True) (fun _ => .plain (.bool true))
theorem f_there : e_there.f = 64 := rfl
theorem x_there {U : List Ent} {b : Pos} {st : XS} (hU : tget U 64 = some e_there) (p : Pos) (q : Pos) (n : Nat) (a : Int) (hq : xqs st.X [.ptr p 0 0] [.blk 0] = some [[.sl q 0 0 n (n + 1) true 1, int64 a]]) : xcall U b 64 [.ptr p 0 0] st = some (XR.out b st (.plain (.bool true))) :=
  xcall_at hU rfl hq (mkEnt_spec (by rintro ⟨a0, a1, a2, a3⟩ ⟨b0, b1, b2, b3⟩ h hc; simp only [List.cons.injEq, AV.agg.injEq, AV.tup.injEq, AV.int.injEq, AV.bool.injEq, AV.ptr.injEq, AV.sl.injEq, strOf_eq, byt_eq, map_strOf_eq, true_and, and_true, Int.natCast_inj] at h hc; simp [h, hc]) (p, q, n, a) trivial) (by first | rfl | (split <;> rfl))
noncomputable def e_wleft : Ent := mkEnt 19 1 [.blk 0] (fun z_ : Pos × Pos × Nat × Nat => [.ptr z_.1 0 0]) (fun z_ => [[.sl z_.2.1 0 0 z_.2.2.1 (z_.2.2.1 + 1) true 1, int64 (z_.2.2.2 : Int)]]) (fun z_ => z_.2.2.2 ≤ z_.2.2.1 ∧ z_.2.2.1 ≤ 9000) (fun z_ => .plain (int64 ((z_.2.2.1 - z_.2.2.2 : Nat) : Int)))
theorem f_wleft : e_wleft.f = 19 := rfl
theorem x_wleft {U : List Ent} {b : Pos} {st : XS} (hU : tget U 19 = some e_wleft) (p : Pos) (q : Pos) (n : Nat) (a : Nat) (hp : a ≤ n ∧ n ≤ 9000) (hq : xqs st.X [.ptr p 0 0] [.blk 0] = some [[.sl q 0 0 n (n + 1) true 1, int64 (a : Int)]]) : xcall U b 19 [.ptr p 0 0] st = some (XR.out b st (.plain (int64 ((n - a : Nat) : Int)))) :=
  xcall_at hU rfl hq (mkEnt_spec (by rintro ⟨a0, a1, a2, a3⟩ ⟨b0, b1, b2, b3⟩ h hc; simp only [List.cons.injEq, AV.agg.injEq, AV.tup.injEq, AV.int.injEq, AV.bool.injEq, AV.ptr.injEq, AV.sl.injEq, strOf_eq, byt_eq, map_strOf_eq, true_and, and_true, Int.natCast_inj] at h hc; simp [h, hc]) (p, q, n, a) hp) (by first | rfl | (split <;> rfl))
noncomputable def e_wend : Ent := mkEnt 100 1 [.blk 0] (fun z_ : Pos × Pos × Nat × Nat => [.ptr z_.1 0 0]) (fun z_ => [[.sl z_.2.1 0 0 z_.2.2.1 (z_.2.2.1 + 1) true 1, int64 (z_.2.2.2 : Int)]]) (fun z_ => z_.2.2.2 ≤ z_.2.2.1 ∧ z_.2.2.1 ≤ 9000) (fun z_ => .plain (int64 (if z_.2.2.2 < z_.2.2.1 then 4 else 0)))
theorem f_wend : e_wend.f = 100 := rfl
theorem x_wend {U : List Ent} {b : Pos} {st : XS} (hU : tget U 100 = some e_wend) (p : Pos) (q : Pos) (n : Nat) (a : Nat) (hp : a ≤ n ∧ n ≤ 9000) (hq : xqs st.X [.ptr p 0 0] [.blk 0] = some [[.sl q 0 0 n (n + 1) true 1, int64 (a : Int)]]) : xcall U b 100 [.ptr p 0 0] st = some (XR.out b st (.plain (int64 (if a < n then 4 else 0)))) :=
  xcall_at hU rfl hq (mkEnt_spec (by rintro ⟨a0, a1, a2, a3⟩ ⟨b0, b1, b2, b3⟩ h hc; simp only [List.cons.injEq, AV.agg.injEq, AV.tup.injEq, AV.int.injEq, AV.bool.injEq, AV.ptr.injEq, AV.sl.injEq, strOf_eq, byt_eq, map_strOf_eq, true_and, and_true, Int.natCast_inj] at h hc; simp [h, hc]) (p, q, n, a) hp) (by first | rfl | (split <;> rfl))
noncomputable def e_oleft : Ent := mkEnt 28 1 [.blk 0] (fun z_ : Pos × AV × Nat => [.ptr z_.1 0 0]) (fun z_ => [[z_.2.1, int64 (z_.2.2 : Int)]]) (fun z_ => z_.2.2 ≤ lenN z_.2.1 ∧ lenN z_.2.1 ≤ 9000 ∧ lenLA z_.2.1 = some (int64 (lenN z_.2.1 : Int))) (fun z_ => .plain (int64 ((lenN z_.2.1 - z_.2.2 : Nat) : Int)))
theorem f_oleft : e_oleft.f = 28 := rfl
theorem x_oleft {U : List Ent} {b : Pos} {st : XS} (hU : tget U 28 = some e_oleft) (p : Pos) (v : AV) (a : Nat) (hp : a ≤ lenN v ∧ lenN v ≤ 9000 ∧ lenLA v = some (int64 (lenN v : Int))) (hq : xqs st.X [.ptr p 0 0] [.blk 0] = some [[v, int64 (a : Int)]]) : xcall U b 28 [.ptr p 0 0] st = some (XR.out b st (.plain (int64 ((lenN v - a : Nat) : Int)))) :=
  xcall_at hU rfl hq (mkEnt_spec (by rintro ⟨a0, a1, a2⟩ ⟨b0, b1, b2⟩ h hc; simp only [List.cons.injEq, AV.agg.injEq, AV.tup.injEq, AV.int.injEq, AV.bool.injEq, AV.ptr.injEq, AV.sl.injEq, strOf_eq, byt_eq, map_strOf_eq, true_and, and_true, Int.natCast_inj] at h hc; simp [h, hc]) (p, v, a) hp) (by first | rfl | (split <;> rfl))
theorem blk1 {h : Hp} {p : Pos} {l : List AV} (c : Conts h [.ptr p 0 0] [.blk 0] [l]) : XB.Holds h ⟨p, 0, false, l⟩ := by
  obtain ⟨c1, r, e, ⟨id, e1, w⟩, _⟩ := c
  cases e; cases e1
  exact w
theorem neqSl (id : Pos) (g o n c : Nat) (ex : Bool) (es : Nat) (no : Bool) : binA .neq .slice no (.sl id g o n c ex es) .nilSl = some (.bool true) := rfl
section
variable {G : Hp → Prop}
theorem there_ok (hG : ∀ h h', G h → Only [] h h' → G h') : EntOK Tryz.prog G e_there := mkEnt_ok ok_there fun z h g _ hc => by
  obtain ⟨p, q, n, a⟩ := z
  refine plain_ofX (U := []) (K := []) (fun _ o => hG _ _ g o) (by simp) (by simp) 0 (.start1 (blk1 hc) rfl) there_code (by simp [there_fu]) rfl ?_
  simp [there_fu, neqSl]
theorem wleft_ok (hG : ∀ h h', G h → Only [] h h' → G h') : EntOK Tryz.prog G e_wleft := mkEnt_ok ok_wleft fun z h g hp hc => by
  obtain ⟨p, q, n, a⟩ := z
  obtain ⟨h1, h2⟩ : a ≤ n ∧ n ≤ 9000 := hp
  refine plain_ofX (U := []) (K := [e_there]) (fun _ o => hG _ _ g o) (by simp) (by simp [(there_ok hG).entK]) 0 (.start1 (blk1 hc) rfl) wleft_code (by simp [wleft_fu]) rfl ?_
  have w : wrapA .i64 ((n : Int) - (a : Int)) = ((n - a : Nat) : Int) := by rw [w64 (by omega) (by omega)]; omega
  simp [wleft_fu, x_there (q := q) (n := n) (a := (a : Int)), f_there, w]
theorem wend_ok (hG : ∀ h h', G h → Only [] h h' → G h') : EntOK Tryz.prog G e_wend := mkEnt_ok ok_wend fun z h g hp hc => by
  obtain ⟨p, q, n, a⟩ := z
  obtain ⟨h1, h2⟩ : a ≤ n ∧ n ≤ 9000 := hp
  refine plain_ofX (U := []) (K := [e_there, e_wleft]) (v := int64 (if a < n then 4 else 0)) (fun _ o => hG _ _ g o) (by simp) (by simp [(there_ok hG).entK, (wleft_ok hG).entK]) 0 (.start1 (blk1 hc) rfl) wend_code (by simp [wend_fu]) rfl ?_
  by_cases c : a < n
  · have c' : 0 < n - a := by omega
    simp [wend_fu, x_there (q := q) (n := n) (a := (a : Int)), f_there, x_wleft (q := q) (n := n) (a := a), f_wleft, h1, h2, c, c']
  · have c' : ¬ 0 < n - a := by omega
    simp [wend_fu, x_there (q := q) (n := n) (a := (a : Int)), f_there, x_wleft (q := q) (n := n) (a := a), f_wleft, h1, h2, c, c']
theorem oleft_ok (hG : ∀ h h', G h → Only [] h h' → G h') : EntOK Tryz.prog G e_oleft := mkEnt_ok ok_oleft fun z h g hp hc => by
  obtain ⟨p, v, a⟩ := z
  obtain ⟨h1, h2, h3⟩ : a ≤ lenN v ∧ lenN v ≤ 9000 ∧ lenLA v = some (int64 (lenN v : Int)) := hp
  refine plain_ofX (U := []) (K := []) (fun _ o => hG _ _ g o) (by simp) (by simp) 0 (.start1 (blk1 hc) rfl) oleft_code (by simp [oleft_fu]) rfl ?_
  have w : wrapA .i64 ((lenN v : Int) - (a : Int)) = ((lenN v - a : Nat) : Int) := by rw [w64 (by omega) (by omega)]; omega
  cases v with
  | sl id g o n c ex es =>
    have w : wrapA .i64 ((n : Int) - (a : Int)) = ((n - a : Nat) : Int) := w
    simp [oleft_fu, w, lenN]
  | nilSl =>
    obtain rfl : a = 0 := by have : a ≤ 0 := h1; omega
    simp [oleft_fu, lenN, w64, fun {P U b X0 i l env s pend rid am m d} y => xdl_old (P := P) (U := U) (b := b) (X0 := X0) (i := i) (l := l) (env := env) (s := s) (pend := pend) (rid := rid) (am := am) (m := m) (d := d) .nilSl y eqn8]
  | _ => cases h3
end
end Go.Proofs.YtjhgembcdndmkaaGreatDoor.St

namespace Go.Proofs.YtjhgembcdndmkaaGreatDoor.St
open Go Go.Proofs.YtjhgembcdndmkaaGreatDoor.Am Go.Proofs Go.RowKit
attribute [local simp] xr_mov xd_mov xr_pick xd_pick xr_bin xd_bin xr_un xd_un xr_build xr_convInt xd_convInt xr_mkFn xr_fld xd_fld xr_extract xr_lenS xr_lenL xd_lenL xr_nilPtr xd_nilPtr xr_load1 xd_load1 xr_loadN xd_loadN xr_bytesStr xd_bytesStr xr_eqPtr xr_new xr_box xr_buildSl xd_buildSl xd_strBytes xr_mkSl xr_idxAddrSl xd_idxAddrSl xr_idxStr xd_sliceSl orU_some orU_none lenSA_str lenSA_strOf lenLA_sl lenLA_nil xfn xcode xdrawn xr_nil xr_kg xr_kgu xr_call xr_store xr_append xd_append xap_sl xap_nl xapq_some xsrc_sl xsrc_nil xapp_nil xapp_grow xapp_room xset xown xnx_some xnp_some xnq_some xd_nil xdl_old xdl_new xda_some xd_call xd_kg xdn_some xld xal kindOf isAlloc allocs xins xrem xall xput xget xwhole xmine xcont xq xqs xres XS.add XR.out XR.outU XR.ups xsets XR.res Rs.seq Rs.inSc Rs.block mapO tupleA sv_args adv_eq tget eqs8 eqs7 eqi8 eqi7 eqg8 eql8 eqn8 eqn7 cells_strOf cells_int cells_agg cells_bool cells_str cells_sl cells_nil cells_ptr at_int at_str at_strOf at_bool at_sl at_nil at_ptr unstr_strOf unbyt_byt fill_nil fill_cons replA ev_tm ev_vl sv_stv bin_add bin_sub bin_mul bin_lss bin_leq bin_gtr bin_geq bin_eql bin_neq un_not nth0 nth1 nth2 xst_idxAddrSl xst_idxStr xst_sliceStr xst_sliceSl xsl_sl xbd slN Nat.testBit
def wread (an : Int → Int) (sh : Int → Int → Int) (or : Int → Int → Int) : List UInt8 → Nat → Int → Option (Int × Nat)
  | [], _, _ => none
  | c :: l, i, n => if (i = 9 ∧ 1 < c.toNat) ∨ (0 < i ∧ c.toNat = 0) then none
    else if c.toNat < 128 then some (or n (sh (an (c.toNat : Int)) (7 * (i : Int))), i + 1) else wread an sh or l (i + 1) (or n (sh (an (c.toNat : Int)) (7 * (i : Int))))
section
theorem wnum_loop (an : Int → Int) (sh or : Int → Int → Int) (h1 : ∀ kd no x, binA .and kd no (.int .u8 x) (.int .u8 127) = some (.int .u8 (an x))) (h0 : ∀ x, wrapA .u64 (an x) = an x) (h2 : ∀ kd no x (y : Nat), binA .shl kd no (.int .u64 x) (.int .u64 (y : Int)) = some (.int .u64 (sh x (y : Int)))) (h3 : ∀ kd no x y, binA .or kd no (.int .u64 x) (.int .u64 y) = some (.int .u64 (or x y)))
    (b : List UInt8) (hb : b.length ≤ 9000) (B p q : Pos) (hpq : p ≠ q) (sn : Nat) (a0 : Nat) (L : List AV) (hL : ∀ (j : Nat) (hj : j < b.length), L[j]? = some (.int .u8 (b[j].toNat : Int))) (k : Nat) :
    ∀ (fuel i : Nat) (n : Int) (env : T AV), sv env 0 = .ptr p 0 0 → sv env 4 = .int .u64 n → sv env 5 = int64 ((a0 + i : Nat) : Int) → sv env 6 = .int .u64 ((7 * i : Nat) : Int) → i ≤ 9 → 10 < fuel + i → a0 + i ≤ b.length →
    ∃ env' r st', xloop (xcode Tryz.prog [] [e_there] B (k + 1) wnum_0) fuel env ⟨sn, [⟨p, 0, true, rdC q b.length a0⟩, ⟨q, 0, false, L⟩]⟩ = some (r, env', st') ∧
      (match wread an sh or (b.drop (a0 + i)) i n with
        | some (v, m) => r = .ret ∧ sv env' 2 = .int .u64 v ∧ sv env' 3 = int64 0 ∧ st' = ⟨sn, [⟨p, 0, true, rdC q b.length ((a0 + m : Nat) : Int)⟩, ⟨q, 0, false, L⟩]⟩
        | none => r = .exit 0 ∧ st' = ⟨sn, [⟨p, 0, true, rdC q b.length a0⟩, ⟨q, 0, false, L⟩]⟩)
  | 0, i, n, env, _, _, _, _, _, hf, _ => by omega
  | fuel + 1, i, n, env, e0, e4, e5, e6, hi, hf, ha => by
    unfold xloop
    by_cases hlt : a0 + i < b.length
    · have key := fun n env e0 e4 e5 e6 hi' => wnum_loop an sh or h1 h0 h2 h3 b hb B p q hpq sn a0 L hL k fuel (i + 1) n env e0 e4 e5 e6 hi' (by omega) (by omega)
      generalize xloop (xcode Tryz.prog [] [e_there] B (k + 1) wnum_0) fuel = R at key ⊢
      have hd : b.drop (a0 + i) = b[a0 + i] :: b.drop (a0 + (i + 1)) := List.drop_eq_getElem_cons hlt
      have hl := hL (a0 + i) hlt
      rw [hd]
      unfold wread
      generalize b[a0 + i] = c at hl
      have hc := c.toNat_lt
      have w1 : wrapA .i64 (((a0 + i : Nat) : Int) + 1) = ((a0 + (i + 1) : Nat) : Int) := by rw [w64 (by omega) (by omega)]; omega
      have w2 : wrapA .u64 (((7 * i : Nat) : Int) + 7) = ((7 * (i + 1) : Nat) : Int) := by rw [wu64 (by omega) (by omega)]; omega
      have h2' : ∀ kd no x, binA .shl kd no (.int .u64 x) (.int .u64 ((7 * i : Nat) : Int)) = some (.int .u64 (sh x (7 * (i : Int)))) := fun kd no x => by rw [h2]; rfl
      have e5' : sv env 5 = int64 ((a0 : Int) + (i : Int)) := by rw [e5]; rfl
      have hlt' : (a0 : Int) + (i : Int) < (b.length : Int) := by omega
      have tn : ((a0 : Int) + (i : Int)).toNat = a0 + i := by omega
      have nn : (0 : Int) ≤ (a0 : Int) + (i : Int) := by omega
      have w1' : wrapA .i64 ((a0 : Int) + (i : Int) + 1) = (a0 : Int) + ((i : Int) + 1) := by rw [w64 (by omega) (by omega)]; omega
      have e6' : sv env 6 = .int .u64 (7 * (i : Int)) := by rw [e6]; congr 1
      have w2' : wrapA .u64 (7 * (i : Int) + 7) = 7 * ((i : Int) + 1) := by rw [wu64 (by omega) (by omega)]; omega
      have h2'' : ∀ kd no x, binA .shl kd no (.int .u64 x) (.int .u64 (7 * (i : Int))) = some (.int .u64 (sh x (7 * (i : Int)))) := h2'
      by_cases p1 : i = 9 ∧ 1 < c.toNat
      · rw [if_pos (.inl p1)]
        have r1 := eq_true (show 7 * (i : Int) = 63 by omega)
        have r2 := eq_true (show 1 < c.toNat from p1.2)
        have r2' := eq_true (show (1 : Int) < (c.toNat : Int) by omega)
        simp [wnum_0, rdC, e0, e4, e5', e6', hpq, hpq.symm, hlt', tn, nn, hl, w1', w2', h1, h0, h2'', h3, r1, r2, r2']
      · by_cases p2 : 0 < i ∧ c.toNat = 0
        · rw [if_pos (.inr p2)]
          have r2 := eq_false (show ¬ 1 < c.toNat by omega)
          have r2' := eq_false (show ¬ (1 : Int) < (c.toNat : Int) by omega)
          have r3 := eq_true (show 0 < 7 * (i : Int) by omega)
          have r3' := eq_true (show 0 < i from p2.1)
          have r4 := eq_true p2.2
          by_cases p3 : i = 9
          · have r1 := eq_true (show 7 * (i : Int) = 63 by omega)
            simp [wnum_0, rdC, e0, e4, e5', e6', hpq, hpq.symm, hlt', tn, nn, hl, w1', w2', h1, h0, h2'', h3, r1, r2, r2', r3, r3', r4]
          · have r1 := eq_false (show ¬ 7 * (i : Int) = 63 by omega)
            simp [wnum_0, rdC, e0, e4, e5', e6', hpq, hpq.symm, hlt', tn, nn, hl, w1', w2', h1, h0, h2'', h3, r1, r2, r2', r3, r3', r4]
        · rw [if_neg (by rintro (q | q); exact p1 q; exact p2 q)]
          by_cases p5 : c.toNat < 128
          · rw [if_pos p5]
            have r5 := eq_true p5
            have r5' := eq_true (show (c.toNat : Int) < 128 by omega)
            by_cases p9 : i = 9
            · have r1 := eq_true (show 7 * (i : Int) = 63 by omega)
              have r2 := eq_false (show ¬ 1 < c.toNat by omega)
              have r2' := eq_false (show ¬ (1 : Int) < (c.toNat : Int) by omega)
              have r3 := eq_true (show 0 < 7 * (i : Int) by omega)
              have r3' := eq_true (show 0 < i by omega)
              have r4 := eq_false (show ¬ c.toNat = 0 by omega)
              simp [wnum_0, rdC, e0, e4, e5', e6', hpq, hpq.symm, hlt', tn, nn, hl, w1', w2', h1, h0, h2'', h3, r1, r2, r2', r3, r3', r4, r5, r5']
              exact ⟨_, _, _, ⟨rfl, rfl, rfl⟩, by simp [sv_stv, rdC]⟩
            · have r1 := eq_false (show ¬ 7 * (i : Int) = 63 by omega)
              by_cases p3 : 0 < i
              · have r3 := eq_true (show 0 < 7 * (i : Int) by omega)
                have r3' := eq_true p3
                have r4 := eq_false (show ¬ c.toNat = 0 by omega)
                simp [wnum_0, rdC, e0, e4, e5', e6', hpq, hpq.symm, hlt', tn, nn, hl, w1', w2', h1, h0, h2'', h3, r1, r3, r3', r4, r5, r5']
                exact ⟨_, _, _, ⟨rfl, rfl, rfl⟩, by simp [sv_stv, rdC]⟩
              · have r3 := eq_false (show ¬ 0 < 7 * (i : Int) by omega)
                have r3' := eq_false p3
                simp [wnum_0, rdC, e0, e4, e5', e6', hpq, hpq.symm, hlt', tn, nn, hl, w1', w2', h1, h0, h2'', h3, r1, r3, r3', r5, r5']
                exact ⟨_, _, _, ⟨rfl, rfl, rfl⟩, by simp [sv_stv, rdC]⟩
          · rw [if_neg p5]
            have r5 := eq_false p5
            have r5' := eq_false (show ¬ (c.toNat : Int) < 128 by omega)
            have i9 : i ≠ 9 := by omega
            have r1 := eq_false (show ¬ 7 * (i : Int) = 63 by omega)
            have r4 := eq_false (show ¬ c.toNat = 0 by omega)
            by_cases p3 : 0 < i
            · have r3 := eq_true (show 0 < 7 * (i : Int) by omega)
              have r3' := eq_true p3
              simp [wnum_0, rdC, e0, e4, e5', e6', hpq, hpq.symm, hlt', tn, nn, hl, w1', w2', h1, h0, h2'', h3, r1, r3, r3', r4, r5, r5']
              refine key _ _ ?_ ?_ ?_ ?_ (by omega) <;> simp [sv_stv, e0, Int.add_assoc] <;> omega
            · have r3 := eq_false (show ¬ 0 < 7 * (i : Int) by omega)
              have r3' := eq_false p3
              simp [wnum_0, rdC, e0, e4, e5', e6', hpq, hpq.symm, hlt', tn, nn, hl, w1', w2', h1, h0, h2'', h3, r1, r3, r3', r4, r5, r5']
              refine key _ _ ?_ ?_ ?_ ?_ (by omega) <;> simp [sv_stv, e0, Int.add_assoc] <;> omega
    · have hz : b.drop (a0 + i) = [] := List.drop_eq_nil_of_le (by omega)
      have hn : ¬ ((a0 + i : Nat) : Int) < (b.length : Int) := by omega
      rw [hz]
      unfold wread
      have hn' : ¬ a0 + i < b.length := hlt
      have hn2 : ¬ (a0 : Int) + (i : Int) < (b.length : Int) := by omega
      simp [wnum_0, rdC, e0, e5, hpq, hpq.symm, hn, hn2]
end
end Go.Proofs.YtjhgembcdndmkaaGreatDoor.St

namespace Go.Proofs.YtjhgembcdndmkaaGreatDoor.St
open Go Go.Proofs.YtjhgembcdndmkaaGreatDoor.Am Go.Proofs Go.RowKit
attribute [local simp] xr_mov xd_mov xr_pick xd_pick xr_bin xd_bin xr_un xd_un xr_build xr_convInt xd_convInt xr_mkFn xr_fld xd_fld xr_extract xr_lenS xr_lenL xd_lenL xr_nilPtr xd_nilPtr xr_load1 xd_load1 xr_loadN xd_loadN xr_bytesStr xd_bytesStr xr_eqPtr xr_new xr_box xr_buildSl xd_buildSl xd_strBytes xr_mkSl xr_idxAddrSl xd_idxAddrSl xr_idxStr xd_sliceSl orU_some orU_none lenSA_str lenSA_strOf lenLA_sl lenLA_nil xfn xcode xdrawn xr_nil xr_kg xr_kgu xr_call xr_store xr_append xd_append xap_sl xap_nl xapq_some xsrc_sl xsrc_nil xapp_nil xapp_grow xapp_room xset xown xnx_some xnp_some xnq_some xd_nil xdl_old xdl_new xda_some xd_call xd_kg xdn_some xld xal kindOf isAlloc allocs xins xrem xall xput xget xwhole xmine xcont xq xqs xres XS.add XR.out XR.outU XR.ups xsets XR.res Rs.seq Rs.inSc Rs.block mapO tupleA sv_args adv_eq tget eqs8 eqs7 eqi8 eqi7 eqg8 eql8 eqn8 eqn7 cells_strOf cells_int cells_agg cells_bool cells_str cells_sl cells_nil cells_ptr at_int at_str at_strOf at_bool at_sl at_nil at_ptr unstr_strOf unbyt_byt fill_nil fill_cons replA ev_tm ev_vl sv_stv bin_add bin_sub bin_mul bin_lss bin_leq bin_gtr bin_geq bin_eql bin_neq un_not nth0 nth1 nth2 xst_idxAddrSl xst_idxStr xst_sliceStr xst_sliceSl xsl_sl xbd slN Nat.testBit
noncomputable def anI (x : Int) : Int := (bitsF .and .u8 x 127).getD 0
noncomputable def shU (x y : Int) : Int := wrapA .u64 (x * Int.ofNat (Nat.pow 2 (bif Nat.ble y.toNat 64 then y.toNat else 64)))
noncomputable def orU64 (x y : Int) : Int := (bitsF .or .u64 x y).getD 0
theorem bitsF_some (op : BinOp) (hop : op = .and ∨ op = .or) (k : IntKind) (x y : Int) : bitsF op k x y = some ((bitsF op k x y).getD 0) := by
  have : ∃ z, bitsF op k x y = some z := by
    unfold bitsF
    rcases hop with rfl | rfl <;> (cases x with
    | ofNat a => cases y with
      | ofNat b =>
        dsimp only
        cases (Nat.blt a (Nat.pow 2 (topBits k)) && Nat.blt b (Nat.pow 2 (topBits k))) <;> exact ⟨_, rfl⟩
      | negSucc b => exact ⟨_, rfl⟩
    | negSucc a => exact ⟨_, rfl⟩)
  obtain ⟨z, e⟩ := this
  rw [e]; rfl
theorem bin_and8 (kd : EK) (no : Bool) (x : Int) : binA .and kd no (.int .u8 x) (.int .u8 127) = some (.int .u8 (anI x)) := by
  show (if IntKind.u8 = IntKind.u8 then intBin .and .u8 x 127 else none) = _
  rw [if_pos rfl]
  unfold intBin
  have e : bitsF .and .u8 x 127 = some (anI x) := bitsF_some .and (.inl rfl) .u8 x 127
  simp only [e, intK_eq]
theorem bin_orU (kd : EK) (no : Bool) (x y : Int) : binA .or kd no (.int .u64 x) (.int .u64 y) = some (.int .u64 (orU64 x y)) := by
  show (if IntKind.u64 = IntKind.u64 then intBin .or .u64 x y else none) = _
  rw [if_pos rfl]
  unfold intBin
  have e : bitsF .or .u64 x y = some (orU64 x y) := bitsF_some .or (.inr rfl) .u64 x y
  simp only [e, intK_eq]
theorem bin_shlU (kd : EK) (no : Bool) (x : Int) (y : Nat) : binA .shl kd no (.int .u64 x) (.int .u64 (y : Int)) = some (.int .u64 (shU x (y : Int))) :=
  intK_eq (shU x (y : Int)) fun r => some (AV.int .u64 r)
theorem and8_range {a : Int} {z : Int} (e : bitsF .and .u8 a (Int.ofNat 127) = some z) : 0 ≤ z ∧ z ≤ 255 := by
  have hA : ∀ n : Nat, 0 ≤ IntKind.wrap .u8 (n : Int) ∧ IntKind.wrap .u8 (n : Int) ≤ 255 := fun n => by unfold IntKind.wrap; simp [IntKind.signed, IntKind.bits]; omega
  unfold bitsF at e
  cases a with
  | ofNat a =>
    dsimp only at e
    cases h : (Nat.blt a (Nat.pow 2 (topBits .u8)) && Nat.blt 127 (Nat.pow 2 (topBits .u8))) with
    | true =>
      rw [h, cond_true] at e
      cases e
      have : Nat.land a 127 ≤ 127 := Nat.and_le_right
      exact ⟨Int.natCast_nonneg _, by show ((Nat.land a 127 : Nat) : Int) ≤ 255; omega⟩
    | false =>
      rw [h, cond_false] at e
      cases e
      exact hA _
  | negSucc a => cases e; exact hA _
theorem anI_range (x : Int) : 0 ≤ anI x ∧ anI x ≤ 255 := and8_range (bitsF_some .and (.inl rfl) .u8 x 127)
theorem wrap_anI (x : Int) : wrapA .u64 (anI x) = anI x := by
  have := anI_range x
  exact wu64 (by omega) (by omega)
noncomputable def numR (b : List UInt8) (a : Nat) : Option (Int × Nat) := wread anI shU orU64 (b.drop a) 0 0
noncomputable def numV (b : List UInt8) (a : Nat) : Int := ((numR b a).map (·.1)).getD 0
noncomputable def numA (b : List UInt8) (a : Nat) : Nat := ((numR b a).map fun p => a + p.2).getD a
noncomputable def numE (b : List UInt8) (a : Nat) : Int := if (numR b a).isSome then 0 else 4
theorem HasG.upd {m : Int} {t1 t2 : AV} {h h' : Hp} {S : List Pos} (g : HasG m t1 t2 h) (o : Only S h h') (hS : ∀ p ∈ S, (Pos.ofNat 6).num ≤ p.num) : HasG m t1 t2 h' := by
  have n : ∀ i, i < 6 → (Pos.ofNat i).num < h.next.num := fun i hi => by have := g.old; rw [Pos.num_ofNat] at this ⊢; omega
  have ne : ∀ i, i < 6 → Pos.ofNat i ∉ S := fun i hi c => by have := hS _ c; rw [Pos.num_ofNat, Pos.num_ofNat] at this; omega
  exact ⟨by rw [o.same _ (n 0 (by omega)) (ne 0 (by omega))]; exact g.max, by rw [o.same _ (n 1 (by omega)) (ne 1 (by omega))]; exact g.syn, by rw [o.same _ (n 2 (by omega)) (ne 2 (by omega))]; exact g.rng, by rw [o.same _ (n 3 (by omega)) (ne 3 (by omega))]; exact g.tab, g.isA, g.isB, Nat.le_trans g.old o.next⟩
theorem slc_at' {h : Hp} {p : Pos} {n cap0 : Nat} {l : List AV} {ex : Bool} (c : SlC h (.sl p 0 0 n cap0 ex 1) l) : ∃ L, XB.Holds h ⟨p, 0, false, L⟩ ∧ List.take n L = l ∧ n ≤ L.length := by
  generalize hv : AV.sl p 0 0 n cap0 ex 1 = v at c
  cases c with
  | nil => cases hv
  | @mk id gg off n cap es e' L k hn =>
    cases hv
    exact ⟨L, k, by simp, by omega⟩
noncomputable def e_wnum : Ent := mkEnt 21 1 [.own 0, .bsl 0 0] (fun z_ : Pos × Pos × Nat × (List UInt8) => [.ptr z_.1 0 0]) (fun z_ => [[.sl z_.2.1 0 0 z_.2.2.2.length (z_.2.2.2.length + 1) true 1, int64 (z_.2.2.1 : Int)], byt z_.2.2.2]) (fun z_ => z_.1 ≠ z_.2.1 ∧ z_.2.2.1 ≤ z_.2.2.2.length ∧ z_.2.2.2.length ≤ 9000 ∧ (Pos.ofNat 6).num ≤ z_.1.num) (fun z_ => .upd [(z_.1, [.sl z_.2.1 0 0 z_.2.2.2.length (z_.2.2.2.length + 1) true 1, int64 (numA z_.2.2.2 z_.2.2.1 : Int)])] (.tup [.int .u64 (numV z_.2.2.2 z_.2.2.1), int64 (numE z_.2.2.2 z_.2.2.1)]))
theorem f_wnum : e_wnum.f = 21 := rfl
theorem x_wnum {U : List Ent} {b : Pos} {st : XS} (hU : tget U 21 = some e_wnum) (p : Pos) (q : Pos) (a : Nat) (l : List UInt8) (hp : p ≠ q ∧ a ≤ l.length ∧ l.length ≤ 9000 ∧ (Pos.ofNat 6).num ≤ p.num) (hq : xqs st.X [.ptr p 0 0] [.own 0, .bsl 0 0] = some [[.sl q 0 0 l.length (l.length + 1) true 1, int64 (a : Int)], byt l]) (ho : ((.upd [(p, [.sl q 0 0 l.length (l.length + 1) true 1, int64 (numA l a : Int)])] (.tup [.int .u64 (numV l a), int64 (numE l a)]) : XR).ups.all fun x => (xown st.X x.1 0).isSome) = true) : xcall U b 21 [.ptr p 0 0] st = none ∧ xupd U b 21 [.ptr p 0 0] st = some (XR.outU b st (.upd [(p, [.sl q 0 0 l.length (l.length + 1) true 1, int64 (numA l a : Int)])] (.tup [.int .u64 (numV l a), int64 (numE l a)]))) :=
  xupd_at hU rfl hq (mkEnt_spec (by rintro ⟨a0, a1, a2, a3⟩ ⟨b0, b1, b2, b3⟩ h hc; simp only [List.cons.injEq, AV.agg.injEq, AV.tup.injEq, AV.int.injEq, AV.bool.injEq, AV.ptr.injEq, AV.sl.injEq, strOf_eq, byt_eq, map_strOf_eq, true_and, and_true, Int.natCast_inj] at h hc; simp [h, hc]) (p, q, a, l) hp) (by first | rfl | (split <;> rfl)) ho
section
variable {m : Int} {t1 t2 : AV}
theorem wnum_ok : EntOK Tryz.prog (HasG m t1 t2) e_wnum := mkEnt_ok ok_wnum fun z h g hz hc => by
  obtain ⟨p, q, a, l⟩ := z
  obtain ⟨hpq, ha, hl, h6⟩ : p ≠ q ∧ a ≤ l.length ∧ l.length ≤ 9000 ∧ (Pos.ofNat 6).num ≤ p.num := hz
  obtain ⟨_, _, e, ⟨_, ev, w⟩, _, _, e', ⟨_, C, _, ev', w', k', s'⟩, _⟩ := hc
  cases e; cases e'; cases ev; cases ev'
  cases Holds.eq w w'
  cases k'
  dsimp only at *
  obtain ⟨L, kq, tq, aq⟩ := slc_at' s'
  have hX : AllH [⟨p, 0, true, [.sl q 0 0 l.length (l.length + 1) true 1, int64 (a : Int)]⟩, ⟨q, 0, false, L⟩] h := by
    intro x mx
    simp only [List.mem_cons, List.not_mem_nil, or_false] at mx
    rcases mx with rfl | rfl <;> assumption
  have hL : ∀ (j : Nat) (hj : j < l.length), L[j]? = some (.int .u8 (l[j].toNat : Int)) := fun j hj => by
    have e1 : (L.take l.length)[j]? = L[j]? := List.getElem?_take_of_lt hj
    rw [← e1, tq]
    show (l.map _)[j]? = _
    rw [List.getElem?_map, List.getElem?_eq_getElem hj]; rfl
  refine upd_of [(p, [.sl q 0 0 l.length (l.length + 1) true 1, int64 (numA l a : Int)])] (U := []) (K := [e_there]) (fun _ o => g.upd o (by simpa using h6)) (by simp) (by simp [(there_ok (G := HasG m t1 t2) (fun _ _ g o => g.more o)).entK]) 12 (.startW h hX (by simpa using hpq) (by simp)) (fun x mx => ?_) wnum_code (by simp [wnum_fu]) rfl ?_
  · simp only [List.mem_singleton] at mx
    subst mx
    exact ⟨_, List.mem_cons_self .., fun y hy => by
      simp only [List.mem_cons, List.not_mem_nil, or_false] at hy
      rcases hy with rfl | rfl
      · right; simp
      · left; rfl⟩
  · have LP := fun env e0 e4 e5 e6 => wnum_loop anI shU orU64 bin_and8 wrap_anI bin_shlU bin_orU l hl h.next p q hpq 0 a L hL 11 12 0 0 env e0 e4 e5 e6 (by omega) (by omega) (by simpa using ha)
    obtain ⟨env', r, st', e, hm⟩ := LP (stv (stv (stv (stv (stv (stv (stv (stv (stv (stv (stv (stv (setArgs .e 0 [.ptr p 0 0]) 2 (.int .u64 0)) 3 (int64 0)) 8 (.ptr p 0 0)) 9 (.bool true)) 10 (.bool false)) 11 (.ptr p 0 0)) 12 (.ptr p 0 0)) 13 (.ptr p 0 1)) 14 (int64 (a : Int))) 4 (.int .u64 0)) 5 (int64 (a : Int))) 6 (.int .u64 0)) (by simp [sv_stv, sv_args]) (by simp [sv_stv]) (by simp [sv_stv]) (by simp [sv_stv])
    simp only [rdC, Nat.add_zero] at e hm
    cases hw : wread anI shU orU64 (l.drop a) 0 0 with
    | none =>
      rw [hw] at hm
      obtain ⟨rfl, rfl⟩ := hm
      simp [wnum_fu, x_there (q := q) (n := l.length) (a := (a : Int)), f_there, hpq, hpq.symm, e, owns, xown, numV, numA, numE, numR, hw]
    | some vk =>
      obtain ⟨v, k⟩ := vk
      rw [hw] at hm
      obtain ⟨rfl, m1, m2, rfl⟩ := hm
      simp [wnum_fu, x_there (q := q) (n := l.length) (a := (a : Int)), f_there, hpq, hpq.symm, e, m1, m2, owns, xown, numV, numA, numE, numR, hw]
end
end Go.Proofs.YtjhgembcdndmkaaGreatDoor.St

namespace Go.Proofs.YtjhgembcdndmkaaGreatDoor.St
open Go Go.Proofs.YtjhgembcdndmkaaGreatDoor.Am Go.Proofs Go.RowKit
theorem orF_nonneg {x y z : Int} (e : bitsF .or .u64 x y = some z) : 0 ≤ z := by
  have hA : ∀ n : Nat, 0 ≤ IntKind.wrap .u64 (n : Int) := fun n => by unfold IntKind.wrap; simp [IntKind.signed, IntKind.bits]; omega
  unfold bitsF at e
  cases x with
  | ofNat a => cases y with
    | ofNat b =>
      dsimp only at e
      cases h : (Nat.blt a (Nat.pow 2 (topBits .u64)) && Nat.blt b (Nat.pow 2 (topBits .u64))) with
      | true =>
        rw [h, cond_true] at e
        cases e
        exact Int.natCast_nonneg _
      | false =>
        rw [h, cond_false] at e
        cases e
        exact hA _
    | negSucc b => cases e; exact hA _
  | negSucc a => cases e; exact hA _
theorem orU64_nonneg (x y : Int) : 0 ≤ orU64 x y := orF_nonneg (bitsF_some .or (.inr rfl) .u64 x y)
theorem wread_or {an : Int → Int} {sh or : Int → Int → Int} : ∀ {l : List UInt8} {i : Nat} {n v : Int} {k : Nat}, wread an sh or l i n = some (v, k) → ∃ x y, v = or x y
  | [], _, _, _, _, e => by cases e
  | c :: l, i, n, v, k, e => by
    unfold wread at e
    split at e
    · cases e
    · split at e
      · cases e; exact ⟨_, _, rfl⟩
      · exact wread_or e
theorem numV_nonneg (l : List UInt8) (a : Nat) : 0 ≤ numV l a := by
  unfold numV numR
  cases h : wread anI shU orU64 (l.drop a) 0 0 with
  | none => exact Int.le_refl _
  | some p =>
    obtain ⟨v, k⟩ := p
    obtain ⟨x, y, rfl⟩ := wread_or h
    exact orU64_nonneg x y
theorem wread_len {an : Int → Int} {sh or : Int → Int → Int} : ∀ {l : List UInt8} {i : Nat} {n v : Int} {k : Nat}, wread an sh or l i n = some (v, k) → i < k ∧ k ≤ i + l.length
  | [], _, _, _, _, e => by cases e
  | c :: l, i, n, v, k, e => by
    unfold wread at e
    split at e
    · cases e
    · split at e
      · cases e; simp
      · have := wread_len e; simp; omega
theorem numA_le {l : List UInt8} {a : Nat} (h : a ≤ l.length) : a ≤ numA l a ∧ numA l a ≤ l.length := by
  unfold numA numR
  cases e : wread anI shU orU64 (l.drop a) 0 0 with
  | none => exact ⟨Nat.le_refl _, h⟩
  | some p =>
    obtain ⟨v, k⟩ := p
    have := wread_len e
    rw [List.length_drop] at this
    show a ≤ a + k ∧ a + k ≤ l.length
    omega
end Go.Proofs.YtjhgembcdndmkaaGreatDoor.St
