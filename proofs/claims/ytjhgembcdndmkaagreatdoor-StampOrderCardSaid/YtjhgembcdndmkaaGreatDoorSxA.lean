import Derived.Test.YtjhgembcdndmkaaGreatDoorProg
import Derived.KernelRfl
import Derived.WalkKit
import Derived.Outline
import Derived.OwnWalk
import Derived.IntWalk
import Derived.WalkLawsBesides
import Derived.Laws.IdiomStrings
import Derived.Lib.Hide
import Derived.Shelf.LaysM
import Derived.Shelf.LaysC
import Derived.Shelf.Strings.OnBuilder
import Derived.Shelf.Strconv.Itoa4
import Derived.Shelf.Strconv.ErrVarParseInt
import Derived.Shelf.Strconv.ParseIntPublic10
import Derived.Shelf.Strings.Cut
import Derived.Shelf.Strings.SplitShaped
import Derived.Test.YtjhgembcdndmkaaGreatDoorRows
import Derived.Lib.ParseIntBTie
import Derived.Lib.ParseIntBCases
import Derived.Lib.Split
import Derived.Lib.SplitLaws
import Derived.Lib.ItoaLen
import Derived.Lib.ItoaMem
import Derived.Lib.Join
import Derived.Test.YtjhgembcdndmkaaGreatDoorAmJ
/- THE WALK'S PARTS, part A: what the functions of the law compute, over the abstract machine that stands beside this text. No condition. -/
set_option linter.unusedSimpArgs false
set_option linter.unusedVariables false
namespace Go.Proofs.YtjhgembcdndmkaaGreatDoor.St
open Go Go.Proofs.YtjhgembcdndmkaaGreatDoor.Am Go.Proofs
noncomputable def branch_fu : Fu := ⟨[.tmp (Pos.ofNat 2)], 16, (.seq (.region [k 1 (.box (tm 0)) 0, k 2 (.mov (vl (.bool false))) 0]) (.seq (.region [k 3 (.fieldAddr 0 (tm 1)) 0, k 4 (.load1 (tm 3)) 0, k 5 (.bin .geq .other true (tm 4) (vl (int64 (0)))) 0, k 6 (.mov (tm 5)) 0, kg 7 6 true (.fieldAddr 0 (tm 1)) 0, kg 8 6 true (.load1 (tm 7)) 0, kg 9 6 true (.bin .lss .other true (tm 8) (vl (int64 (8)))) 0, k 10 (.pick (tm 6) (tm 9) (vl (.bool false))) 0, k 11 (.mov (tm 10)) 0, kg 12 11 true (.fieldAddr 1 (tm 1)) 0, kg 13 11 true (.load1 (tm 12)) 0, kg 14 11 true (.call (.value (vl (.fn (.func 92) [] []))) [(tm 13)]) 0, k 15 (.pick (tm 11) (tm 14) (vl (.bool false))) 0, k 2 (.mov (tm 15)) 0]) .ret))⟩
theorem branch_code : compFn Tryz.prog 41 = some branch_fu := by kernel_rfl
noncomputable def name_fu : Fu := ⟨[.tmp (Pos.ofNat 2)], 16, (.seq (.region [k 1 (.box (tm 0)) 0, k 2 (.mov (vl (.bool false))) 0]) (.seq (.region [k 3 (.fieldAddr 0 (tm 1)) 0, k 4 (.loadN 2 (tm 3)) 0, k 5 (.call (.value (vl (.fn (.func 41) [] []))) [(tm 4)]) 0, k 6 (.mov (tm 5)) 0, kg 7 6 true (.fieldAddr 2 (tm 1)) 0, kg 8 6 true (.load1 (tm 7)) 0, kg 9 6 true (.bin .geq .other true (tm 8) (vl (int64 (1)))) 0, k 10 (.pick (tm 6) (tm 9) (vl (.bool false))) 0, k 11 (.mov (tm 10)) 0, kg 12 11 true (.fieldAddr 2 (tm 1)) 0, kg 13 11 true (.load1 (tm 12)) 0, kg 14 11 true (.bin .leq .other true (tm 13) (vl (int64 (4611686018427387904)))) 0, k 15 (.pick (tm 11) (tm 14) (vl (.bool false))) 0, k 2 (.mov (tm 15)) 0]) .ret))⟩
theorem name_code : compFn Tryz.prog 42 = some name_fu := by kernel_rfl
noncomputable def stamp_fu : Fu := ⟨[.tmp (Pos.ofNat 2)], 26, (.seq (.region [k 1 (.box (tm 0)) 0, k 2 (.mov (vl (.bool false))) 0]) (.seq (.region [k 3 (.fieldAddr 0 (tm 1)) 0, k 4 (.load1 (tm 3)) 0, k 5 (.bin .geq .other true (tm 4) (vl (int64 (1)))) 0, k 6 (.mov (tm 5)) 0, kg 7 6 true (.fieldAddr 0 (tm 1)) 0, kg 8 6 true (.load1 (tm 7)) 0, kg 9 6 true (.bin .leq .other true (tm 8) (vl (int64 (4611686018427387904)))) 0, k 10 (.pick (tm 6) (tm 9) (vl (.bool false))) 0, k 11 (.mov (tm 10)) 0, kg 12 11 true (.fieldAddr 1 (tm 1)) 0, kg 13 11 true (.loadN 3 (tm 12)) 0, kg 14 11 true (.call (.value (vl (.fn (.func 42) [] []))) [(tm 13)]) 0, k 15 (.pick (tm 11) (tm 14) (vl (.bool false))) 0, k 16 (.mov (tm 15)) 0, kg 17 16 true (.fieldAddr 4 (tm 1)) 0, kg 18 16 true (.load1 (tm 17)) 0, kg 19 16 true (.bin .geq .other true (tm 18) (vl (int64 (0)))) 0, k 20 (.pick (tm 16) (tm 19) (vl (.bool false))) 0, k 21 (.mov (tm 20)) 0, kg 22 21 true (.fieldAddr 4 (tm 1)) 0, kg 23 21 true (.load1 (tm 22)) 0, kg 24 21 true (.bin .lss .other true (tm 23) (vl (int64 (64)))) 0, k 25 (.pick (tm 21) (tm 24) (vl (.bool false))) 0, k 2 (.mov (tm 25)) 0]) .ret))⟩
theorem stamp_code : compFn Tryz.prog 43 = some stamp_fu := by kernel_rfl
noncomputable def digits_fu : Fu := ⟨[.tmp (Pos.ofNat 2)], 5, (.seq (.region [k 2 (.mov (vl (.str 0 0))) 0]) (.seq (.region [k 3 (.mov (tm 0)) 0, k 4 (.call (.value (vl (.fn (.func 107) [] []))) [(tm 3), (vl (int64 (10)))]) 0, k 2 (.mov (tm 4)) 0]) .ret))⟩
theorem digits_code : compFn Tryz.prog 85 = some digits_fu := by kernel_rfl
noncomputable def text_fu : Fu := ⟨[.tmp (Pos.ofNat 2)], 5, (.seq (.region [k 2 (.mov (vl (.str 0 0))) 0]) (.seq (.region [k 3 (.mov (tm 0)) 0, k 4 (.call (.value (vl (.fn (.func 106) [] []))) [(tm 3), (vl (.str 1 46))]) 0, k 2 (.mov (tm 4)) 0]) .ret))⟩
theorem text_code : compFn Tryz.prog 84 = some text_fu := by kernel_rfl
noncomputable def textb_fu : Fu := ⟨[.tmp (Pos.ofNat 2), .tmp (Pos.ofNat 3)], 14, (.seq (.region [k 1 (.box (tm 0)) 0, k 2 (.mov (vl (.str 0 0))) 0, k 3 (.mov (vl (int64 (0)))) 0]) (.seq (.seq (.region [k 4 (.loadN 2 (tm 1)) 0, k 5 (.call (.value (vl (.fn (.func 41) [] []))) [(tm 4)]) 0, k 6 (.un .not (tm 5)) 0]) (.cond (tm 6) (.seq (.region [k 2 (.mov (vl (.str 0 0))) 0, k 3 (.mov (vl (int64 (2)))) 0]) .ret) .skip)) (.seq (.drawn [k 7 (.fieldAddr 0 (tm 1)) 0, k 8 (.load1 (tm 7)) 1, k 9 (.call (.value (vl (.fn (.func 85) [] []))) [(tm 8)]) 3, k 10 (.fieldAddr 1 (tm 1)) 0, k 11 (.load1 (tm 10)) 8, k 12 (.buildSl 2 1 [(.str 0 0)] [(0, 1, (tm 9)), (1, 1, (tm 11))]) 31, k 13 (.call (.value (vl (.fn (.func 84) [] []))) [(tm 12)]) 63, k 2 (.mov (tm 13)) 127, k 3 (.mov (vl (int64 (0)))) 255]) .ret)))⟩
theorem textb_code : compFn Tryz.prog 48 = some textb_fu := by kernel_rfl
noncomputable def textn_fu : Fu := ⟨[.tmp (Pos.ofNat 2), .tmp (Pos.ofNat 3)], 21, (.seq (.region [k 1 (.box (tm 0)) 0, k 2 (.mov (vl (.str 0 0))) 0, k 3 (.mov (vl (int64 (0)))) 0]) (.seq (.seq (.region [k 6 (.loadN 3 (tm 1)) 0, k 7 (.call (.value (vl (.fn (.func 42) [] []))) [(tm 6)]) 0, k 8 (.un .not (tm 7)) 0]) (.cond (tm 8) (.seq (.region [k 2 (.mov (vl (.str 0 0))) 0, k 3 (.mov (vl (int64 (2)))) 0]) .ret) .skip)) (.seq (.region [k 10 (.fieldAddr 0 (tm 1)) 0, k 11 (.loadN 2 (tm 10)) 0, k 12 (.call (.value (vl (.fn (.func 48) [] []))) [(tm 11)]) 0, k 9 (.mov (tm 12)) 0, k 13 (.extract (tm 9) 0) 0, k 14 (.extract (tm 9) 1) 0, k 4 (.mov (tm 13)) 0, k 5 (.mov (tm 14)) 0]) (.seq (.region [k 15 (.mov (tm 4)) 0, k 16 (.fieldAddr 2 (tm 1)) 0, k 17 (.load1 (tm 16)) 0, k 18 (.call (.value (vl (.fn (.func 85) [] []))) [(tm 17)]) 0, k 19 (.buildSl 2 1 [(.str 0 0)] [(0, 1, (tm 15)), (1, 1, (tm 18))]) 0, k 20 (.call (.value (vl (.fn (.func 84) [] []))) [(tm 19)]) 0, k 2 (.mov (tm 20)) 0, k 3 (.mov (vl (int64 (0)))) 0]) .ret))))⟩
theorem textn_code : compFn Tryz.prog 55 = some textn_fu := by kernel_rfl
noncomputable def texts_fu : Fu := ⟨[.tmp (Pos.ofNat 2), .tmp (Pos.ofNat 3)], 24, (.seq (.region [k 1 (.box (tm 0)) 0, k 2 (.mov (vl (.str 0 0))) 0, k 3 (.mov (vl (int64 (0)))) 0]) (.seq (.seq (.region [k 6 (.loadN 5 (tm 1)) 0, k 7 (.call (.value (vl (.fn (.func 43) [] []))) [(tm 6)]) 0, k 8 (.un .not (tm 7)) 0]) (.cond (tm 8) (.seq (.region [k 2 (.mov (vl (.str 0 0))) 0, k 3 (.mov (vl (int64 (2)))) 0]) .ret) .skip)) (.seq (.region [k 10 (.fieldAddr 1 (tm 1)) 0, k 11 (.loadN 3 (tm 10)) 0, k 12 (.call (.value (vl (.fn (.func 55) [] []))) [(tm 11)]) 0, k 9 (.mov (tm 12)) 0, k 13 (.extract (tm 9) 0) 0, k 14 (.extract (tm 9) 1) 0, k 4 (.mov (tm 13)) 0, k 5 (.mov (tm 14)) 0]) (.seq (.drawn [k 15 (.fieldAddr 0 (tm 1)) 0, k 16 (.load1 (tm 15)) 1, k 17 (.call (.value (vl (.fn (.func 85) [] []))) [(tm 16)]) 3, k 18 (.mov (tm 4)) 0, k 19 (.fieldAddr 4 (tm 1)) 0, k 20 (.load1 (tm 19)) 16, k 21 (.call (.value (vl (.fn (.func 85) [] []))) [(tm 20)]) 55, k 22 (.buildSl 3 1 [(.str 0 0)] [(0, 1, (tm 17)), (1, 1, (tm 18)), (2, 1, (tm 21))]) 127, k 23 (.call (.value (vl (.fn (.func 84) [] []))) [(tm 22)]) 255, k 2 (.mov (tm 23)) 511, k 3 (.mov (vl (int64 (0)))) 1023]) .ret))))⟩
theorem texts_code : compFn Tryz.prog 32 = some texts_fu := by kernel_rfl
noncomputable def eight_0 : C := (.seq (.region [k 9 (.bin .lss .other false (tm 8) (tm 7)) 0]) (.seq (.cond (tm 9) .skip (.exit 0)) (.seq (.block 1 (.seq (.region [k 10 (.mov (tm 8)) 0, k 4 (.mov (tm 10)) 0]) (.region [k 11 (.mov (tm 3)) 0, k 12 (.mov (tm 4)) 0, k 13 (.mov (tm 0)) 0, k 14 (.mov (tm 4)) 0, k 15 (.bin .mul .other true (vl (int64 (8))) (tm 14)) 0, k 16 (.bin .sub .other true (vl (int64 (56))) (tm 15)) 0, k 17 (.bin .shr .other false (tm 13) (tm 16)) 0, k 18 (.convInt .u8 (tm 17)) 0, k 19 (.idxAddrSl 1 (tm 11) (tm 12)) 0, kn (.store 1 (tm 19) (tm 18)) 0]))) (.region [k 20 (.bin .add .other true (tm 8) (vl (int64 (1)))) 0, k 8 (.mov (tm 20)) 0]))))
noncomputable def eight_fu : Fu := ⟨[.tmp (Pos.ofNat 2)], 22, (.seq (.region [k 2 (.mov (vl .nilSl)) 0]) (.seq (.region [k 5 (.mkSl 1 1 [(.int .u8 (0))] (vl (int64 (8))) (vl (int64 (8)))) 0, k 3 (.mov (tm 5)) 0]) (.seq (.seq (.region [k 6 (.mov (tm 3)) 0, k 7 (.lenL (tm 6)) 0, k 8 (.mov (vl (int64 (0)))) 0]) (.block 0 (.loop eight_0))) (.seq (.region [k 21 (.mov (tm 3)) 0, k 2 (.mov (tm 21)) 0]) .ret))))⟩
theorem eight_code : compFn Tryz.prog 81 = some eight_fu := by kernel_rfl
noncomputable def join_0 : C := (.seq (.region [k 10 (.bin .lss .other false (tm 9) (tm 8)) 0]) (.seq (.cond (tm 10) .skip (.exit 0)) (.seq (.block 1 (.seq (.region [k 11 (.idxAddrSl 1 (tm 7) (tm 9)) 0, k 12 (.load1 (tm 11)) 0, k 5 (.mov (tm 12)) 0]) (.region [k 13 (.mov (tm 3)) 0, k 14 (.mov (tm 5)) 0, k 15 (.append 1 0 (tm 13) (tm 14)) 0, k 3 (.mov (tm 15)) 0]))) (.region [k 16 (.bin .add .other true (tm 9) (vl (int64 (1)))) 0, k 9 (.mov (tm 16)) 0]))))
noncomputable def join_fu : Fu := ⟨[.tmp (Pos.ofNat 2)], 18, (.seq (.region [k 2 (.mov (vl .nilSl)) 0]) (.seq (.region [k 6 (.buildSl 0 1 [(.int .u8 (0))] []) 0, k 3 (.mov (tm 6)) 0]) (.seq (.seq (.region [k 7 (.mov (tm 0)) 0, k 8 (.lenL (tm 7)) 0, k 9 (.mov (vl (int64 (0)))) 0]) (.block 0 (.loop join_0))) (.seq (.region [k 17 (.mov (tm 3)) 0, k 2 (.mov (tm 17)) 0]) .ret))))⟩
theorem join_code : compFn Tryz.prog 80 = some join_fu := by kernel_rfl
noncomputable def key_fu : Fu := ⟨[.tmp (Pos.ofNat 2), .tmp (Pos.ofNat 3)], 33, (.seq (.region [k 1 (.box (tm 0)) 0, k 2 (.mov (vl (.str 0 0))) 0, k 3 (.mov (vl (int64 (0)))) 0]) (.seq (.seq (.region [k 5 (.loadN 5 (tm 1)) 0, k 6 (.call (.value (vl (.fn (.func 43) [] []))) [(tm 5)]) 0, k 7 (.un .not (tm 6)) 0]) (.cond (tm 7) (.seq (.region [k 2 (.mov (vl (.str 0 0))) 0, k 3 (.mov (vl (int64 (2)))) 0]) .ret) .skip)) (.seq (.region [k 8 (.fieldAddr 1 (tm 1)) 0, k 9 (.fieldAddr 0 (tm 8)) 0, k 10 (.loadN 2 (tm 9)) 0, k 4 (.new [(int64 (0)), (.str 0 0)]) 0, kn (.store 2 (tm 4) (tm 10)) 0]) (.seq (.drawn [k 11 (.fieldAddr 0 (tm 1)) 0, k 12 (.load1 (tm 11)) 1, k 13 (.call (.value (vl (.fn (.func 81) [] []))) [(tm 12)]) 3, k 14 (.fieldAddr 0 (tm 4)) 0, k 15 (.load1 (tm 14)) 8, k 16 (.convInt .u8 (tm 15)) 24, k 17 (.buildSl 1 1 [(.int .u8 (0))] [(0, 1, (tm 16))]) 56, k 18 (.fieldAddr 1 (tm 4)) 0, k 19 (.load1 (tm 18)) 128, k 20 (.strBytes (tm 19)) 384, k 21 (.buildSl 1 1 [(.int .u8 (0))] [(0, 1, (vl (.int .u8 (0))))]) 0, k 22 (.fieldAddr 1 (tm 1)) 0, k 23 (.fieldAddr 2 (tm 22)) 2048, k 24 (.load1 (tm 23)) 6144, k 25 (.call (.value (vl (.fn (.func 81) [] []))) [(tm 24)]) 14343, k 26 (.fieldAddr 4 (tm 1)) 0, k 27 (.load1 (tm 26)) 32768, k 28 (.convInt .u8 (tm 27)) 98304, k 29 (.buildSl 1 1 [(.int .u8 (0))] [(0, 1, (tm 28))]) 229376, k 30 (.buildSl 6 1 [.nilSl] [(0, 1, (tm 13)), (1, 1, (tm 17)), (2, 1, (tm 20)), (3, 1, (tm 21)), (4, 1, (tm 25)), (5, 1, (tm 29))]) 524287, k 31 (.call (.value (vl (.fn (.func 80) [] []))) [(tm 30)]) 1048575, k 32 (.bytesStr (tm 31)) 2097151, k 2 (.mov (tm 32)) 4194303, k 3 (.mov (vl (int64 (0)))) 8388607]) .ret))))⟩
theorem key_code : compFn Tryz.prog 30 = some key_fu := by kernel_rfl
noncomputable def sames_fu : Fu := ⟨[.cellN (Pos.ofNat 6) 5, .tmp (Pos.ofNat 7)], 26, (.seq (.region [k 3 (.box (tm 0)) 0, k 6 (.new [(int64 (0)), (int64 (0)), (.str 0 0), (int64 (0)), (int64 (0))]) 0, k 7 (.mov (vl (int64 (0)))) 0]) (.seq (.region [k 8 (.new [(int64 (0)), (int64 (0)), (.str 0 0), (int64 (0)), (int64 (0))]) 0]) (.seq (.seq (.region [k 12 (.mov (tm 2)) 0, k 13 (.loadN 5 (tm 3)) 0, k 14 (.call (.value (tm 12)) [(tm 13)]) 0, k 11 (.mov (tm 14)) 0, k 15 (.extract (tm 11) 0) 0, k 16 (.extract (tm 11) 1) 0, k 9 (.mov (tm 15)) 0, k 10 (.mov (tm 16)) 0]) (.seq (.region [k 17 (.mov (tm 10)) 0, k 18 (.bin .neq .other true (tm 17) (vl (int64 (0)))) 0, k 19 (.mov (tm 18)) 0, kg 20 19 false (.mov (tm 9)) 0, kg 21 19 false (.mov (tm 1)) 0, kg 22 19 false (.bin .neq .other false (tm 20) (tm 21)) 0, k 23 (.pick (tm 19) (vl (.bool true)) (tm 22)) 0]) (.cond (tm 23) (.seq (.region [k 24 (.loadN 5 (tm 8)) 0, kn (.store 5 (tm 6) (tm 24)) 0, k 7 (.mov (vl (int64 (4)))) 0]) .ret) .skip))) (.seq (.region [k 25 (.loadN 5 (tm 3)) 0, kn (.store 5 (tm 6) (tm 25)) 0, k 7 (.mov (vl (int64 (0)))) 0]) .ret))))⟩
theorem sames_code : compFn Tryz.prog 58 = some sames_fu := by kernel_rfl
noncomputable def read_fu : Fu := ⟨[.tmp (Pos.ofNat 2)], 13, (.seq (.region [k 2 (.mov (vl (int64 (0)))) 0]) (.seq (.region [k 6 (.mov (tm 0)) 0, k 7 (.call (.value (vl (.fn (.func 95) [] []))) [(tm 6), (vl (int64 (10))), (vl (int64 (64)))]) 0, k 5 (.mov (tm 7)) 0, k 8 (.extract (tm 5) 0) 0, k 9 (.extract (tm 5) 1) 0, k 3 (.mov (tm 8)) 0, k 4 (.mov (tm 9)) 0]) (.seq (.seq (.region [k 10 (.mov (tm 4)) 0, k 11 (.eqIfc true true (tm 10) (vl .nilIfc)) 0]) (.cond (tm 11) (.seq (.region [k 2 (.mov (vl (int64 (0)))) 0]) .ret) .skip)) (.seq (.region [k 12 (.mov (tm 3)) 0, k 2 (.mov (tm 12)) 0]) .ret))))⟩
theorem read_code : compFn Tryz.prog 47 = some read_fu := by kernel_rfl
noncomputable def parses_fu : Fu := ⟨[.cellN (Pos.ofNat 2) 5, .tmp (Pos.ofNat 3)], 39, (.seq (.region [k 2 (.new [(int64 (0)), (int64 (0)), (.str 0 0), (int64 (0)), (int64 (0))]) 0, k 3 (.mov (vl (int64 (0)))) 0]) (.seq (.region [k 6 (.mov (tm 0)) 0, k 7 (.call (.value (vl (.fn (.func 53) [] []))) [(tm 6), (vl (.str 1 46))]) 0, k 4 (.mov (tm 7)) 0]) (.seq (.seq (.region [k 8 (.mov (tm 4)) 0, k 9 (.lenL (tm 8)) 0, k 10 (.bin .neq .other true (tm 9) (vl (int64 (5)))) 0]) (.cond (tm 10) (.seq (.region [k 11 (.build [(int64 (0)), (int64 (0)), (.str 0 0), (int64 (0)), (int64 (0))] []) 0, kn (.store 5 (tm 2) (tm 11)) 0, k 3 (.mov (vl (int64 (4)))) 0]) .ret) .skip)) (.seq (.drawn [k 12 (.mov (tm 4)) 0, k 13 (.idxAddrSl 1 (tm 12) (vl (int64 (1)))) 1, k 14 (.load1 (tm 13)) 3, k 15 (.call (.value (vl (.fn (.func 47) [] []))) [(tm 14)]) 7, k 16 (.mov (tm 4)) 0, k 17 (.idxAddrSl 1 (tm 16) (vl (int64 (2)))) 16, k 18 (.load1 (tm 17)) 48, k 19 (.build [(int64 (0)), (.str 0 0)] [(0, 1, (tm 15)), (1, 1, (tm 18))]) 127, k 20 (.mov (tm 4)) 0, k 21 (.idxAddrSl 1 (tm 20) (vl (int64 (3)))) 256, k 22 (.load1 (tm 21)) 768, k 23 (.call (.value (vl (.fn (.func 47) [] []))) [(tm 22)]) 1807, k 24 (.build [(int64 (0)), (.str 0 0), (int64 (0))] [(0, 2, (tm 19)), (2, 1, (tm 23))]) 4095, k 5 (.new [(int64 (0)), (.str 0 0), (int64 (0))]) 0, kn (.store 3 (tm 5) (tm 24)) 16383]) (.seq (.drawn [k 25 (.mov (tm 4)) 0, k 26 (.idxAddrSl 1 (tm 25) (vl (int64 (0)))) 1, k 27 (.load1 (tm 26)) 3, k 28 (.call (.value (vl (.fn (.func 47) [] []))) [(tm 27)]) 7, k 29 (.loadN 3 (tm 5)) 0, k 30 (.mov (tm 4)) 0, k 31 (.idxAddrSl 1 (tm 30) (vl (int64 (4)))) 32, k 32 (.load1 (tm 31)) 96, k 33 (.call (.value (vl (.fn (.func 47) [] []))) [(tm 32)]) 239, k 34 (.build [(int64 (0)), (int64 (0)), (.str 0 0), (int64 (0)), (int64 (0))] [(0, 1, (tm 28)), (1, 3, (tm 29)), (4, 1, (tm 33))]) 511, k 35 (.mov (tm 0)) 0, k 36 (.call (.value (vl (.fn (.func 58) [] []))) [(tm 34), (tm 35), (vl (.fn (.func 32) [] []))]) 2047, k 37 (.extract (tm 36) 0) 4095, k 38 (.extract (tm 36) 1) 4095, kn (.store 5 (tm 2) (tm 37)) 16383, k 3 (.mov (tm 38)) 32767]) .ret)))))⟩
theorem parses_code : compFn Tryz.prog 13 = some parses_fu := by kernel_rfl
noncomputable def num_fu : Fu := ⟨[.tmp (Pos.ofNat 2)], 4, (.seq (.region [k 2 (.mov (vl (int64 (0)))) 0]) (.seq (.region [k 3 (.mov (tm 0)) 0, k 2 (.mov (tm 3)) 0]) .ret))⟩
theorem num_code : compFn Tryz.prog 17 = some num_fu := by kernel_rfl
theorem ok_label : okCall Tryz.prog 92 = true := by kernel_rfl
theorem ok_branch : okCall Tryz.prog 41 = true := by kernel_rfl
theorem ok_name : okCall Tryz.prog 42 = true := by kernel_rfl
theorem ok_stamp : okCall Tryz.prog 43 = true := by kernel_rfl
theorem ok_digits : okCall Tryz.prog 85 = true := by kernel_rfl
theorem ok_text : okCall Tryz.prog 84 = true := by kernel_rfl
theorem ok_textb : okCall Tryz.prog 48 = true := by kernel_rfl
theorem ok_textn : okCall Tryz.prog 55 = true := by kernel_rfl
theorem ok_texts : okCall Tryz.prog 32 = true := by kernel_rfl
theorem ok_eight : okCall Tryz.prog 81 = true := by kernel_rfl
theorem ok_join : okCall Tryz.prog 80 = true := by kernel_rfl
theorem ok_key : okCall Tryz.prog 30 = true := by kernel_rfl
theorem ok_sames : okCall Tryz.prog 58 = true := by kernel_rfl
theorem ok_read : okCall Tryz.prog 47 = true := by kernel_rfl
theorem ok_parses : okCall Tryz.prog 13 = true := by kernel_rfl
theorem ok_num : okCall Tryz.prog 17 = true := by kernel_rfl
theorem ok_fmt : okCall Tryz.prog 107 = true := by kernel_rfl
theorem ok_sjoin : okCall Tryz.prog 106 = true := by kernel_rfl
theorem ok_ssplit : okCall Tryz.prog 53 = true := by kernel_rfl
theorem ok_pint : okCall Tryz.prog 95 = true := by kernel_rfl
theorem ok_known : okCall Tryz.prog 8 = true := by kernel_rfl
end Go.Proofs.YtjhgembcdndmkaaGreatDoor.St

namespace Go.Proofs.YtjhgembcdndmkaaGreatDoor.St
open Go Go.Proofs.YtjhgembcdndmkaaGreatDoor.Am Go.Proofs
noncomputable def order_c0 : C := (.drawn [k 27 (.loadN 5 (tm 3)) 0, k 28 (.loadN 5 (tm 4)) 0, k 29 (.call (.value (vl (.fn (.func 29) [] []))) [(tm 27), (tm 28)]) 3, k 30 (.loadN 5 (tm 4)) 0, k 31 (.loadN 5 (tm 3)) 0, k 32 (.call (.value (vl (.fn (.func 29) [] []))) [(tm 30), (tm 31)]) 31, k 33 (.un .neg (tm 32)) 63, k 34 (.bin .neq .other false (tm 29) (tm 33)) 127, k 35 (.mov (tm 34)) 255, kg 36 35 false (.loadN 5 (tm 3)) 511, kg 37 35 false (.loadN 5 (tm 4)) 511, kg 38 35 false (.call (.value (vl (.fn (.func 29) [] []))) [(tm 36), (tm 37)]) 2047, kg 39 35 false (.bin .eql .other true (tm 38) (vl (int64 (0)))) 4095, kg 40 35 false (.loadN 5 (tm 3)) 511, kg 41 35 false (.loadN 5 (tm 4)) 511, kg 42 35 false (.bin .eql (.flat [.int, .int, .str, .int, .int]) false (tm 40) (tm 41)) 25087, kg 43 35 false (.bin .neq .bool false (tm 39) (tm 42)) 65535, k 44 (.pick (tm 35) (vl (.bool true)) (tm 43)) 131071, k 45 (.mov (tm 44)) 262143, kg 46 45 false (.loadN 5 (tm 3)) 524287, kg 47 45 false (.loadN 5 (tm 4)) 524287, kg 48 45 false (.call (.value (vl (.fn (.func 29) [] []))) [(tm 46), (tm 47)]) 2097151, kg 49 45 false (.bin .leq .other true (tm 48) (vl (int64 (0)))) 4194303, kg 50 45 false (.mov (tm 49)) 8388607, kg 51 50 true (.loadN 5 (tm 4)) 16777215, kg 52 50 true (.loadN 5 (tm 5)) 16777215, kg 53 50 true (.call (.value (vl (.fn (.func 29) [] []))) [(tm 51), (tm 52)]) 67108863, kg 54 50 true (.bin .leq .other true (tm 53) (vl (int64 (0)))) 134217727, kg 55 45 false (.pick (tm 50) (tm 54) (vl (.bool false))) 268435455, kg 56 45 false (.mov (tm 55)) 536870911, kg 57 56 true (.loadN 5 (tm 3)) 1073741823, kg 58 56 true (.loadN 5 (tm 5)) 1073741823, kg 59 56 true (.call (.value (vl (.fn (.func 29) [] []))) [(tm 57), (tm 58)]) 4294967295, kg 60 56 true (.bin .gtr .other true (tm 59) (vl (int64 (0)))) 8589934591, kg 61 45 false (.pick (tm 56) (tm 60) (vl (.bool false))) 17179869183, k 62 (.pick (tm 45) (vl (.bool true)) (tm 61)) 34359738367, k 63 (.mov (tm 62)) 68719476735, kg 64 63 false (.fieldAddr 0 (tm 3)) 137438953471, kg 65 63 false (.load1 (tm 64)) 274877906943, kg 66 63 false (.fieldAddr 0 (tm 4)) 137438953471, kg 67 63 false (.load1 (tm 66)) 687194767359, kg 68 63 false (.bin .lss .other false (tm 65) (tm 67)) 2199023255551, kg 69 63 false (.mov (tm 68)) 4398046511103, kg 70 69 true (.loadN 5 (tm 3)) 8796093022207, kg 71 69 true (.loadN 5 (tm 4)) 8796093022207, kg 72 69 true (.call (.value (vl (.fn (.func 29) [] []))) [(tm 70), (tm 71)]) 35184372088831, kg 73 69 true (.bin .neq .other true (tm 72) (vl (int64 (-1)))) 70368744177663, kg 74 63 false (.pick (tm 69) (tm 73) (vl (.bool false))) 140737488355327, k 75 (.pick (tm 63) (vl (.bool true)) (tm 74)) 281474976710655])
noncomputable def order_c1 : C := (.drawn [k 146 (.loadN 5 (tm 20)) 0, k 147 (.loadN 5 (tm 3)) 0, k 148 (.bin .neq (.flat [.int, .int, .str, .int, .int]) false (tm 146) (tm 147)) 3, k 149 (.mov (tm 148)) 7, kg 150 149 false (.loadN 5 (tm 22)) 15, kg 151 149 false (.loadN 5 (tm 3)) 15, kg 152 149 false (.bin .neq (.flat [.int, .int, .str, .int, .int]) false (tm 150) (tm 151)) 63, k 153 (.pick (tm 149) (vl (.bool true)) (tm 152)) 127, k 154 (.mov (tm 153)) 255, kg 155 154 false (.mov (tm 21)) 511, kg 156 154 false (.call (.value (vl (.fn (.func 17) [] []))) [(tm 155)]) 1023, kg 157 154 false (.mov (tm 23)) 511, kg 158 154 false (.call (.value (vl (.fn (.func 17) [] []))) [(tm 157)]) 4095, kg 159 154 false (.bin .add .other false (tm 156) (tm 158)) 8191, kg 160 154 false (.bin .neq .other true (tm 159) (vl (int64 (0)))) 16383, k 161 (.pick (tm 154) (vl (.bool true)) (tm 160)) 32767, k 162 (.mov (tm 161)) 65535, kg 163 162 false (.mov (tm 19)) 131071, kg 164 162 false (.call (.value (vl (.fn (.func 19) [] []))) [(tm 163)]) 262143, kg 165 162 false (.bin .neq .other true (tm 164) (vl (int64 (0)))) 524287, k 166 (.pick (tm 162) (vl (.bool true)) (tm 165)) 1048575, k 167 (.mov (tm 166)) 2097151, kg 168 167 false (.mov (tm 24)) 4194303, kg 169 167 false (.loadN 5 (tm 3)) 4194303, kg 170 167 false (.loadN 5 (tm 4)) 4194303, kg 171 167 false (.call (.value (vl (.fn (.func 29) [] []))) [(tm 169), (tm 170)]) 29360127, kg 172 167 false (.bin .neq .other false (tm 168) (tm 171)) 67108863, k 173 (.pick (tm 167) (vl (.bool true)) (tm 172)) 134217727, k 174 (.mov (tm 173)) 268435455, kg 175 174 false (.mov (tm 11)) 536870911, kg 176 174 false (.bytesStr (tm 175)) 1073741823, kg 177 174 false (.mov (tm 13)) 536870911, kg 178 174 false (.bytesStr (tm 177)) 2684354559, kg 179 174 false (.bin .eql .other false (tm 176) (tm 178)) 8589934591, kg 180 174 false (.loadN 5 (tm 3)) 536870911, kg 181 174 false (.loadN 5 (tm 4)) 536870911, kg 182 174 false (.bin .eql (.flat [.int, .int, .str, .int, .int]) false (tm 180) (tm 181)) 52076478463, kg 183 174 false (.bin .neq .bool false (tm 179) (tm 182)) 137438953471, k 184 (.pick (tm 174) (vl (.bool true)) (tm 183)) 274877906943, k 185 (.mov (tm 184)) 549755813887, kg 186 185 false (.mov (tm 15)) 1099511627775, kg 187 185 false (.mov (tm 17)) 1099511627775, kg 188 185 false (.bin .eql .other false (tm 186) (tm 187)) 4398046511103, kg 189 185 false (.loadN 5 (tm 3)) 1099511627775, kg 190 185 false (.loadN 5 (tm 4)) 1099511627775, kg 191 185 false (.bin .eql (.flat [.int, .int, .str, .int, .int]) false (tm 189) (tm 190)) 27487790694399, kg 192 185 false (.bin .neq .bool false (tm 188) (tm 191)) 70368744177663, k 193 (.pick (tm 185) (vl (.bool true)) (tm 192)) 140737488355327])
noncomputable def order_c2 : C := (.drawn [k 194 (.loadN 5 (tm 3)) 0, k 195 (.loadN 5 (tm 4)) 0, k 196 (.bin .eql (.flat [.int, .int, .str, .int, .int]) false (tm 194) (tm 195)) 3, k 197 (.mov (tm 196)) 7, kg 198 197 false (.mov (tm 11)) 15, kg 199 197 false (.lenL (tm 198)) 31, kg 200 197 false (.mov (tm 13)) 15, kg 201 197 false (.lenL (tm 200)) 79, kg 202 197 false (.bin .gtr .other false (tm 199) (tm 201)) 255, k 203 (.pick (tm 197) (vl (.bool true)) (tm 202)) 511, k 204 (.mov (tm 203)) 1023, kg 205 204 false (.mov (tm 13)) 2047, kg 206 204 false (.mov (tm 11)) 2047, kg 207 204 false (.lenL (tm 206)) 6143, kg 208 204 false (.sliceSl 1 (tm 205) none (some (tm 207)) none) 16383, kg 209 204 false (.bytesStr (tm 208)) 32767, kg 210 204 false (.mov (tm 11)) 2047, kg 211 204 false (.bytesStr (tm 210)) 67583, kg 212 204 false (.bin .neq .other false (tm 209) (tm 211)) 262143, k 213 (.pick (tm 204) (vl (.bool true)) (tm 212)) 524287, k 6 (.mov (tm 213)) 1048575])
noncomputable def order_fu : Fu := ⟨[.tmp (Pos.ofNat 6)], 214, (.seq (.region [k 3 (.box (tm 0)) 0, k 4 (.box (tm 1)) 0, k 5 (.box (tm 2)) 0, k 6 (.mov (vl (.bool false))) 0]) (.seq (.seq (.region [k 25 (.call (.value (vl (.fn (.func 8) [] []))) []) 0, k 26 (.un .not (tm 25)) 0]) (.cond (tm 26) (.seq (.region [k 6 (.mov (vl (.bool false))) 0]) .ret) .skip)) (.seq (.seq order_c0 (.cond (tm 75) (.seq (.region [k 6 (.mov (vl (.bool false))) 0]) .ret) .skip)) (.seq (.region [k 77 (.loadN 5 (tm 3)) 0, k 78 (.call (.value (vl (.fn (.func 30) [] []))) [(tm 77)]) 0, k 76 (.mov (tm 78)) 0, k 79 (.extract (tm 76) 0) 0, k 80 (.extract (tm 76) 1) 0, k 7 (.mov (tm 79)) 0, k 8 (.mov (tm 80)) 0]) (.seq (.region [k 82 (.loadN 5 (tm 4)) 0, k 83 (.call (.value (vl (.fn (.func 30) [] []))) [(tm 82)]) 0, k 81 (.mov (tm 83)) 0, k 84 (.extract (tm 81) 0) 0, k 85 (.extract (tm 81) 1) 0, k 9 (.mov (tm 84)) 0, k 10 (.mov (tm 85)) 0]) (.seq (.seq (.region [k 86 (.mov (tm 8)) 0, k 87 (.call (.value (vl (.fn (.func 17) [] []))) [(tm 86)]) 0, k 88 (.mov (tm 10)) 0, k 89 (.call (.value (vl (.fn (.func 17) [] []))) [(tm 88)]) 0, k 90 (.bin .add .other false (tm 87) (tm 89)) 0, k 91 (.bin .neq .other true (tm 90) (vl (int64 (0)))) 0]) (.cond (tm 91) (.seq (.region [k 6 (.mov (vl (.bool true))) 0]) .ret) .skip)) (.seq (.region [k 93 (.loadN 5 (tm 3)) 0, k 94 (.call (.value (vl (.fn (.func 31) [] []))) [(tm 93)]) 0, k 92 (.mov (tm 94)) 0, k 95 (.extract (tm 92) 0) 0, k 96 (.extract (tm 92) 1) 0, k 11 (.mov (tm 95)) 0, k 12 (.mov (tm 96)) 0]) (.seq (.region [k 98 (.loadN 5 (tm 4)) 0, k 99 (.call (.value (vl (.fn (.func 31) [] []))) [(tm 98)]) 0, k 97 (.mov (tm 99)) 0, k 100 (.extract (tm 97) 0) 0, k 101 (.extract (tm 97) 1) 0, k 13 (.mov (tm 100)) 0, k 14 (.mov (tm 101)) 0]) (.seq (.region [k 103 (.loadN 5 (tm 3)) 0, k 104 (.call (.value (vl (.fn (.func 32) [] []))) [(tm 103)]) 0, k 102 (.mov (tm 104)) 0, k 105 (.extract (tm 102) 0) 0, k 106 (.extract (tm 102) 1) 0, k 15 (.mov (tm 105)) 0, k 16 (.mov (tm 106)) 0]) (.seq (.region [k 108 (.loadN 5 (tm 4)) 0, k 109 (.call (.value (vl (.fn (.func 32) [] []))) [(tm 108)]) 0, k 107 (.mov (tm 109)) 0, k 110 (.extract (tm 107) 0) 0, k 111 (.extract (tm 107) 1) 0, k 17 (.mov (tm 110)) 0, k 18 (.mov (tm 111)) 0]) (.seq (.region [k 112 (.mov (tm 11)) 0, k 113 (.call (.value (vl (.fn (.func 18) [] []))) [(tm 112)]) 0, k 19 (.mov (tm 113)) 0]) (.seq (.seq (.region [k 114 (.mov (tm 19)) 0, k 115 (.eqPtr false (tm 114) (vl .nilPtr)) 0, k 116 (.mov (tm 115)) 0, kg 117 116 false (.mov (tm 12)) 0, kg 118 116 false (.call (.value (vl (.fn (.func 17) [] []))) [(tm 117)]) 0, kg 119 116 false (.mov (tm 14)) 0, kg 120 116 false (.call (.value (vl (.fn (.func 17) [] []))) [(tm 119)]) 0, kg 121 116 false (.bin .add .other false (tm 118) (tm 120)) 0, kg 122 116 false (.mov (tm 16)) 0, kg 123 116 false (.call (.value (vl (.fn (.func 17) [] []))) [(tm 122)]) 0, kg 124 116 false (.bin .add .other false (tm 121) (tm 123)) 0, kg 125 116 false (.mov (tm 18)) 0, kg 126 116 false (.call (.value (vl (.fn (.func 17) [] []))) [(tm 125)]) 0, kg 127 116 false (.bin .add .other false (tm 124) (tm 126)) 0, kg 128 116 false (.bin .neq .other true (tm 127) (vl (int64 (0)))) 0, k 129 (.pick (tm 116) (vl (.bool true)) (tm 128)) 0]) (.cond (tm 129) (.seq (.region [k 6 (.mov (vl (.bool false))) 0]) .ret) .skip)) (.seq (.region [k 131 (.mov (tm 19)) 0, k 132 (.call (.value (vl (.fn (.func 26) [] []))) [(tm 131)]) 0, k 130 (.mov (tm 132)) 0, k 133 (.extract (tm 130) 0) 0, k 134 (.extract (tm 130) 1) 0, k 20 (.new [(int64 (0)), (int64 (0)), (.str 0 0), (int64 (0)), (int64 (0))]) 0, kn (.store 5 (tm 20) (tm 133)) 0, k 21 (.mov (tm 134)) 0]) (.seq (.region [k 136 (.mov (tm 15)) 0, k 137 (.call (.value (vl (.fn (.func 13) [] []))) [(tm 136)]) 0, k 135 (.mov (tm 137)) 0, k 138 (.extract (tm 135) 0) 0, k 139 (.extract (tm 135) 1) 0, k 22 (.new [(int64 (0)), (int64 (0)), (.str 0 0), (int64 (0)), (int64 (0))]) 0, kn (.store 5 (tm 22) (tm 138)) 0, k 23 (.mov (tm 139)) 0]) (.seq (.region [k 24 (.mov (vl (int64 (-1)))) 0]) (.seq (.seq (.region [k 140 (.mov (tm 7)) 0, k 141 (.mov (tm 9)) 0, k 142 (.bin .eql .other false (tm 140) (tm 141)) 0]) (.cond (tm 142) (.region [k 24 (.mov (vl (int64 (0)))) 0]) (.seq (.region [k 143 (.mov (tm 7)) 0, k 144 (.mov (tm 9)) 0, k 145 (.bin .gtr .other false (tm 143) (tm 144)) 0]) (.cond (tm 145) (.region [k 24 (.mov (vl (int64 (1)))) 0]) .skip)))) (.seq (.seq order_c1 (.cond (tm 193) (.seq (.region [k 6 (.mov (vl (.bool false))) 0]) .ret) .skip)) (.seq order_c2 .ret))))))))))))))))))⟩
theorem order_code : compFn Tryz.prog 5 = some order_fu := by kernel_rfl
noncomputable def cmp_fu : Fu := ⟨[.tmp (Pos.ofNat 4)], 25, (.seq (.region [k 2 (.box (tm 0)) 0, k 3 (.box (tm 1)) 0, k 4 (.mov (vl (int64 (0)))) 0]) (.seq (.seq (.region [k 5 (.loadN 5 (tm 2)) 0, k 6 (.loadN 5 (tm 3)) 0, k 7 (.bin .eql (.flat [.int, .int, .str, .int, .int]) false (tm 5) (tm 6)) 0]) (.cond (tm 7) (.seq (.region [k 4 (.mov (vl (int64 (0)))) 0]) .ret) .skip)) (.seq (.drawn [k 8 (.fieldAddr 0 (tm 2)) 0, k 9 (.load1 (tm 8)) 1, k 10 (.fieldAddr 0 (tm 3)) 0, k 11 (.load1 (tm 10)) 4, k 12 (.call (.value (vl (.fn (.func 79) [] []))) [(tm 9), (tm 11)]) 15, k 13 (.fieldAddr 1 (tm 2)) 0, k 14 (.loadN 3 (tm 13)) 32, k 15 (.fieldAddr 1 (tm 3)) 0, k 16 (.loadN 3 (tm 15)) 128, k 17 (.call (.value (vl (.fn (.func 34) [] []))) [(tm 14), (tm 16)]) 511, k 18 (.fieldAddr 4 (tm 2)) 0, k 19 (.load1 (tm 18)) 1024, k 20 (.fieldAddr 4 (tm 3)) 0, k 21 (.load1 (tm 20)) 4096, k 22 (.call (.value (vl (.fn (.func 79) [] []))) [(tm 19), (tm 21)]) 16383, k 23 (.build [(int64 (0)), (int64 (0)), (int64 (0))] [(0, 1, (tm 12)), (1, 1, (tm 17)), (2, 1, (tm 22))]) 32767, k 24 (.call (.value (vl (.fn (.func 78) [] []))) [(tm 23)]) 65535, k 4 (.mov (tm 24)) 131071]) .ret)))⟩
theorem cmp_code : compFn Tryz.prog 29 = some cmp_fu := by kernel_rfl
noncomputable def cmpn_fu : Fu := ⟨[.tmp (Pos.ofNat 4)], 17, (.seq (.region [k 2 (.box (tm 0)) 0, k 3 (.box (tm 1)) 0, k 4 (.mov (vl (int64 (0)))) 0]) (.seq (.drawn [k 5 (.fieldAddr 0 (tm 2)) 0, k 6 (.loadN 2 (tm 5)) 1, k 7 (.fieldAddr 0 (tm 3)) 0, k 8 (.loadN 2 (tm 7)) 4, k 9 (.call (.value (vl (.fn (.func 36) [] []))) [(tm 6), (tm 8)]) 15, k 10 (.fieldAddr 2 (tm 2)) 0, k 11 (.load1 (tm 10)) 32, k 12 (.fieldAddr 2 (tm 3)) 0, k 13 (.load1 (tm 12)) 128, k 14 (.call (.value (vl (.fn (.func 79) [] []))) [(tm 11), (tm 13)]) 511, k 15 (.build [(int64 (0)), (int64 (0)), (int64 (0))] [(0, 1, (tm 9)), (1, 1, (tm 14))]) 1023, k 16 (.call (.value (vl (.fn (.func 78) [] []))) [(tm 15)]) 2047, k 4 (.mov (tm 16)) 4095]) .ret))⟩
theorem cmpn_code : compFn Tryz.prog 34 = some cmpn_fu := by kernel_rfl
noncomputable def cmpb_fu : Fu := ⟨[.tmp (Pos.ofNat 4)], 17, (.seq (.region [k 2 (.box (tm 0)) 0, k 3 (.box (tm 1)) 0, k 4 (.mov (vl (int64 (0)))) 0]) (.seq (.drawn [k 5 (.fieldAddr 0 (tm 2)) 0, k 6 (.load1 (tm 5)) 1, k 7 (.fieldAddr 0 (tm 3)) 0, k 8 (.load1 (tm 7)) 4, k 9 (.call (.value (vl (.fn (.func 79) [] []))) [(tm 6), (tm 8)]) 15, k 10 (.fieldAddr 1 (tm 2)) 0, k 11 (.load1 (tm 10)) 32, k 12 (.fieldAddr 1 (tm 3)) 0, k 13 (.load1 (tm 12)) 128, k 14 (.call (.value (vl (.fn (.func 87) [] []))) [(tm 11), (tm 13)]) 511, k 15 (.build [(int64 (0)), (int64 (0)), (int64 (0))] [(0, 1, (tm 9)), (1, 1, (tm 14))]) 1023, k 16 (.call (.value (vl (.fn (.func 78) [] []))) [(tm 15)]) 2047, k 4 (.mov (tm 16)) 4095]) .ret))⟩
theorem cmpb_code : compFn Tryz.prog 36 = some cmpb_fu := by kernel_rfl
noncomputable def first_0 : C := (.seq (.region [k 8 (.bin .lss .other true (tm 7) (vl (int64 (3)))) 0]) (.seq (.cond (tm 8) .skip (.exit 0)) (.seq (.block 1 (.seq (.region [k 9 (.idxArr 3 1 false (tm 6) (tm 7)) 0, k 5 (.mov (tm 9)) 0]) (.seq (.region [k 10 (.mov (tm 5)) 0, k 11 (.bin .neq .other true (tm 10) (vl (int64 (0)))) 0]) (.cond (tm 11) (.seq (.region [k 12 (.mov (tm 5)) 0, k 3 (.mov (tm 12)) 0]) (.exit 0)) .skip)))) (.region [k 13 (.bin .add .other true (tm 7) (vl (int64 (1)))) 0, k 7 (.mov (tm 13)) 0]))))
noncomputable def first_fu : Fu := ⟨[.tmp (Pos.ofNat 2)], 15, (.seq (.region [k 1 (.box (tm 0)) 0, k 2 (.mov (vl (int64 (0)))) 0]) (.scope (.seq (.region [k 3 (.mov (vl (int64 (0)))) 0]) (.seq .label (.seq (.seq (.region [k 6 (.loadN 3 (tm 1)) 0, k 7 (.mov (vl (int64 (0)))) 0]) (.block 0 (.loop first_0))) (.seq (.region [k 14 (.mov (tm 3)) 0, k 2 (.mov (tm 14)) 0]) .ret))))))⟩
theorem first_code : compFn Tryz.prog 78 = some first_fu := by kernel_rfl
noncomputable def snum_fu : Fu := ⟨[.tmp (Pos.ofNat 4)], 13, (.seq (.region [k 4 (.mov (vl (int64 (0)))) 0]) (.seq (.block 0 (.seq (.region [k 6 (.mov (tm 0)) 0, k 7 (.mov (tm 1)) 0, k 8 (.bin .lss .other false (tm 6) (tm 7)) 0, k 5 (.mov (tm 8)) 0]) (.cond (tm 5) (.seq (.region [k 4 (.mov (vl (int64 (-1)))) 0]) .ret) (.seq (.region [k 10 (.mov (tm 0)) 0, k 11 (.mov (tm 1)) 0, k 12 (.bin .gtr .other false (tm 10) (tm 11)) 0, k 9 (.mov (tm 12)) 0]) (.cond (tm 9) (.seq (.region [k 4 (.mov (vl (int64 (1)))) 0]) .ret) .skip))))) (.seq (.region [k 4 (.mov (vl (int64 (0)))) 0]) .ret)))⟩
theorem snum_code : compFn Tryz.prog 79 = some snum_fu := by kernel_rfl
noncomputable def kcmp_fu : Fu := ⟨[.tmp (Pos.ofNat 4)], 8, (.seq (.region [k 4 (.mov (vl (int64 (0)))) 0]) (.seq (.region [k 5 (.mov (tm 0)) 0, k 6 (.mov (tm 1)) 0, k 7 (.call (.value (vl (.fn (.func 108) [] []))) [(tm 5), (tm 6)]) 0, k 4 (.mov (tm 7)) 0]) .ret))⟩
theorem kcmp_code : compFn Tryz.prog 87 = some kcmp_fu := by kernel_rfl
noncomputable def scmp_fu : Fu := ⟨[.tmp (Pos.ofNat 4)], 8, (.seq (.region [k 4 (.mov (vl (int64 (0)))) 0]) (.seq (.region [k 5 (.mov (tm 0)) 0, k 6 (.mov (tm 1)) 0, k 7 (.call (.value (vl (.fn (.func 124) [] []))) [(tm 5), (tm 6)]) 0, k 4 (.mov (tm 7)) 0]) .ret))⟩
theorem scmp_code : compFn Tryz.prog 108 = some scmp_fu := by kernel_rfl
noncomputable def bcmp_fu : Fu := ⟨[.tmp (Pos.ofNat 4)], 8, (.seq (.region [k 4 (.mov (vl (int64 (0)))) 0]) (.seq (.region [k 5 (.mov (tm 0)) 0, k 6 (.mov (tm 1)) 0, k 7 (.ext 3 [(tm 5), (tm 6)]) 0, k 4 (.mov (tm 7)) 0]) .ret))⟩
theorem bcmp_code : compFn Tryz.prog 124 = some bcmp_fu := by kernel_rfl
noncomputable def put_fu : Fu := ⟨[.tmp (Pos.ofNat 2), .tmp (Pos.ofNat 3)], 26, (.seq (.region [k 1 (.box (tm 0)) 0, k 2 (.mov (vl .nilSl)) 0, k 3 (.mov (vl (int64 (0)))) 0]) (.seq (.seq (.region [k 6 (.loadN 5 (tm 1)) 0, k 7 (.call (.value (vl (.fn (.func 43) [] []))) [(tm 6)]) 0, k 8 (.un .not (tm 7)) 0]) (.cond (tm 8) (.seq (.region [k 2 (.mov (vl .nilSl)) 0, k 3 (.mov (vl (int64 (2)))) 0]) .ret) .skip)) (.seq (.region [k 10 (.fieldAddr 1 (tm 1)) 0, k 11 (.loadN 3 (tm 10)) 0, k 12 (.call (.value (vl (.fn (.func 82) [] []))) [(tm 11)]) 0, k 9 (.mov (tm 12)) 0, k 13 (.extract (tm 9) 0) 0, k 14 (.extract (tm 9) 1) 0, k 4 (.mov (tm 13)) 0, k 5 (.mov (tm 14)) 0]) (.seq (.drawn [k 15 (.fieldAddr 0 (tm 1)) 0, k 16 (.load1 (tm 15)) 1, k 17 (.convInt .u64 (tm 16)) 3, k 18 (.call (.value (vl (.fn (.func 83) [] []))) [(tm 17)]) 7, k 19 (.mov (tm 4)) 0, k 20 (.fieldAddr 4 (tm 1)) 0, k 21 (.load1 (tm 20)) 32, k 22 (.convInt .u64 (tm 21)) 96, k 23 (.call (.value (vl (.fn (.func 83) [] []))) [(tm 22)]) 239, k 24 (.buildSl 3 1 [.nilSl] [(0, 1, (tm 18)), (1, 1, (tm 19)), (2, 1, (tm 23))]) 511, k 25 (.call (.value (vl (.fn (.func 80) [] []))) [(tm 24)]) 1023, k 2 (.mov (tm 25)) 2047, k 3 (.mov (vl (int64 (0)))) 4095]) .ret))))⟩
theorem put_code : compFn Tryz.prog 31 = some put_fu := by kernel_rfl
noncomputable def putn_fu : Fu := ⟨[.tmp (Pos.ofNat 2), .tmp (Pos.ofNat 3)], 16, (.seq (.region [k 1 (.box (tm 0)) 0, k 2 (.mov (vl .nilSl)) 0, k 3 (.mov (vl (int64 (0)))) 0]) (.seq (.seq (.region [k 4 (.loadN 3 (tm 1)) 0, k 5 (.call (.value (vl (.fn (.func 42) [] []))) [(tm 4)]) 0, k 6 (.un .not (tm 5)) 0]) (.cond (tm 6) (.seq (.region [k 2 (.mov (vl .nilSl)) 0, k 3 (.mov (vl (int64 (2)))) 0]) .ret) .skip)) (.seq (.drawn [k 7 (.fieldAddr 0 (tm 1)) 0, k 8 (.loadN 2 (tm 7)) 1, k 9 (.call (.value (vl (.fn (.func 93) [] []))) [(tm 8)]) 3, k 10 (.fieldAddr 2 (tm 1)) 0, k 11 (.load1 (tm 10)) 8, k 12 (.convInt .u64 (tm 11)) 24, k 13 (.call (.value (vl (.fn (.func 83) [] []))) [(tm 12)]) 63, k 14 (.buildSl 2 1 [.nilSl] [(0, 1, (tm 9)), (1, 1, (tm 13))]) 127, k 15 (.call (.value (vl (.fn (.func 80) [] []))) [(tm 14)]) 255, k 2 (.mov (tm 15)) 511, k 3 (.mov (vl (int64 (0)))) 1023]) .ret)))⟩
theorem putn_code : compFn Tryz.prog 82 = some putn_fu := by kernel_rfl
noncomputable def form_fu : Fu := ⟨[.tmp (Pos.ofNat 2)], 13, (.seq (.region [k 1 (.box (tm 0)) 0, k 2 (.mov (vl .nilSl)) 0]) (.seq (.drawn [k 3 (.fieldAddr 0 (tm 1)) 0, k 4 (.load1 (tm 3)) 1, k 5 (.convInt .u64 (tm 4)) 3, k 6 (.call (.value (vl (.fn (.func 83) [] []))) [(tm 5)]) 7, k 7 (.fieldAddr 1 (tm 1)) 0, k 8 (.load1 (tm 7)) 16, k 9 (.strBytes (tm 8)) 48, k 10 (.call (.value (vl (.fn (.func 112) [] []))) [(tm 9)]) 127, k 11 (.buildSl 2 1 [.nilSl] [(0, 1, (tm 6)), (1, 1, (tm 10))]) 255, k 12 (.call (.value (vl (.fn (.func 80) [] []))) [(tm 11)]) 511, k 2 (.mov (tm 12)) 1023]) .ret))⟩
theorem form_code : compFn Tryz.prog 93 = some form_fu := by kernel_rfl
noncomputable def wnf_0 : C := (.seq (.seq (.region [k 5 (.mov (tm 0)) 0, k 6 (.bin .gtr .other true (tm 5) (vl (.int .u64 (127)))) 0]) (.cond (tm 6) .skip (.exit 0))) (.seq (.block 1 (.region [k 9 (.mov (tm 3)) 0, k 10 (.mov (tm 0)) 0, k 11 (.convInt .u8 (tm 10)) 0, k 12 (.bin .or .other true (tm 11) (vl (.int .u8 (128)))) 0, k 13 (.buildSl 1 1 [(.int .u8 (0))] [(0, 1, (tm 12))]) 0, k 14 (.append 1 0 (tm 9) (tm 13)) 0, k 3 (.mov (tm 14)) 0])) (.region [k 7 (.mov (tm 0)) 0, k 8 (.bin .shr .other true (tm 7) (vl (.int .u64 (7)))) 0, k 0 (.mov (tm 8)) 0])))
noncomputable def wnf_fu : Fu := ⟨[.tmp (Pos.ofNat 2)], 20, (.seq (.region [k 2 (.mov (vl .nilSl)) 0]) (.seq (.region [k 4 (.mkSl 1 1 [(.int .u8 (0))] (vl (int64 (0))) (vl (int64 (10)))) 0, k 3 (.mov (tm 4)) 0]) (.seq (.block 0 (.loop wnf_0)) (.seq (.region [k 15 (.mov (tm 3)) 0, k 16 (.mov (tm 0)) 0, k 17 (.convInt .u8 (tm 16)) 0, k 18 (.buildSl 1 1 [(.int .u8 (0))] [(0, 1, (tm 17))]) 0, k 19 (.append 1 0 (tm 15) (tm 18)) 0, k 2 (.mov (tm 19)) 0]) .ret))))⟩
theorem wnf_code : compFn Tryz.prog 83 = some wnf_fu := by kernel_rfl
noncomputable def wbf_fu : Fu := ⟨[.tmp (Pos.ofNat 2)], 9, (.seq (.region [k 2 (.mov (vl .nilSl)) 0]) (.seq (.region [k 3 (.mov (tm 0)) 0, k 4 (.lenL (tm 3)) 0, k 5 (.convInt .u64 (tm 4)) 0, k 6 (.call (.value (vl (.fn (.func 83) [] []))) [(tm 5)]) 0, k 7 (.mov (tm 0)) 0, k 8 (.append 1 0 (tm 6) (tm 7)) 0, k 2 (.mov (tm 8)) 0]) .ret))⟩
theorem wbf_code : compFn Tryz.prog 112 = some wbf_fu := by kernel_rfl
theorem ok_order : okCall Tryz.prog 5 = true := by kernel_rfl
theorem ok_cmp : okCall Tryz.prog 29 = true := by kernel_rfl
theorem ok_cmpn : okCall Tryz.prog 34 = true := by kernel_rfl
theorem ok_cmpb : okCall Tryz.prog 36 = true := by kernel_rfl
theorem ok_first : okCall Tryz.prog 78 = true := by kernel_rfl
theorem ok_snum : okCall Tryz.prog 79 = true := by kernel_rfl
theorem ok_kcmp : okCall Tryz.prog 87 = true := by kernel_rfl
theorem ok_scmp : okCall Tryz.prog 108 = true := by kernel_rfl
theorem ok_bcmp : okCall Tryz.prog 124 = true := by kernel_rfl
theorem ok_put : okCall Tryz.prog 31 = true := by kernel_rfl
theorem ok_putn : okCall Tryz.prog 82 = true := by kernel_rfl
theorem ok_form : okCall Tryz.prog 93 = true := by kernel_rfl
theorem ok_wnf : okCall Tryz.prog 83 = true := by kernel_rfl
theorem ok_wbf : okCall Tryz.prog 112 = true := by kernel_rfl
end Go.Proofs.YtjhgembcdndmkaaGreatDoor.St

namespace Go.Proofs.YtjhgembcdndmkaaGreatDoor.St
open Go Go.RowKit Go.Proofs
def low (l : List UInt8) : Bool := l.all fun c => 97 ≤ c.toNat && c.toNat ≤ 122
def labelB (l : List UInt8) : Bool := low l && (1 ≤ l.length && l.length ≤ 12)
theorem low_no {l : List UInt8} {k : Nat} (hk : k < l.length) (h : (l[k].toNat : Int) < 97 ∨ 122 < (l[k].toNat : Int)) : labelB l = false := by
  have : low l = false := by
    rw [← Bool.not_eq_true]; intro q
    have := List.all_eq_true.1 q _ (List.getElem_mem hk)
    simp at this; omega
  unfold labelB; rw [this]; rfl
theorem low_step {l : List UInt8} {k : Nat} (hk : k < l.length) (h : low (l.take k) = true) (h1 : ¬ (l[k].toNat : Int) < 97) (h2 : ¬ 122 < (l[k].toNat : Int)) : low (l.take (k + 1)) = true := by
  unfold low at *
  rw [List.take_succ_eq_append_getElem hk, List.all_append, h]
  simp; omega
set_option maxHeartbeats 1600000 in
set_option maxRecDepth 1000000 in
theorem label_any (s : ByteArray) (w : World) (hs : s.size ≤ 9223372036854775807) :
    Calls Tryz.prog 92 #[.string s] w fun e w' => e = .returned (.bool (labelB s.data.toList)) ∧ Below w.heap.size w w' := by
  have hconv := run_bytes_of_string (P := Tryz.prog) w 9 44 5 s Tryz.underlying9 Tryz.underlying44 Tryz.underlying5
  generalize grownCap w s.size 0 5 = cap at hconv
  generalize hC : bytesRow s cap = C at hconv
  have hcell : ∀ j (hj : j < s.data.toList.length), (w.alloc (.cells C 5 (C.size, C.size + 1))).cell? ⟨w.heap.size, j, none⟩ = some (.int .u8 (s.data.toList[j].toNat : Int)) := by
    intro j hj
    subst hC
    unfold World.cell? World.alloc
    simp only [Array.getElem?_push_size]
    exact bytesRow_at s cap j (by simpa using hj)
  clear hC
  go_enter Tryz.func92, Tryz.ntmps92
  go_wp2
  go_loop [8] (fun i => ∃ k : Nat, k ≤ s.size ∧ i = .int .i64 k ∧ low (s.data.toList.take k) = true) (fun i => s.size - (intOf i).toNat)
  case atStart => exact ⟨0, Nat.zero_le _, rfl, rfl⟩
  case round =>
    obtain ⟨k, hk, rfl, hl⟩ := hrel
    have hsl : s.data.toList.length = s.size := by simp
    by_cases hlt : k < s.size
    · have hc := hcell k (by omega)
      have hkl : k < s.data.toList.length := by omega
      have hs1 := low_step hkl hl
      have hn1 := low_no hkl
      generalize (s.data.toList[k]).toNat = c at hc hs1 hn1
      clear hcell hconv
      go_wp2
      · go_ret
        exact ⟨rfl, by first | exact ((Below.refl _ _).alloc (Nat.le_refl _) _).drew | exact (Below.refl _ _).drew.alloc (Nat.le_refl _) _⟩
      · go_round
        case rel => exact ⟨k + 1, by omega, by go_num, hs1 (by omega) (by omega)⟩
        case measure => simp [intOf]; omega
      · go_ret
        exact ⟨rfl, by first | exact ((Below.refl _ _).alloc (Nat.le_refl _) _).drew | exact (Below.refl _ _).drew.alloc (Nat.le_refl _) _⟩
    · have hkk : k = s.size := by omega
      obtain rfl : s.size = k := hkk.symm
      have hfull : low s.data.toList = true := by rw [← hsl, List.take_length] at hl; exact hl
      have hB : labelB s.data.toList = (decide (1 ≤ s.size) && decide (s.size ≤ 12)) := by unfold labelB; rw [hfull, hsl]; simp
      have HB := Lib.hid hB
      clear hB hcell hconv hsl hl hfull
      go_wp2
      all_goals
        go_ret
        refine ⟨?_, by first | exact ((Below.refl _ _).alloc (Nat.le_refl _) _).drew | exact (Below.refl _ _).drew.alloc (Nat.le_refl _) _⟩
        rw [HB.out]
        first
          | (have h1 : 1 ≤ s.size := by omega
             simp [h1]
             by_cases h2 : s.size ≤ 12 <;> simp [h2] <;> omega)
          | (have h1 : ¬ 1 ≤ s.size := by omega
             simp [h1])
end Go.Proofs.YtjhgembcdndmkaaGreatDoor.St

namespace Go.Proofs
open Go.Shelf
def Tryz.tabName : String := (YtjhgembcdndmkaaGreatDoor.Rows.stampParsesRow.laid.map (·.1))[2]
def Tryz.lays156_ren : Go.Shelf.Ren := ⟨fun | 156 => 106 | 165 => 120 | 166 => 121 | 169 => 122 | 240 => 147 | 241 => 148 | 276 => 167 | 277 => 168 | n => n, fun | 31 => 89 | 9 => 9 | 3 => 3 | 4 => 4 | 0 => 0 | 20 => 20 | 72 => 152 | 76 => 154 | 70 => 150 | 37 => 44 | 75 => 127 | 127 => 179 | 164 => 198 | 5 => 5 | 80 => 156 | n => n, fun | n => n⟩
theorem Tryz.lays156 : Go.Proofs.Lays.n156 Tryz.prog Tryz.lays156_ren := {
  mixed := by kernel_rfl
  f156 := Tryz.func106.trans (congrArg some (by kernel_rfl))
  f165 := Tryz.func120.trans (congrArg some (by kernel_rfl))
  f166 := Tryz.func121.trans (congrArg some (by kernel_rfl))
  f169 := Tryz.func122.trans (congrArg some (by kernel_rfl))
  f240 := Tryz.func147.trans (congrArg some (by kernel_rfl))
  f241 := Tryz.func148.trans (congrArg some (by kernel_rfl))
  f276 := Tryz.func167.trans (congrArg some (by kernel_rfl))
  f277 := Tryz.func168.trans (congrArg some (by kernel_rfl))
  t0 := Tryz.underlying0
  a0 := Tryz.isAgg0
  z0 := Tryz.sizeOf0
  v0 := Tryz.zeroValue0
  t3 := Tryz.underlying3
  a3 := Tryz.isAgg3
  z3 := Tryz.sizeOf3
  v3 := Tryz.zeroValue3
  t4 := Tryz.underlying4
  a4 := Tryz.isAgg4
  z4 := Tryz.sizeOf4
  v4 := Tryz.zeroValue4
  t9 := Tryz.underlying9
  a9 := Tryz.isAgg9
  z9 := Tryz.sizeOf9
  v9 := Tryz.zeroValue9
  t20 := Tryz.underlying20
  a20 := Tryz.isAgg20
  z20 := Tryz.sizeOf20
  v20 := Tryz.zeroValue20
  t31 := Tryz.underlying89
  a31 := Tryz.isAgg89
  z31 := Tryz.sizeOf89
  v31 := Tryz.zeroValue89
  t37 := Tryz.underlying44
  a37 := Tryz.isAgg44
  z37 := Tryz.sizeOf44
  v37 := Tryz.zeroValue44
  t70 := Tryz.underlying150
  a70 := Tryz.isAgg150
  z70 := Tryz.sizeOf150
  v70 := Tryz.zeroValue150
  t72 := Tryz.underlying152
  a72 := Tryz.isAgg152
  z72 := Tryz.sizeOf152
  v72 := Tryz.zeroValue152
  t75 := Tryz.underlying127
  a75 := Tryz.isAgg127
  z75 := Tryz.sizeOf127
  v75 := Tryz.zeroValue127
  t76 := Tryz.underlying154
  a76 := Tryz.isAgg154
  z76 := Tryz.sizeOf154
  v76 := Tryz.zeroValue154
  t127 := Tryz.underlying179
  a127 := Tryz.isAgg179
  z127 := Tryz.sizeOf179
  v127 := Tryz.zeroValue179
  t164 := Tryz.underlying198
  a164 := Tryz.isAgg198
  z164 := Tryz.sizeOf198
  v164 := Tryz.zeroValue198 }
theorem Tryz.Builder_Extra_156 : Builder.Extra Tryz.prog Tryz.lays156_ren := {
  sizeBuilder := by kernel_rfl
  liesBuilder := by kernel_rfl
  t5 := Tryz.underlying5
  a5 := Tryz.isAgg5
  z5 := Tryz.sizeOf5
  v5 := Tryz.zeroValue5
  infoByte := by kernel_rfl
  cellsByte := by kernel_rfl
  sizeByte := by kernel_rfl
  neB5 := by decide }
open Go.RowKit in
theorem Tryz.strings_Join (bk o c : Nat) (xs : List ByteArray) (sep : ByteArray) (w : World) (hcells : ∀ (j : Nat) x, xs[j]? = some x → w.cell? ⟨bk, o + j, none⟩ = some (.string x)) (hbk : bk < w.heap.size) (hN : xs.length ≤ 140737488355328) (hcap : xs.length ≤ c) (hlen : (Lib.join (xs.map (·.data.toList)) sep.data.toList).length ≤ 140737488355328) :
    Calls Tryz.prog 106 #[.slice (some ⟨bk, o, none⟩) xs.length c, .string sep] w fun e w' => e = .returned (.string ⟨(Lib.join (xs.map (·.data.toList)) sep.data.toList).toArray⟩) ∧ Below w.heap.size w w' := Any.strings_Join Tryz.lays156 Tryz.Builder_Extra_156 bk o c xs sep w hcells hbk hN hcap hlen
def Tryz.laysM173_ren : Go.Shelf.Ren := ⟨fun | 173 => 107 | 246 => 123 | 283 => 149 | 284 => 150 | 285 => 151 | 286 => 152 | 129 => 134 | 317 => 169 | 318 => 170 | 319 => 171 | 320 => 172 | 337 => 175 | 338 => 176 | n => n, fun | 2 => 2 | 3 => 3 | 9 => 9 | 4 => 4 | 171 => 181 | 0 => 0 | 53 => 50 | 37 => 44 | 5 => 5 | 173 => 183 | 212 => 202 | 51 => 166 | 20 => 20 | 213 => 203 | 46 => 98 | 232 => 215 | 233 => 216 | n => n, fun | 17 => 3 | 18 => 6 | 19 => 7 | n => n⟩
theorem Tryz.laysM173 : Go.Proofs.LaysM.n173 Tryz.prog Tryz.laysM173_ren := {
  mixed := by kernel_rfl
  f129 := Tryz.func134.trans (congrArg some (by kernel_rfl))
  f173 := Tryz.func107.trans (congrArg some (by kernel_rfl))
  f246 := Tryz.func123.trans (congrArg some (by kernel_rfl))
  f283 := Tryz.func149.trans (congrArg some (by kernel_rfl))
  f284 := Tryz.func150.trans (congrArg some (by kernel_rfl))
  f285 := Tryz.func151.trans (congrArg some (by kernel_rfl))
  f286 := Tryz.func152.trans (congrArg some (by kernel_rfl))
  f317 := Tryz.func169.trans (congrArg some (by kernel_rfl))
  f318 := Tryz.func170.trans (congrArg some (by kernel_rfl))
  f319 := Tryz.func171.trans (congrArg some (by kernel_rfl))
  f320 := Tryz.func172.trans (congrArg some (by kernel_rfl))
  f337 := Tryz.func175.trans (congrArg some (by kernel_rfl))
  f338 := Tryz.func176.trans (congrArg some (by kernel_rfl))
  t0 := Tryz.underlying0
  a0 := Tryz.isAgg0
  z0 := Tryz.sizeOf0
  v0 := Tryz.zeroValue0
  t2 := Tryz.underlying2
  a2 := Tryz.isAgg2
  z2 := Tryz.sizeOf2
  v2 := Tryz.zeroValue2
  t3 := Tryz.underlying3
  a3 := Tryz.isAgg3
  z3 := Tryz.sizeOf3
  v3 := Tryz.zeroValue3
  t4 := Tryz.underlying4
  a4 := Tryz.isAgg4
  z4 := Tryz.sizeOf4
  v4 := Tryz.zeroValue4
  t5 := Tryz.underlying5
  a5 := Tryz.isAgg5
  z5 := Tryz.sizeOf5
  v5 := Tryz.zeroValue5
  t9 := Tryz.underlying9
  a9 := Tryz.isAgg9
  z9 := Tryz.sizeOf9
  v9 := Tryz.zeroValue9
  t20 := Tryz.underlying20
  a20 := Tryz.isAgg20
  z20 := Tryz.sizeOf20
  v20 := Tryz.zeroValue20
  t37 := Tryz.underlying44
  a37 := Tryz.isAgg44
  z37 := Tryz.sizeOf44
  v37 := Tryz.zeroValue44
  t46 := Tryz.underlying98
  a46 := Tryz.isAgg98
  z46 := Tryz.sizeOf98
  v46 := Tryz.zeroValue98
  t51 := Tryz.underlying166
  a51 := Tryz.isAgg166
  z51 := Tryz.sizeOf166
  v51 := Tryz.zeroValue166
  t53 := Tryz.underlying50
  a53 := Tryz.isAgg50
  z53 := Tryz.sizeOf50
  v53 := Tryz.zeroValue50
  t171 := Tryz.underlying181
  a171 := Tryz.isAgg181
  z171 := Tryz.sizeOf181
  v171 := Tryz.zeroValue181
  t173 := Tryz.underlying183
  a173 := Tryz.isAgg183
  z173 := Tryz.sizeOf183
  v173 := Tryz.zeroValue183
  t212 := Tryz.underlying202
  a212 := Tryz.isAgg202
  z212 := Tryz.sizeOf202
  v212 := Tryz.zeroValue202
  t213 := Tryz.underlying203
  a213 := Tryz.isAgg203
  z213 := Tryz.sizeOf203
  t232 := Tryz.underlying215
  a232 := Tryz.isAgg215
  z232 := Tryz.sizeOf215
  v232 := Tryz.zeroValue215
  t233 := Tryz.underlying216
  a233 := Tryz.isAgg216
  z233 := Tryz.sizeOf216
  v233 := Tryz.zeroValue216
  g17 := by kernel_rfl
  g18 := by kernel_rfl
  g19 := by kernel_rfl
  i0 := by kernel_rfl
  i2 := by kernel_rfl
  i3 := by kernel_rfl
  i4 := by kernel_rfl
  i5 := by kernel_rfl
  i9 := by kernel_rfl
  i20 := by kernel_rfl
  i37 := by kernel_rfl
  i46 := by kernel_rfl
  i51 := by kernel_rfl
  i53 := by kernel_rfl
  i171 := by kernel_rfl
  i173 := by kernel_rfl
  i212 := by kernel_rfl
  i232 := by kernel_rfl
  i233 := by kernel_rfl
  m17 := by kernel_rfl
  m18 := by kernel_rfl
  m19 := by kernel_rfl }
open Go.RowKit Go.Sort Go.Lib in
theorem Tryz.strconv_FormatInt_10 (n : Int) (h0 : -9223372036854775808 ≤ n) (h1 : n ≤ 9223372036854775807) (w : World) (htab : Lib.TabIs Tryz.prog w Tryz.tabName .u64 Lib.pow10Tab) :
    Calls Tryz.prog 107 #[.int .i64 n, .int .i64 10] w fun e w' => e = .returned (.string ⟨(Lib.itoa n).toArray⟩) ∧ ∃ k os, w' = grow (w.drewN k) os := Any.strconv_FormatInt_10 Tryz.laysM173 n h0 h1 w htab
def Tryz.laysC174_ren : Go.Shelf.Ren := ⟨fun | 174 => 95 | 247 => 114 | 245 => 115 | 287 => 139 | 279 => 140 | 280 => 141 | 281 => 142 | 282 => 143 | 321 => 161 | 322 => 162 | 316 => 163 | 171 => 165 | 205 => 164 | 243 => 174 | 246 => 123 | 283 => 149 | 284 => 150 | 285 => 151 | 286 => 152 | 129 => 134 | 317 => 169 | 318 => 170 | 319 => 171 | 320 => 172 | 337 => 175 | 338 => 176 | n => n, fun | 9 => 9 | 3 => 3 | 2 => 2 | 75 => 127 | 85 => 128 | 4 => 4 | 167 => 170 | 5 => 5 | 53 => 50 | 175 => 171 | 46 => 98 | 168 => 173 | 37 => 44 | 0 => 0 | 210 => 196 | 21 => 21 | 127 => 179 | 145 => 210 | 143 => 208 | 171 => 181 | 173 => 183 | 212 => 202 | 51 => 166 | 20 => 20 | 213 => 203 | 232 => 215 | 233 => 216 | 80 => 156 | n => n, fun | 15 => 1 | 16 => 2 | 17 => 3 | 18 => 6 | 19 => 7 | n => n⟩
theorem Tryz.laysC174 : Go.Proofs.LaysC.n174 Tryz.prog Tryz.laysC174_ren := {
  mixed := by kernel_rfl
  f129 := Tryz.func134.trans (congrArg some (by kernel_rfl))
  f171 := Tryz.func165.trans (congrArg some (by kernel_rfl))
  f174 := Tryz.func95.trans (congrArg some (by kernel_rfl))
  f205 := Tryz.func164.trans (congrArg some (by kernel_rfl))
  f243 := Tryz.func174.trans (congrArg some (by kernel_rfl))
  f245 := Tryz.func115.trans (congrArg some (by kernel_rfl))
  f246 := Tryz.func123.trans (congrArg some (by kernel_rfl))
  f247 := Tryz.func114.trans (congrArg some (by kernel_rfl))
  f279 := Tryz.func140.trans (congrArg some (by kernel_rfl))
  f280 := Tryz.func141.trans (congrArg some (by kernel_rfl))
  f281 := Tryz.func142.trans (congrArg some (by kernel_rfl))
  f282 := Tryz.func143.trans (congrArg some (by kernel_rfl))
  f283 := Tryz.func149.trans (congrArg some (by kernel_rfl))
  f284 := Tryz.func150.trans (congrArg some (by kernel_rfl))
  f285 := Tryz.func151.trans (congrArg some (by kernel_rfl))
  f286 := Tryz.func152.trans (congrArg some (by kernel_rfl))
  f287 := Tryz.func139.trans (congrArg some (by kernel_rfl))
  f316 := Tryz.func163.trans (congrArg some (by kernel_rfl))
  f317 := Tryz.func169.trans (congrArg some (by kernel_rfl))
  f318 := Tryz.func170.trans (congrArg some (by kernel_rfl))
  f319 := Tryz.func171.trans (congrArg some (by kernel_rfl))
  f320 := Tryz.func172.trans (congrArg some (by kernel_rfl))
  f321 := Tryz.func161.trans (congrArg some (by kernel_rfl))
  f322 := Tryz.func162.trans (congrArg some (by kernel_rfl))
  f337 := Tryz.func175.trans (congrArg some (by kernel_rfl))
  f338 := Tryz.func176.trans (congrArg some (by kernel_rfl))
  t0 := Tryz.underlying0
  a0 := Tryz.isAgg0
  z0 := Tryz.sizeOf0
  v0 := Tryz.zeroValue0
  t2 := Tryz.underlying2
  a2 := Tryz.isAgg2
  z2 := Tryz.sizeOf2
  v2 := Tryz.zeroValue2
  t3 := Tryz.underlying3
  a3 := Tryz.isAgg3
  z3 := Tryz.sizeOf3
  v3 := Tryz.zeroValue3
  t4 := Tryz.underlying4
  a4 := Tryz.isAgg4
  z4 := Tryz.sizeOf4
  v4 := Tryz.zeroValue4
  t5 := Tryz.underlying5
  a5 := Tryz.isAgg5
  z5 := Tryz.sizeOf5
  v5 := Tryz.zeroValue5
  t9 := Tryz.underlying9
  a9 := Tryz.isAgg9
  z9 := Tryz.sizeOf9
  v9 := Tryz.zeroValue9
  t20 := Tryz.underlying20
  a20 := Tryz.isAgg20
  z20 := Tryz.sizeOf20
  v20 := Tryz.zeroValue20
  t21 := Tryz.underlying21
  a21 := Tryz.isAgg21
  z21 := Tryz.sizeOf21
  v21 := Tryz.zeroValue21
  t37 := Tryz.underlying44
  a37 := Tryz.isAgg44
  z37 := Tryz.sizeOf44
  v37 := Tryz.zeroValue44
  t46 := Tryz.underlying98
  a46 := Tryz.isAgg98
  z46 := Tryz.sizeOf98
  v46 := Tryz.zeroValue98
  t51 := Tryz.underlying166
  a51 := Tryz.isAgg166
  z51 := Tryz.sizeOf166
  v51 := Tryz.zeroValue166
  t53 := Tryz.underlying50
  a53 := Tryz.isAgg50
  z53 := Tryz.sizeOf50
  v53 := Tryz.zeroValue50
  t75 := Tryz.underlying127
  a75 := Tryz.isAgg127
  z75 := Tryz.sizeOf127
  v75 := Tryz.zeroValue127
  t85 := Tryz.underlying128
  a85 := Tryz.isAgg128
  z85 := Tryz.sizeOf128
  v85 := Tryz.zeroValue128
  t127 := Tryz.underlying179
  a127 := Tryz.isAgg179
  z127 := Tryz.sizeOf179
  v127 := Tryz.zeroValue179
  t143 := Tryz.underlying208
  a143 := Tryz.isAgg208
  z143 := Tryz.sizeOf208
  v143 := Tryz.zeroValue208
  t145 := Tryz.underlying210
  a145 := Tryz.isAgg210
  z145 := Tryz.sizeOf210
  v145 := Tryz.zeroValue210
  t167 := Tryz.underlying170
  a167 := Tryz.isAgg170
  z167 := Tryz.sizeOf170
  v167 := Tryz.zeroValue170
  t168 := Tryz.underlying173
  a168 := Tryz.isAgg173
  z168 := Tryz.sizeOf173
  v168 := Tryz.zeroValue173
  t171 := Tryz.underlying181
  a171 := Tryz.isAgg181
  z171 := Tryz.sizeOf181
  v171 := Tryz.zeroValue181
  t173 := Tryz.underlying183
  a173 := Tryz.isAgg183
  z173 := Tryz.sizeOf183
  v173 := Tryz.zeroValue183
  t175 := Tryz.underlying171
  a175 := Tryz.isAgg171
  z175 := Tryz.sizeOf171
  v175 := Tryz.zeroValue171
  t210 := Tryz.underlying196
  a210 := Tryz.isAgg196
  z210 := Tryz.sizeOf196
  v210 := Tryz.zeroValue196
  t212 := Tryz.underlying202
  a212 := Tryz.isAgg202
  z212 := Tryz.sizeOf202
  v212 := Tryz.zeroValue202
  t213 := Tryz.underlying203
  a213 := Tryz.isAgg203
  z213 := Tryz.sizeOf203
  t232 := Tryz.underlying215
  a232 := Tryz.isAgg215
  z232 := Tryz.sizeOf215
  v232 := Tryz.zeroValue215
  t233 := Tryz.underlying216
  a233 := Tryz.isAgg216
  z233 := Tryz.sizeOf216
  v233 := Tryz.zeroValue216
  g15 := by kernel_rfl
  g16 := by kernel_rfl
  g17 := by kernel_rfl
  g18 := by kernel_rfl
  g19 := by kernel_rfl
  t80 := Tryz.underlying156
  a80 := Tryz.isAgg156
  z80 := Tryz.sizeOf156
  v80 := Tryz.zeroValue156
  i0 := by kernel_rfl
  i2 := by kernel_rfl
  i3 := by kernel_rfl
  i4 := by kernel_rfl
  i5 := by kernel_rfl
  i9 := by kernel_rfl
  i20 := by kernel_rfl
  i21 := by kernel_rfl
  i37 := by kernel_rfl
  i46 := by kernel_rfl
  i51 := by kernel_rfl
  i53 := by kernel_rfl
  i75 := by kernel_rfl
  i80 := by kernel_rfl
  i85 := by kernel_rfl
  i127 := by kernel_rfl
  i143 := by kernel_rfl
  i145 := by kernel_rfl
  i167 := by kernel_rfl
  i168 := by kernel_rfl
  i171 := by kernel_rfl
  i173 := by kernel_rfl
  i175 := by kernel_rfl
  i210 := by kernel_rfl
  i212 := by kernel_rfl
  i232 := by kernel_rfl
  i233 := by kernel_rfl
  m15 := by kernel_rfl
  m16 := by kernel_rfl
  m17 := by kernel_rfl
  m18 := by kernel_rfl
  m19 := by kernel_rfl
  c0 := by kernel_rfl
  c2 := by kernel_rfl
  c3 := by kernel_rfl
  c4 := by kernel_rfl
  c5 := by kernel_rfl
  c9 := by kernel_rfl
  c20 := by kernel_rfl
  c21 := by kernel_rfl
  c37 := by kernel_rfl
  c46 := by kernel_rfl
  c51 := by kernel_rfl
  c53 := by kernel_rfl
  c75 := by kernel_rfl
  c80 := by kernel_rfl
  c85 := by kernel_rfl
  c127 := by kernel_rfl
  c143 := by kernel_rfl
  c145 := by kernel_rfl
  c167 := by kernel_rfl
  c168 := by kernel_rfl
  c171 := by kernel_rfl
  c173 := by kernel_rfl
  c175 := by kernel_rfl
  c210 := by kernel_rfl
  c212 := by kernel_rfl
  c213 := by kernel_rfl
  c232 := by kernel_rfl
  c233 := by kernel_rfl }
open Go.RowKit in
theorem Tryz.strconv_ParseInt_10_at64_ok (s : ByteArray) (hmax : s.size ≤ 9223372036854775806) (v : Int) (h : Lib.parseIntB 64 s.data.toList = .ok v) (w : World) :
    Calls Tryz.prog 95 #[.string s, .int .i64 10, .int .i64 64] w fun e w' => e = .returned (.tuple #[.int .i64 v, .nilIface]) ∧ (w' = w ∨ ∃ t, w' = Lib.bytesWorld w 5 t) := Any.strconv_ParseInt_10_at64_ok Tryz.laysC174 s hmax v h w
open Go.RowKit in
theorem Tryz.strconv_ParseInt_no (s : ByteArray) (hlim : s.size ≤ 281474976710656) (h : Lib.parseIntB 64 s.data.toList = Lib.NumEnd.syntax) (ev : Value) (w : World) (hv : w.cell? ⟨1, 0, none⟩ = some ev) (hev : ev = .nilIface ∨ ∃ te pe, ev = .iface te pe) :
    Calls Tryz.prog 95 #[.string s, .int .i64 10, .int .i64 64] w fun e w' => ∃ N, e = .returned (.tuple #[.int .i64 (0), .iface 173 (.pointer (some ⟨N, 0, none⟩))]) ∧ w.heap.size ≤ N ∧ w'.heap[N]? = some (.cells #[.string ⟨#[80, 97, 114, 115, 101, 73, 110, 116]⟩, .string s, ev] 196 (0, 0)) ∧ Below w.heap.size w w' := Any.strconv_ParseInt_10_at64_syntax Tryz.laysC174 s hlim h ev w hv hev
open Go.RowKit in
theorem Tryz.strconv_ParseInt_10_at64_range (s : ByteArray) (hlim : s.size ≤ 281474976710656) (h : Lib.parseIntB 64 s.data.toList = .range) (ev : Value) (w : World) (hv : w.cell? ⟨2, 0, none⟩ = some ev) (hev : ev = .nilIface ∨ ∃ te pe, ev = .iface te pe) :
    Calls Tryz.prog 95 #[.string s, .int .i64 10, .int .i64 64] w fun e w' => ∃ N, e = .returned (.tuple #[.int .i64 (Lib.intSat 64 s.data.toList), .iface 173 (.pointer (some ⟨N, 0, none⟩))]) ∧ w.heap.size ≤ N ∧ w'.heap[N]? = some (.cells #[.string ⟨#[80, 97, 114, 115, 101, 73, 110, 116]⟩, .string s, ev] 196 (0, 0)) ∧ Below w.heap.size w w' := Any.strconv_ParseInt_10_at64_range Tryz.laysC174 s hlim h ev w hv hev
def Tryz.lays146_ren : Go.Shelf.Ren := ⟨fun | 146 => 53 | 221 => 98 | 268 => 116 | 138 => 117 | 143 => 118 | 195 => 144 | 197 => 145 | 218 => 146 | 219 => 113 | 260 => 166 | 217 => 135 | 225 => 136 | 224 => 137 | 267 => 138 | 266 => 159 | 314 => 160 | n => n, fun | 9 => 9 | 31 => 89 | 3 => 3 | 4 => 4 | 0 => 0 | 105 => 177 | 21 => 21 | 5 => 5 | 46 => 98 | 119 => 211 | 139 => 214 | 138 => 213 | 146 => 191 | 51 => 166 | n => n, fun | 1 => 0 | 3 => 4 | 4 => 5 | n => n⟩
theorem Tryz.lays146 : Go.Proofs.Lays.n146 Tryz.prog Tryz.lays146_ren := {
  mixed := by kernel_rfl
  f138 := Tryz.func117.trans (congrArg some (by kernel_rfl))
  f143 := Tryz.func118.trans (congrArg some (by kernel_rfl))
  f146 := Tryz.func53.trans (congrArg some (by kernel_rfl))
  f195 := Tryz.func144.trans (congrArg some (by kernel_rfl))
  f197 := Tryz.func145.trans (congrArg some (by kernel_rfl))
  f217 := Tryz.func135.trans (congrArg some (by kernel_rfl))
  f218 := Tryz.func146.trans (congrArg some (by kernel_rfl))
  f219 := Tryz.func113.trans (congrArg some (by kernel_rfl))
  f221 := Tryz.func98.trans (congrArg some (by kernel_rfl))
  f224 := Tryz.func137.trans (congrArg some (by kernel_rfl))
  f225 := Tryz.func136.trans (congrArg some (by kernel_rfl))
  f260 := Tryz.func166.trans (congrArg some (by kernel_rfl))
  f266 := Tryz.func159.trans (congrArg some (by kernel_rfl))
  f267 := Tryz.func138.trans (congrArg some (by kernel_rfl))
  f268 := Tryz.func116.trans (congrArg some (by kernel_rfl))
  f314 := Tryz.func160.trans (congrArg some (by kernel_rfl))
  t0 := Tryz.underlying0
  a0 := Tryz.isAgg0
  z0 := Tryz.sizeOf0
  v0 := Tryz.zeroValue0
  t3 := Tryz.underlying3
  a3 := Tryz.isAgg3
  z3 := Tryz.sizeOf3
  v3 := Tryz.zeroValue3
  t4 := Tryz.underlying4
  a4 := Tryz.isAgg4
  z4 := Tryz.sizeOf4
  v4 := Tryz.zeroValue4
  t5 := Tryz.underlying5
  a5 := Tryz.isAgg5
  z5 := Tryz.sizeOf5
  v5 := Tryz.zeroValue5
  t9 := Tryz.underlying9
  a9 := Tryz.isAgg9
  z9 := Tryz.sizeOf9
  v9 := Tryz.zeroValue9
  t21 := Tryz.underlying21
  a21 := Tryz.isAgg21
  z21 := Tryz.sizeOf21
  v21 := Tryz.zeroValue21
  t31 := Tryz.underlying89
  a31 := Tryz.isAgg89
  z31 := Tryz.sizeOf89
  v31 := Tryz.zeroValue89
  t46 := Tryz.underlying98
  a46 := Tryz.isAgg98
  z46 := Tryz.sizeOf98
  v46 := Tryz.zeroValue98
  t51 := Tryz.underlying166
  a51 := Tryz.isAgg166
  z51 := Tryz.sizeOf166
  v51 := Tryz.zeroValue166
  t105 := Tryz.underlying177
  a105 := Tryz.isAgg177
  z105 := Tryz.sizeOf177
  v105 := Tryz.zeroValue177
  t119 := Tryz.underlying211
  a119 := Tryz.isAgg211
  z119 := Tryz.sizeOf211
  t138 := Tryz.underlying213
  a138 := Tryz.isAgg213
  z138 := Tryz.sizeOf213
  v138 := Tryz.zeroValue213
  t139 := Tryz.underlying214
  a139 := Tryz.isAgg214
  z139 := Tryz.sizeOf214
  v139 := Tryz.zeroValue214
  t146 := Tryz.underlying191
  a146 := Tryz.isAgg191
  z146 := Tryz.sizeOf191
  v146 := Tryz.zeroValue191
  g1 := by kernel_rfl
  g3 := by kernel_rfl
  g4 := by kernel_rfl }
open Go.RowKit Go.Lib in
theorem Tryz.strings_Split (s sep : ByteArray) (m : Int) (w : World) (hs : s.size < 4294967281) (hm : w.cell? ⟨0, 0, none⟩ = some (.int .i64 m)) (h1 : 1 ≤ sep.size) :
    Calls Tryz.prog 53 #[.string s, .string sep] w fun e w' =>
      e = .returned (.slice (some ⟨w.heap.size, 0, none⟩) (Lib.countB s sep + 1) (Lib.countB s sep + 1)) ∧ w' = w.alloc (.cells ((Lib.splitB sep 0 (Lib.countB s sep) s).map Value.string).toArray 9) := Any.strings_Split Tryz.lays146 (by kernel_rfl) s sep m w hs hm h1
end Go.Proofs

namespace Go.Proofs.YtjhgembcdndmkaaGreatDoor.St
open Go
def cuts (c : UInt8) : List UInt8 → List (List UInt8)
  | [] => [[]]
  | b :: l => if b = c then [] :: cuts c l else match cuts c l with
    | x :: r => (b :: x) :: r
    | [] => [[b]]
theorem cuts_none {c : UInt8} : ∀ {d : List UInt8}, c ∉ d → cuts c d = [d]
  | [], _ => rfl
  | b :: d, h => by
    have hb : b ≠ c := fun e => h (by rw [e]; simp)
    rw [cuts, if_neg hb, cuts_none fun q => h (List.mem_cons_of_mem _ q)]
theorem cuts_at {c : UInt8} (r : List UInt8) : ∀ {d : List UInt8}, c ∉ d → cuts c (d ++ c :: r) = d :: cuts c r
  | [], _ => by show (if c = c then _ else _) = _; rw [if_pos rfl]
  | b :: d, h => by
    have hb : b ≠ c := fun e => h (by rw [e]; simp)
    rw [List.cons_append, cuts, if_neg hb, cuts_at r fun q => h (List.mem_cons_of_mem _ q)]
theorem index_cases (c : UInt8) : ∀ s : List UInt8, (c ∉ s ∧ Lib.index s [c] = -1) ∨ ∃ d r, s = d ++ c :: r ∧ c ∉ d ∧ Lib.index s [c] = (d.length : Int)
  | [] => .inl ⟨by simp, rfl⟩
  | b :: l => by
    by_cases hb : b = c
    · subst hb
      exact .inr ⟨[], l, rfl, by simp, by unfold Lib.index; simp [List.isPrefixOf]⟩
    · have e : Lib.index (b :: l) [c] = if (Lib.index l [c] == -1) = true then -1 else Lib.index l [c] + 1 := by
        rw [Lib.index]
        have hp : [c].isPrefixOf (b :: l) = false := by simp [List.isPrefixOf]; exact fun q => hb q.symm
        rw [hp]; simp
      rcases index_cases c l with ⟨h1, h2⟩ | ⟨d, r, h1, h2, h3⟩
      · exact .inl ⟨by simp [h1]; exact fun q => hb q.symm, by rw [e, h2]; rfl⟩
      · refine .inr ⟨b :: d, r, by rw [h1]; rfl, by simp [h2]; exact fun q => hb q.symm, ?_⟩
        rw [e, h3, if_neg (by simp)]
        simp
theorem splitK_cuts (c : UInt8) : ∀ (k : Nat) (s : List UInt8), Lib.count s [c] = k → Lib.splitK [c] 0 k s = cuts c s := by
  intro k
  induction k with
  | zero =>
    intro s h
    rcases index_cases c s with ⟨h1, _⟩ | ⟨d, r, h1, h2, h3⟩
    · rw [cuts_none h1]; rfl
    · have := Lib.count_hit (by simp) h3
      omega
  | succ k ih =>
    intro s h
    rcases index_cases c s with ⟨_, h2⟩ | ⟨d, r, h1, h2, h3⟩
    · rw [Lib.count_miss h2] at h; omega
    · have hc := Lib.count_hit (by simp) h3
      have e : s.drop (d.length + 1) = r := by rw [h1]; simp
      rw [Lib.splitK, if_neg (by rw [h3]; simp), h3]
      simp only [Int.toNat_natCast, Nat.add_zero, List.length_cons, List.length_nil, Nat.zero_add] at hc ⊢
      rw [e] at hc ⊢
      rw [ih r (by omega), h1, cuts_at r h2]
      simp
theorem split_cuts (c : UInt8) (s : List UInt8) : Lib.splitK [c] 0 (Lib.count s [c]) s = cuts c s := splitK_cuts c _ s rfl
theorem cuts_length {c : UInt8} : ∀ {s : List UInt8} {x : List UInt8}, x ∈ cuts c s → x.length ≤ s.length
  | [], x, h => by simp [cuts] at h; simp [h]
  | b :: l, x, h => by
    rw [cuts] at h
    split at h
    · rcases List.mem_cons.1 h with e | q
      · subst e; simp
      · have := cuts_length q; simp; omega
    · split at h
      · rename_i y r e
        rcases List.mem_cons.1 h with q | q
        · subst q
          have := cuts_length (c := c) (s := l) (x := y) (by rw [e]; simp)
          simp; omega
        · have := cuts_length (c := c) (s := l) (x := x) (by rw [e]; exact List.mem_cons_of_mem _ q)
          simp; omega
      · simp at h; subst h; simp
def readI (s : List UInt8) : Int := match Lib.parseIntB 64 s with
  | .ok v => v
  | _ => 0
theorem parseUintM_app (M : Nat) : ∀ (l : List UInt8) (acc n : Nat) (x : List UInt8), Lib.parseUintM M acc l = .ok n → Lib.parseUintM M acc (l ++ x) = Lib.parseUintM M n x
  | [], acc, n, x, h => by cases h; rfl
  | c :: l, acc, n, x, h => by
    rw [Lib.parseUintM] at h
    rw [List.cons_append, Lib.parseUintM]
    split at h
    · split at h
      · cases h
      · split at h
        · cases h
        · rename_i h1 h2 h3
          rw [if_pos h1, if_neg h2, if_neg h3]
          exact parseUintM_app M l _ n x h
    · cases h
theorem parseUintM_digits : ∀ (n : Nat), n ≤ 18446744073709551615 → Lib.parseUintM 18446744073709551615 0 (Lib.decDigits n) = .ok n := by
  intro n
  induction n using Nat.strongRecOn with
  | _ n ih =>
    intro hn
    have dig : ∀ d, d < 10 → (UInt8.ofNat (48 + d)).toNat = 48 + d := fun d hd => by simp; omega
    by_cases h : n < 10
    · rw [Lib.decDigits, dif_pos h, Lib.parseUintM, dig n h, if_pos (by omega), if_neg (by omega), if_neg (by omega)]
      simp [Lib.parseUintM]
    · rw [Lib.decDigits, dif_neg h, parseUintM_app _ _ _ _ _ (ih (n / 10) (by omega) (by omega)), Lib.parseUintM, dig (n % 10) (by omega), if_pos (by omega), if_neg (by omega), if_neg (by omega)]
      simp only [Lib.parseUintM]
      congr 1; omega
theorem decDigits_all : ∀ (n : Nat), ∀ c ∈ Lib.decDigits n, 48 ≤ c.toNat ∧ c.toNat ≤ 57 := by
  intro n
  induction n using Nat.strongRecOn with
  | _ n ih =>
    intro c hc
    have dig : ∀ d, d < 10 → (UInt8.ofNat (48 + d)).toNat = 48 + d := fun d hd => by simp; omega
    by_cases h : n < 10
    · rw [Lib.decDigits, dif_pos h] at hc
      simp at hc; subst hc
      have := dig n h
      simp at this ⊢; omega
    · rw [Lib.decDigits, dif_neg h] at hc
      rcases List.mem_append.1 hc with q | q
      · exact ih (n / 10) (by omega) c q
      · simp at q; subst q
        have := dig (n % 10) (by omega)
        simp at this ⊢; omega
theorem decDigits_ne (n : Nat) : Lib.decDigits n ≠ [] := by
  rw [Lib.decDigits]; split <;> simp
theorem parse_itoa {n : Nat} (hn : n < 9223372036854775808) : Lib.parseIntB 64 (Lib.itoa (n : Int)) = .ok (n : Int) := by
  rw [Lib.itoa_nonneg]
  have hall := decDigits_all n
  have hu := parseUintM_digits n (by omega)
  cases hd : Lib.decDigits n with
  | nil => exact absurd hd (decDigits_ne n)
  | cons c r =>
    have hc := hall c (by rw [hd]; simp)
    rw [hd] at hu
    have e : Lib.parseUintB 64 (c :: r) = .ok n := by unfold Lib.parseUintB; rw [if_neg (by simp)]; exact hu
    unfold Lib.parseIntB
    simp only
    rw [if_neg (by omega), e]
    simp only
    rw [if_neg (by simp; omega), if_neg (by omega), if_neg (by omega)]
theorem readI_itoa {n : Nat} (hn : n < 9223372036854775808) : readI (Lib.itoa (n : Int)) = n := by unfold readI; rw [parse_itoa hn]
theorem dot_itoa (n : Nat) : (46 : UInt8) ∉ Lib.itoa (n : Int) := by
  rw [Lib.itoa_nonneg]
  intro h
  have := decDigits_all n _ h
  simp at this
end Go.Proofs.YtjhgembcdndmkaaGreatDoor.St

namespace Go.Proofs.YtjhgembcdndmkaaGreatDoor.St
open Go Go.Proofs.YtjhgembcdndmkaaGreatDoor.Am Go.Proofs Go.RowKit
theorem strOf_eq {a b : List UInt8} : (strOf a = strOf b) = (a = b) := propext ⟨strOf_inj, fun e => by rw [e]⟩
theorem byt_eq {a b : List UInt8} : (byt a = byt b) = (a = b) := propext ⟨byt_inj, fun e => by rw [e]⟩
theorem map_strOf_inj : ∀ {a b : List (List UInt8)}, a.map strOf = b.map strOf → a = b
  | [], [], _ => rfl
  | [], _ :: _, e => by cases e
  | _ :: _, [], e => by cases e
  | x :: a, y :: b, e => by
    rw [List.map_cons, List.map_cons, List.cons.injEq] at e
    rw [strOf_inj e.1, map_strOf_inj e.2]
theorem map_strOf_eq {a b : List (List UInt8)} : (a.map strOf = b.map strOf) = (a = b) := propext ⟨map_strOf_inj, fun e => by rw [e]⟩
theorem cells_strOf (s : List UInt8) : (strOf s).cells = [strOf s] := rfl
theorem cells_int (k : IntKind) (z : Int) : (AV.int k z).cells = [.int k z] := rfl
theorem cells_agg (l : List AV) : (AV.agg l).cells = l := rfl
theorem at_int (k : IntKind) (z : Int) : (AV.int k z).atom = true := rfl
theorem at_str (n v : Nat) : (AV.str n v).atom = true := rfl
theorem at_strOf (s : List UInt8) : (strOf s).atom = true := rfl
theorem at_bool (b : Bool) : (AV.bool b).atom = true := rfl
theorem at_sl (id : Pos) (g o n c : Nat) (e : Bool) (k : Nat) : (AV.sl id g o n c e k).atom = true := rfl
theorem at_nil : AV.nilSl.atom = true := rfl
theorem at_ptr (id : Pos) (g o : Nat) : (AV.ptr id g o).atom = true := rfl
theorem cells_bool (b : Bool) : (AV.bool b).cells = [.bool b] := rfl
theorem cells_str (n v : Nat) : (AV.str n v).cells = [.str n v] := rfl
theorem cells_sl (id : Pos) (g o n c : Nat) (e : Bool) (k : Nat) : (AV.sl id g o n c e k).cells = [.sl id g o n c e k] := rfl
theorem cells_nil : AV.nilSl.cells = [.nilSl] := rfl
theorem cells_ptr (id : Pos) (g o : Nat) : (AV.ptr id g o).cells = [.ptr id g o] := rfl
theorem rel_strOf {φ : Phi} {b : List UInt8} {x : Value} (h : Rel φ (strOf b) x) : x = .string ⟨b.toArray⟩ := by
  cases h with
  | str e hv =>
    rename_i s
    rw [unpack_pack] at e
    congr 1
    cases s with | mk d => cases d with | mk l => cases e; rfl
theorem strOf_relA (φ : Phi) (b : List UInt8) : Rel φ (strOf b) (.string ⟨b.toArray⟩) := strOf_rel φ ⟨b.toArray⟩
theorem relL_one {φ : Phi} {a : AV} {xs : Array Value} (h : RelL φ [a] xs.toList) : ∃ x, xs = #[x] ∧ Rel φ a x := by
  cases xs with | mk l => cases h with | cons p q => cases q; exact ⟨_, rfl, p⟩
theorem relL_two {φ : Phi} {a b : AV} {xs : Array Value} (h : RelL φ [a, b] xs.toList) : ∃ x y, xs = #[x, y] ∧ Rel φ a x ∧ Rel φ b y := by
  cases xs with | mk l => cases h with | cons p q => cases q with | cons p' q' => cases q'; exact ⟨_, _, rfl, p, p'⟩
theorem relL_three {φ : Phi} {a b c : AV} {xs : Array Value} (h : RelL φ [a, b, c] xs.toList) : ∃ x y z, xs = #[x, y, z] ∧ Rel φ a x ∧ Rel φ b y ∧ Rel φ c z := by
  cases xs with | mk l => cases h with | cons p q => cases q with | cons p' q' => cases q' with | cons p2 q2 => cases q2; exact ⟨_, _, _, rfl, p, p', p2⟩
structure HasG (m : Int) (t1 t2 : AV) (h : Hp) : Prop where
  max : T.get (Pos.ofNat 0) h.heap = some (tabB [int64 m])
  syn : T.get (Pos.ofNat 1) h.heap = some (tabB [t1])
  rng : T.get (Pos.ofNat 2) h.heap = some (tabB [t2])
  tab : T.get (Pos.ofNat 3) h.heap = some (tabB (Lib.pow10Tab.map fun z => .int .u64 z))
  isA : ∃ t v, t1 = .ifc t v
  isB : ∃ t v, t2 = .ifc t v
  old : (Pos.ofNat 6).num ≤ h.next.num
section
variable {m : Int} {t1 t2 : AV}
theorem HasG.more {h h' : Hp} (g : HasG m t1 t2 h) (o : Only [] h h') : HasG m t1 t2 h' := by
  have n : ∀ i, i < 6 → (Pos.ofNat i).num < h.next.num := fun i hi => by have := g.old; rw [Pos.num_ofNat] at this ⊢; omega
  exact ⟨by rw [o.same _ (n 0 (by omega)) (by simp)]; exact g.max, by rw [o.same _ (n 1 (by omega)) (by simp)]; exact g.syn, by rw [o.same _ (n 2 (by omega)) (by simp)]; exact g.rng, by rw [o.same _ (n 3 (by omega)) (by simp)]; exact g.tab, g.isA, g.isB, Nat.le_trans g.old o.next⟩
theorem glob_cell {P : Program} {φ : Phi} {h : Hp} {w : World} {g : Nat} {l : List AV} (hR : HR P φ h w) (hg : g < globN P) (ht : T.get (Pos.ofNat g) h.heap = some (tabB l)) {i : Nat} {v : AV} (hv : l[i]? = some v) : ∃ x, w.cell? ⟨g, i, none⟩ = some x ∧ Rel φ v x := by
  obtain ⟨⟨_, _, _, _, _, h5⟩, _⟩ := hR.blk _ _ ht
  obtain ⟨b, s, n, C, el, fr, e1, e2, e3, _, e5⟩ := h5 0 (Nat.le_refl _) (Nat.le_refl _)
  rw [hR.glob g hg] at e1
  cases e1
  obtain ⟨o, x, q1, q2, q3⟩ := e5 i v (Nat.zero_le _) (by rw [if_pos rfl]; exact (List.getElem?_eq_some_iff.1 hv).1) hv
  have : o = i := by omega
  subst this
  exact ⟨x, by unfold World.cell?; simp [e2, q2], q3⟩
theorem glob_lt (g : Nat) (h : g < 4) : g < globN Tryz.prog := h
theorem HasG.maxIs {φ : Phi} {h : Hp} {w : World} (g : HasG m t1 t2 h) (hR : HR Tryz.prog φ h w) : w.cell? ⟨0, 0, none⟩ = some (.int .i64 m) := by
  obtain ⟨x, e, r⟩ := glob_cell hR (glob_lt 0 (by omega)) g.max (i := 0) rfl
  cases r; exact e
theorem HasG.synIs {φ : Phi} {h : Hp} {w : World} (g : HasG m t1 t2 h) (hR : HR Tryz.prog φ h w) : ∃ te pe, w.cell? ⟨1, 0, none⟩ = some (.iface te pe) := by
  obtain ⟨x, e, r⟩ := glob_cell hR (glob_lt 1 (by omega)) g.syn (i := 0) rfl
  obtain ⟨t, v, rfl⟩ := g.isA
  cases r; exact ⟨_, _, e⟩
theorem HasG.rngIs {φ : Phi} {h : Hp} {w : World} (g : HasG m t1 t2 h) (hR : HR Tryz.prog φ h w) : ∃ te pe, w.cell? ⟨2, 0, none⟩ = some (.iface te pe) := by
  obtain ⟨x, e, r⟩ := glob_cell hR (glob_lt 2 (by omega)) g.rng (i := 0) rfl
  obtain ⟨t, v, rfl⟩ := g.isB
  cases r; exact ⟨_, _, e⟩
theorem tab_named : Tryz.prog.globalNamed Tryz.tabName = some 3 := by kernel_rfl
theorem HasG.tabIs {φ : Phi} {h : Hp} {w : World} (g : HasG m t1 t2 h) (hR : HR Tryz.prog φ h w) : Lib.TabIs Tryz.prog w Tryz.tabName .u64 Lib.pow10Tab := by
  obtain ⟨el, fr, e⟩ := tab_of (k := .u64) hR (glob_lt 3 (by omega)) rfl g.tab
  unfold Lib.TabIs World.var?
  rw [tab_named]
  simp [e]
def is1 : AV → Bool
  | .sl _ _ _ _ _ _ es => es == 1
  | _ => false
noncomputable def e_label : Ent := mkEnt 92 1 [] (fun z_ : (List UInt8) => [strOf z_]) (fun _ => []) (fun z_ => z_.length ≤ 9000) (fun z_ => .plain (.bool (labelB z_)))
theorem f_label : e_label.f = 92 := rfl
theorem x_label {U : List Ent} {b : Pos} {st : XS} (hU : tget U 92 = some e_label) (s : List UInt8) (hp : s.length ≤ 9000) : xcall U b 92 [strOf s] st = some (XR.out b st (.plain (.bool (labelB s)))) :=
  xcall_at hU rfl rfl (mkEnt_spec (by rintro a0 b0 h hc; simp only [List.cons.injEq, AV.agg.injEq, AV.tup.injEq, AV.int.injEq, AV.bool.injEq, AV.ptr.injEq, AV.sl.injEq, strOf_eq, byt_eq, map_strOf_eq, true_and, and_true, Int.natCast_inj] at h hc; simp [h, hc]) s hp) (by first | rfl | (split <;> rfl))
noncomputable def e_fmt : Ent := mkEnt 107 2 [] (fun z_ : Int => [int64 z_, int64 10]) (fun _ => []) (fun z_ => -9223372036854775808 ≤ z_ ∧ z_ ≤ 9223372036854775807) (fun z_ => .plain (strOf (Lib.itoa z_)))
theorem f_fmt : e_fmt.f = 107 := rfl
theorem x_fmt {U : List Ent} {b : Pos} {st : XS} (hU : tget U 107 = some e_fmt) (n : Int) (hp : -9223372036854775808 ≤ n ∧ n ≤ 9223372036854775807) : xcall U b 107 [int64 n, int64 10] st = some (XR.out b st (.plain (strOf (Lib.itoa n)))) :=
  xcall_at hU rfl rfl (mkEnt_spec (by rintro a0 b0 h hc; simp only [List.cons.injEq, AV.agg.injEq, AV.tup.injEq, AV.int.injEq, AV.bool.injEq, AV.ptr.injEq, AV.sl.injEq, strOf_eq, byt_eq, map_strOf_eq, true_and, and_true, Int.natCast_inj] at h hc; simp [h, hc]) n hp) (by first | rfl | (split <;> rfl))
noncomputable def e_sjoin : Ent := mkEnt 106 2 [.sl 0] (fun z_ : AV × (List UInt8) × (List (List UInt8)) => [z_.1, strOf z_.2.1]) (fun z_ => [z_.2.2.map strOf]) (fun z_ => is1 z_.1 = true ∧ 0 < z_.2.2.length ∧ z_.2.2.length ≤ 1000 ∧ (Lib.join z_.2.2 z_.2.1).length ≤ 1000000) (fun z_ => .plain (strOf (Lib.join z_.2.2 z_.2.1)))
theorem f_sjoin : e_sjoin.f = 106 := rfl
theorem x_sjoin {U : List Ent} {b : Pos} {st : XS} (hU : tget U 106 = some e_sjoin) (v : AV) (sep : List UInt8) (l : List (List UInt8)) (hp : is1 v = true ∧ 0 < l.length ∧ l.length ≤ 1000 ∧ (Lib.join l sep).length ≤ 1000000) (hq : xqs st.X [v, strOf sep] [.sl 0] = some [l.map strOf]) : xcall U b 106 [v, strOf sep] st = some (XR.out b st (.plain (strOf (Lib.join l sep)))) :=
  xcall_at hU rfl hq (mkEnt_spec (by rintro ⟨a0, a1, a2⟩ ⟨b0, b1, b2⟩ h hc; simp only [List.cons.injEq, AV.agg.injEq, AV.tup.injEq, AV.int.injEq, AV.bool.injEq, AV.ptr.injEq, AV.sl.injEq, strOf_eq, byt_eq, map_strOf_eq, true_and, and_true, Int.natCast_inj] at h hc; simp [h, hc]) (v, sep, l) hp) (by first | rfl | (split <;> rfl))
noncomputable def e_ssplit : Ent := mkEnt 53 2 [] (fun z_ : (List UInt8) => [strOf z_, .str 1 46]) (fun _ => []) (fun z_ => z_.length ≤ 20000) (fun z_ => .row ((cuts 46 z_).map strOf) (fun p => slN p (cuts 46 z_).length 1))
theorem f_ssplit : e_ssplit.f = 53 := rfl
theorem x_ssplit {U : List Ent} {b : Pos} {st : XS} (hU : tget U 53 = some e_ssplit) (s : List UInt8) (hp : s.length ≤ 20000) : xcall U b 53 [strOf s, .str 1 46] st = some (XR.out b st (.row ((cuts 46 s).map strOf) (fun p => slN p (cuts 46 s).length 1))) :=
  xcall_at hU rfl rfl (mkEnt_spec (by rintro a0 b0 h hc; simp only [List.cons.injEq, AV.agg.injEq, AV.tup.injEq, AV.int.injEq, AV.bool.injEq, AV.ptr.injEq, AV.sl.injEq, strOf_eq, byt_eq, map_strOf_eq, true_and, and_true, Int.natCast_inj] at h hc; simp [h, hc]) s hp) (by first | rfl | (split <;> rfl))
noncomputable def e_pint : Ent := mkEnt 95 3 [] (fun z_ : (List UInt8) => [strOf z_, int64 10, int64 64]) (fun _ => []) (fun z_ => z_.length ≤ 20000) (fun z_ => (match Lib.parseIntB 64 z_ with | .ok v => .plain (.tup [int64 v, .nilIfc]) | .range => .blind fun q => .tup [int64 (Lib.intSat 64 z_), .ifc 173 (.ptr q 0 0)] | _ => .blind fun q => .tup [int64 0, .ifc 173 (.ptr q 0 0)]))
theorem f_pint : e_pint.f = 95 := rfl
theorem x_pint {U : List Ent} {b : Pos} {st : XS} (hU : tget U 95 = some e_pint) (s : List UInt8) (hp : s.length ≤ 20000) : xcall U b 95 [strOf s, int64 10, int64 64] st = some (XR.out b st ((match Lib.parseIntB 64 s with | .ok v => .plain (.tup [int64 v, .nilIfc]) | .range => .blind fun q => .tup [int64 (Lib.intSat 64 s), .ifc 173 (.ptr q 0 0)] | _ => .blind fun q => .tup [int64 0, .ifc 173 (.ptr q 0 0)]))) :=
  xcall_at hU rfl rfl (mkEnt_spec (by rintro a0 b0 h hc; simp only [List.cons.injEq, AV.agg.injEq, AV.tup.injEq, AV.int.injEq, AV.bool.injEq, AV.ptr.injEq, AV.sl.injEq, strOf_eq, byt_eq, map_strOf_eq, true_and, and_true, Int.natCast_inj] at h hc; simp [h, hc]) s hp) (by first | rfl | (split <;> rfl))
theorem kit_label : EntK Tryz.prog (HasG m t1 t2) e_label := mkEnt_kit ok_label fun s h _ hs _ => KitFn.kitH fun φ w xs hR hx => by
  obtain ⟨x, rfl, p⟩ := relL_one hx
  obtain rfl := rel_strOf p
  exact (label_any ⟨s.toArray⟩ w (by show s.length ≤ _; omega)).mono fun e w' ⟨he, hb⟩ => ⟨_, he, .bool _, hb⟩
theorem kit_fmt : EntK Tryz.prog (HasG m t1 t2) e_fmt := mkEnt_kit ok_fmt fun n h g hn _ => KitFn.kitH fun φ w xs hR hx => by
  obtain ⟨x, y, rfl, p, q⟩ := relL_two hx
  cases p; cases q
  refine (Tryz.strconv_FormatInt_10 n hn.1 hn.2 w (g.tabIs hR)).mono fun e w' ⟨he, k, os, hw⟩ => ⟨_, he, strOf_relA φ _, ?_⟩
  rw [hw]
  exact ⟨rfl, rfl, rfl, by simp [Go.Sort.grow, World.drewN], fun k hk => by simp [Go.Sort.grow, World.drewN, Array.getElem?_append, hk]⟩
theorem rel46 {φ : Phi} {x : Value} (h : Rel φ (.str 1 46) x) : x = .string ⟨#[46]⟩ := rel_strOf (b := [46]) h
theorem kit_ssplit : EntK Tryz.prog (HasG m t1 t2) e_ssplit := mkEnt_kit ok_ssplit fun s h g hs _ => fun φ w xs hR hz hx => by
  obtain ⟨x, y, rfl, p, q⟩ := relL_two hx
  obtain rfl := rel_strOf p
  obtain rfl := rel46 q
  refine (Tryz.strings_Split ⟨s.toArray⟩ ⟨#[46]⟩ m w (by have : s.length ≤ 20000 := hs; show s.length < _; omega) (g.maxIs hR) (by decide)).mono fun e w' ⟨he, hw⟩ => ?_
  have hp : (Lib.splitB ⟨#[46]⟩ 0 (Lib.countB ⟨s.toArray⟩ ⟨#[46]⟩) ⟨s.toArray⟩).map (·.data.toList) = cuts 46 s := (Lib.splitB_data _ _ _ _).trans (split_cuts 46 s)
  have hlen := Lib.splitB_all ⟨#[46]⟩ (by decide) 0 _ ⟨s.toArray⟩ rfl
  generalize Lib.splitB ⟨#[46]⟩ 0 (Lib.countB ⟨s.toArray⟩ ⟨#[46]⟩) ⟨s.toArray⟩ = ps at *
  have hpl : ps.length = (cuts 46 s).length := by rw [← hp]; simp
  have hb : Below w.heap.size w w' := by rw [hw]; exact (Below.refl _ _).alloc (Nat.le_refl _) _
  have hC : w'.heap[w.heap.size]? = some (.cells (ps.map Value.string).toArray 9 (0, 0)) := by rw [hw]; unfold World.alloc; simp only [Array.getElem?_push_size]
  obtain ⟨r1, r2⟩ := hR.rowAt (l := (cuts 46 s).map strOf) hz hb (Nat.le_refl _) hC (Nat.le_refl _) (fun i v e => by
    rw [List.getElem?_map] at e
    cases q : (cuts 46 s)[i]? with
    | none => rw [q] at e; cases e
    | some u =>
      rw [q] at e; cases e
      rw [← hp, List.getElem?_map] at q
      cases z : ps[i]? with
      | none => rw [z] at q; cases q
      | some pc =>
        rw [z] at q; cases q
        exact ⟨.string pc, by simp [z], fun φ => strOf_rel φ pc⟩)
  rw [← hlen, hpl] at he
  refine ⟨_, _, he, ?_, r1, r2⟩
  exact .sl (putN_new _ _) rfl rfl (Nat.le_refl _) (Nat.le_refl _) (Nat.le_refl _) (fun c => by cases c) (fun _ => ⟨rfl, by simp [hpl]⟩)
theorem kit_pint : EntK Tryz.prog (HasG m t1 t2) e_pint := mkEnt_kit ok_pint fun s h g hs _ => fun φ w xs hR hz hx => by
  obtain ⟨x, y, z, rfl, p, q, q'⟩ := relL_three hx
  obtain rfl := rel_strOf p
  cases q; cases q'
  have hs : s.length ≤ 20000 := hs
  have hsz : (⟨s.toArray⟩ : ByteArray).size = s.length := rfl
  cases hp : Lib.parseIntB 64 s with
  | ok v =>
    refine (Tryz.strconv_ParseInt_10_at64_ok ⟨s.toArray⟩ (by omega) v hp w).mono fun e w' ⟨he, hw⟩ => ?_
    have hb : Below w.heap.size w w' := by
      rcases hw with rfl | ⟨t, rfl⟩
      · exact Below.refl _ _
      · exact Lib.bytesWorld_below _ _ _
    exact ⟨φ, _, he, .tup (.cons (.int _ _) (.cons .nilIfc .nil)), hR.grown hb.size fun b hb' => hb.block b hb', Adv.grown hb.os hb.output hb.tape hb.size fun b hb' => hb.block b hb'⟩
  | range =>
    obtain ⟨te, pe, hv⟩ := g.rngIs hR
    refine (Tryz.strconv_ParseInt_10_at64_range ⟨s.toArray⟩ (by omega) hp _ w hv (.inr ⟨te, pe, rfl⟩)).mono fun e w' ⟨N, he, h1, h2, hb⟩ => ?_
    have hlt : N < w'.heap.size := (Array.getElem?_eq_some_iff.1 h2).1
    obtain ⟨r1, r2⟩ := hR.blind (s := 0) (n := 0) hz hb h1 hlt
    exact ⟨_, _, he, .tup (.cons (.int _ _) (.cons (.ifc (.ptr (putN_new _ _) rfl rfl rfl)) .nil)), r1, r2⟩
  | _ =>
    obtain ⟨te, pe, hv⟩ := g.synIs hR
    refine (Tryz.strconv_ParseInt_no ⟨s.toArray⟩ (by omega) hp _ w hv (.inr ⟨te, pe, rfl⟩)).mono fun e w' ⟨N, he, h1, h2, hb⟩ => ?_
    have hlt : N < w'.heap.size := (Array.getElem?_eq_some_iff.1 h2).1
    obtain ⟨r1, r2⟩ := hR.blind (s := 0) (n := 0) hz hb h1 hlt
    exact ⟨_, _, he, .tup (.cons (.int _ _) (.cons (.ifc (.ptr (putN_new _ _) rfl rfl rfl)) .nil)), r1, r2⟩
theorem kit_sjoin : EntK Tryz.prog (HasG m t1 t2) e_sjoin := mkEnt_kit ok_sjoin fun p h g hp hc => KitFn.kitH fun φ w xs hR hx => by
  obtain ⟨v, sep, l⟩ := p
  obtain ⟨h1, h0, hl, hb⟩ := hp
  have h1 : is1 v = true := h1
  have h0 : 0 < l.length := h0
  have hl : l.length ≤ 1000 := hl
  have hb : (Lib.join l sep).length ≤ 1000000 := hb
  obtain ⟨c, r, e, ⟨v', ev, sc⟩, _⟩ := hc
  cases e
  cases ev
  obtain ⟨x, y, rfl, p, q⟩ := relL_two hx
  obtain rfl := rel_strOf q
  clear q hx
  revert sc
  generalize hL : l.map strOf = L1
  intro sc
  have hLl : L1.length = l.length := by rw [← hL]; simp
  cases sc with
  | nil => cases h1
  | @mk id gg off n cap es ex L k hn =>
    obtain rfl : es = 1 := by simpa [is1] using h1
    have hnl : n = l.length := by rw [← hLl, List.length_take, List.length_drop]; omega
    have row := k.part hn
    rw [← hL] at row
    cases p with
    | sl0 => omega
    | sl e hb' hs hlc hc hlc' hx' ho =>
      rename_i b s m' a c
      obtain ⟨o1, _⟩ := ho (by omega)
      have ea : a = ⟨b, a.off, none⟩ := by cases a; simp at hs hb' ⊢; exact ⟨hb', hs⟩
      have hm : (l.map fun b => (⟨b.toArray⟩ : ByteArray)).map (·.data.toList) = l := by simp [Function.comp_def]
      have hcl : ∀ (j : Nat) x, (l.map fun b => (⟨b.toArray⟩ : ByteArray))[j]? = some x → w.cell? ⟨b, a.off + j, none⟩ = some (.string x) := by
        intro j x hj
        have hjl : j < l.length := by
          have := (List.getElem?_eq_some_iff.1 hj).1; simpa using this
        have e1 := row.one j (by simpa using hjl)
        rw [List.getElem?_map, List.getElem?_eq_getElem hjl] at e1
        obtain ⟨x', f1, f2⟩ := read1_run hR (a := ⟨b, a.off + j, none⟩) e1 e rfl rfl (by show ((a.off + j : Nat) : Int) = _; omega)
        rw [rel_strOf f2] at f1
        rw [f1]
        rw [List.getElem?_map, List.getElem?_eq_getElem hjl] at hj
        cases hj; rfl
      have K := Tryz.strings_Join b a.off c (l.map fun b => (⟨b.toArray⟩ : ByteArray)) ⟨sep.toArray⟩ w hcl (hR.inb _ _ _ _ _ e) (by simp; omega) (by simp; omega) (by rw [hm]; show (Lib.join l sep).length ≤ _; omega)
      rw [hm, List.length_map, ← hnl, ← ea] at K
      exact K.mono fun e w' ⟨he, hw⟩ => ⟨_, he, strOf_relA φ _, hw⟩
end
end Go.Proofs.YtjhgembcdndmkaaGreatDoor.St

namespace Go.Proofs.YtjhgembcdndmkaaGreatDoor.St
open Go Go.Proofs.YtjhgembcdndmkaaGreatDoor.Am Go.Proofs Go.RowKit
attribute [local simp] xr_mov xd_mov xr_pick xd_pick xr_bin xd_bin xr_un xd_un xr_build xd_build xr_convInt xd_convInt xr_mkFn xr_fld xd_fld xr_extract xd_extract xr_lenL xd_lenL xr_nilPtr xd_nilPtr xr_load1 xd_load1 xr_loadN xd_loadN xr_bytesStr xd_bytesStr xr_eqPtr xr_eqIfc xr_new xd_new xr_box xr_buildSl xd_buildSl xd_strBytes xr_mkSl xr_idxAddrSl xd_idxAddrSl xd_sliceSl orU_some orU_none lenSA_str lenSA_strOf lenLA_sl lenLA_nil xfn xcode xdrawn xr_nil xr_kg xr_kgu xr_cmp xcmp_some xr_call xr_store xr_append xd_append xap_sl xap_nl xapq_some xsrc_sl xsrc_nil xapp_grow xapp_room xset xown xnx_some xnp_some xnq_some xd_nil xdl_old xdl_new xda_some xd_call xd_store xd_kg xdn_some xld xal kindOf isAlloc allocs xins xrem xall xput xget xwhole xmine xcont xq xqs xres XS.add XR.out XR.outU XR.ups xsets XR.res Rs.seq Rs.inSc Rs.block mapO tupleA sv_args adv_eq tget eqs8 eqs7 eqi8 eqi7 eqg8 eql8 eqn8 eqn7 cells_strOf cells_int cells_agg cells_bool cells_str cells_sl cells_nil cells_ptr at_int at_str at_strOf at_bool at_sl at_nil at_ptr unstr_strOf unbyt_byt fill_nil fill_cons replA ev_tm ev_vl sv_stv bin_add bin_sub bin_mul bin_lss bin_leq bin_gtr bin_geq bin_eql bin_neq un_not un_neg nth0 nth1 nth2 xst_idxAddrSl xst_idxStr xst_sliceStr xst_sliceSl xsl_sl xbd slN Nat.testBit
def branchB (r : Int) (s : List UInt8) : Bool := decide (0 ≤ r) && (decide (r < 8) && labelB s)
def nameB (r : Int) (s : List UInt8) (n : Int) : Bool := branchB r s && (decide (1 ≤ n) && decide (n ≤ 4611686018427387904))
def stampB (g r : Int) (s : List UInt8) (n i : Int) : Bool := decide (1 ≤ g) && (decide (g ≤ 4611686018427387904) && (nameB r s n && (decide (0 ≤ i) && decide (i < 64))))
noncomputable def e_branch : Ent := mkEnt 41 1 [] (fun z_ : Int × (List UInt8) => [.agg [int64 z_.1, strOf z_.2]]) (fun _ => []) (fun z_ => z_.2.length ≤ 9000) (fun z_ => .plain (.bool (branchB z_.1 z_.2)))
theorem f_branch : e_branch.f = 41 := rfl
theorem x_branch {U : List Ent} {b : Pos} {st : XS} (hU : tget U 41 = some e_branch) (r : Int) (s : List UInt8) (hp : s.length ≤ 9000) : xcall U b 41 [.agg [int64 r, strOf s]] st = some (XR.out b st (.plain (.bool (branchB r s)))) :=
  xcall_at hU rfl rfl (mkEnt_spec (by rintro ⟨a0, a1⟩ ⟨b0, b1⟩ h hc; simp only [List.cons.injEq, AV.agg.injEq, AV.tup.injEq, AV.int.injEq, AV.bool.injEq, AV.ptr.injEq, AV.sl.injEq, strOf_eq, byt_eq, map_strOf_eq, true_and, and_true, Int.natCast_inj] at h hc; simp [h, hc]) (r, s) hp) (by first | rfl | (split <;> rfl))
noncomputable def e_name : Ent := mkEnt 42 1 [] (fun z_ : Int × (List UInt8) × Int => [.agg [int64 z_.1, strOf z_.2.1, int64 z_.2.2]]) (fun _ => []) (fun z_ => z_.2.1.length ≤ 9000) (fun z_ => .plain (.bool (nameB z_.1 z_.2.1 z_.2.2)))
theorem f_name : e_name.f = 42 := rfl
theorem x_name {U : List Ent} {b : Pos} {st : XS} (hU : tget U 42 = some e_name) (r : Int) (s : List UInt8) (n : Int) (hp : s.length ≤ 9000) : xcall U b 42 [.agg [int64 r, strOf s, int64 n]] st = some (XR.out b st (.plain (.bool (nameB r s n)))) :=
  xcall_at hU rfl rfl (mkEnt_spec (by rintro ⟨a0, a1, a2⟩ ⟨b0, b1, b2⟩ h hc; simp only [List.cons.injEq, AV.agg.injEq, AV.tup.injEq, AV.int.injEq, AV.bool.injEq, AV.ptr.injEq, AV.sl.injEq, strOf_eq, byt_eq, map_strOf_eq, true_and, and_true, Int.natCast_inj] at h hc; simp [h, hc]) (r, s, n) hp) (by first | rfl | (split <;> rfl))
noncomputable def e_stamp : Ent := mkEnt 43 1 [] (fun z_ : Int × Int × (List UInt8) × Int × Int => [.agg [int64 z_.1, int64 z_.2.1, strOf z_.2.2.1, int64 z_.2.2.2.1, int64 z_.2.2.2.2]]) (fun _ => []) (fun z_ => z_.2.2.1.length ≤ 9000) (fun z_ => .plain (.bool (stampB z_.1 z_.2.1 z_.2.2.1 z_.2.2.2.1 z_.2.2.2.2)))
theorem f_stamp : e_stamp.f = 43 := rfl
theorem x_stamp {U : List Ent} {b : Pos} {st : XS} (hU : tget U 43 = some e_stamp) (g : Int) (r : Int) (s : List UInt8) (n : Int) (i : Int) (hp : s.length ≤ 9000) : xcall U b 43 [.agg [int64 g, int64 r, strOf s, int64 n, int64 i]] st = some (XR.out b st (.plain (.bool (stampB g r s n i)))) :=
  xcall_at hU rfl rfl (mkEnt_spec (by rintro ⟨a0, a1, a2, a3, a4⟩ ⟨b0, b1, b2, b3, b4⟩ h hc; simp only [List.cons.injEq, AV.agg.injEq, AV.tup.injEq, AV.int.injEq, AV.bool.injEq, AV.ptr.injEq, AV.sl.injEq, strOf_eq, byt_eq, map_strOf_eq, true_and, and_true, Int.natCast_inj] at h hc; simp [h, hc]) (g, r, s, n, i) hp) (by first | rfl | (split <;> rfl))
section
variable {m : Int} {t1 t2 : AV}
theorem branch_ok : EntOK Tryz.prog (HasG m t1 t2) e_branch := mkEnt_ok ok_branch fun p h g hs _ => by
  obtain ⟨r, s⟩ := p
  have hs : s.length ≤ 9000 := hs
  refine plain_of (U := []) (K := [e_label]) (fun _ o => g.more o) (by simp) (by simp [kit_label]) 0 branch_code (by simp [branch_fu]) rfl ?_
  show _ = some (AV.bool (branchB r s))
  unfold branchB
  by_cases c0 : 0 ≤ r <;> by_cases c1 : r < 8 <;> simp [branch_fu, c0, c1, x_label, f_label, hs]
theorem name_ok : EntOK Tryz.prog (HasG m t1 t2) e_name := mkEnt_ok ok_name fun p h g hs _ => by
  obtain ⟨r, s, n⟩ := p
  have hs : s.length ≤ 9000 := hs
  refine plain_of (U := []) (K := [e_branch]) (fun _ o => g.more o) (by simp) (by simp [branch_ok.entK]) 0 name_code (by simp [name_fu]) rfl ?_
  show _ = some (AV.bool (nameB r s n))
  unfold nameB
  cases c0 : branchB r s <;> by_cases c1 : 1 ≤ n <;> simp [name_fu, c0, c1, x_branch, f_branch, hs]
theorem stamp_ok : EntOK Tryz.prog (HasG m t1 t2) e_stamp := mkEnt_ok ok_stamp fun p h g hs _ => by
  obtain ⟨g', r, s, n, i⟩ := p
  have hs : s.length ≤ 9000 := hs
  refine plain_of (U := []) (K := [e_name]) (fun _ o => g.more o) (by simp) (by simp [name_ok.entK]) 0 stamp_code (by simp [stamp_fu]) rfl ?_
  show _ = some (AV.bool (stampB g' r s n i))
  unfold stampB
  by_cases c1 : 1 ≤ g' <;> by_cases c2 : g' ≤ 4611686018427387904 <;> cases c0 : nameB r s n <;> by_cases c3 : 0 ≤ i <;> simp [stamp_fu, c0, c1, c2, c3, x_name, f_name, hs]
end
end Go.Proofs.YtjhgembcdndmkaaGreatDoor.St

namespace Go.Proofs.YtjhgembcdndmkaaGreatDoor.St
open Go Go.Proofs.YtjhgembcdndmkaaGreatDoor.Am Go.Proofs Go.RowKit
attribute [local simp] xr_mov xd_mov xr_pick xd_pick xr_bin xd_bin xr_un xd_un xr_build xd_build xr_convInt xd_convInt xr_mkFn xr_fld xd_fld xr_extract xd_extract xr_lenL xd_lenL xr_nilPtr xd_nilPtr xr_load1 xd_load1 xr_loadN xd_loadN xr_bytesStr xd_bytesStr xr_eqPtr xr_eqIfc xr_new xd_new xr_box xr_buildSl xd_buildSl xd_strBytes xr_mkSl xr_idxAddrSl xd_idxAddrSl xd_sliceSl orU_some orU_none lenSA_str lenSA_strOf lenLA_sl lenLA_nil xfn xcode xdrawn xr_nil xr_kg xr_kgu xr_cmp xcmp_some xr_call xr_store xr_append xd_append xap_sl xap_nl xapq_some xsrc_sl xsrc_nil xapp_grow xapp_room xset xown xnx_some xnp_some xnq_some xd_nil xdl_old xdl_new xda_some xd_call xd_store xd_kg xdn_some xld xal kindOf isAlloc allocs xins xrem xall xput xget xwhole xmine xcont xq xqs xres XS.add XR.out XR.outU XR.ups xsets XR.res Rs.seq Rs.inSc Rs.block mapO tupleA sv_args adv_eq tget eqs8 eqs7 eqi8 eqi7 eqg8 eql8 eqn8 eqn7 cells_strOf cells_int cells_agg cells_bool cells_str cells_sl cells_nil cells_ptr at_int at_str at_strOf at_bool at_sl at_nil at_ptr unstr_strOf unbyt_byt fill_nil fill_cons replA ev_tm ev_vl sv_stv bin_add bin_sub bin_mul bin_lss bin_leq bin_gtr bin_geq bin_eql bin_neq un_not un_neg nth0 nth1 nth2 xst_idxAddrSl xst_idxStr xst_sliceStr xst_sliceSl xsl_sl xbd slN Nat.testBit
def dots (l : List (List UInt8)) : List UInt8 := Lib.join l [46]
def errB (b : Bool) : Int := if b then 0 else 2
def orNil (b : Bool) (l : List UInt8) : List UInt8 := if b then l else []
@[simp] theorem errB_t : errB true = 0 := rfl
@[simp] theorem errB_f : errB false = 2 := rfl
@[simp] theorem orNil_t (l : List UInt8) : orNil true l = l := rfl
@[simp] theorem orNil_f (l : List UInt8) : orNil false l = [] := rfl
def textbB (r : Nat) (s : List UInt8) : List UInt8 := dots [Lib.itoa r, s]
def textnB (r : Nat) (s : List UInt8) (n : Nat) : List UInt8 := dots [textbB r s, Lib.itoa n]
def textB (g r : Nat) (s : List UInt8) (n i : Nat) : List UInt8 := dots [Lib.itoa g, textnB r s n, Lib.itoa i]
theorem branchB_le {r : Int} {s : List UInt8} (h : branchB r s = true) : 0 ≤ r ∧ r < 8 ∧ s.length ≤ 12 := by
  simp [branchB, labelB] at h; omega
theorem nameB_le {r : Int} {s : List UInt8} {n : Int} (h : nameB r s n = true) : branchB r s = true ∧ 1 ≤ n ∧ n ≤ 4611686018427387904 := by
  simp [nameB] at h; exact h
theorem stampB_le {g r : Int} {s : List UInt8} {n i : Int} (h : stampB g r s n i = true) : 1 ≤ g ∧ g ≤ 4611686018427387904 ∧ nameB r s n = true ∧ 0 ≤ i ∧ i < 64 := by
  simp [stampB] at h; exact h
theorem itoa_length_le (n : Nat) (hn : n < 18446744073709551616) : (Lib.itoa (n : Int)).length ≤ 20 := by
  rw [Lib.itoa_nonneg, Lib.decDigits_length]; exact Lib.nDigits_le20 n hn
theorem dots_length_le (x y : List UInt8) : (dots [x, y]).length = x.length + y.length + 1 := by
  unfold dots; simp [Lib.join, List.intercalate]; omega
theorem dots_length_le3 (x y z : List UInt8) : (dots [x, y, z]).length = x.length + y.length + z.length + 2 := by
  unfold dots; simp [Lib.join, List.intercalate]; omega
theorem str46 : strOf [46] = .str 1 46 := rfl
noncomputable def e_digits : Ent := mkEnt 85 1 [] (fun z_ : Int => [int64 z_]) (fun _ => []) (fun z_ => -9223372036854775808 ≤ z_ ∧ z_ ≤ 9223372036854775807) (fun z_ => .plain (strOf (Lib.itoa z_)))
theorem f_digits : e_digits.f = 85 := rfl
theorem x_digits {U : List Ent} {b : Pos} {st : XS} (hU : tget U 85 = some e_digits) (n : Int) (hp : -9223372036854775808 ≤ n ∧ n ≤ 9223372036854775807) : xcall U b 85 [int64 n] st = some (XR.out b st (.plain (strOf (Lib.itoa n)))) :=
  xcall_at hU rfl rfl (mkEnt_spec (by rintro a0 b0 h hc; simp only [List.cons.injEq, AV.agg.injEq, AV.tup.injEq, AV.int.injEq, AV.bool.injEq, AV.ptr.injEq, AV.sl.injEq, strOf_eq, byt_eq, map_strOf_eq, true_and, and_true, Int.natCast_inj] at h hc; simp [h, hc]) n hp) (by first | rfl | (split <;> rfl))
noncomputable def e_text : Ent := mkEnt 84 1 [.sl 0] (fun z_ : AV × (List (List UInt8)) => [z_.1]) (fun z_ => [z_.2.map strOf]) (fun z_ => is1 z_.1 = true ∧ 0 < z_.2.length ∧ z_.2.length ≤ 1000 ∧ (dots z_.2).length ≤ 1000000) (fun z_ => .plain (strOf (dots z_.2)))
theorem f_text : e_text.f = 84 := rfl
theorem x_text {U : List Ent} {b : Pos} {st : XS} (hU : tget U 84 = some e_text) (v : AV) (l : List (List UInt8)) (hp : is1 v = true ∧ 0 < l.length ∧ l.length ≤ 1000 ∧ (dots l).length ≤ 1000000) (hq : xqs st.X [v] [.sl 0] = some [l.map strOf]) : xcall U b 84 [v] st = some (XR.out b st (.plain (strOf (dots l)))) :=
  xcall_at hU rfl hq (mkEnt_spec (by rintro ⟨a0, a1⟩ ⟨b0, b1⟩ h hc; simp only [List.cons.injEq, AV.agg.injEq, AV.tup.injEq, AV.int.injEq, AV.bool.injEq, AV.ptr.injEq, AV.sl.injEq, strOf_eq, byt_eq, map_strOf_eq, true_and, and_true, Int.natCast_inj] at h hc; simp [h, hc]) (v, l) hp) (by first | rfl | (split <;> rfl))
noncomputable def e_textb : Ent := mkEnt 48 1 [] (fun z_ : Int × (List UInt8) => [.agg [int64 z_.1, strOf z_.2]]) (fun _ => []) (fun z_ => z_.2.length ≤ 9000) (fun z_ => .plain (.tup [strOf (orNil (branchB z_.1 z_.2) (textbB z_.1.toNat z_.2)), int64 (errB (branchB z_.1 z_.2))]))
theorem f_textb : e_textb.f = 48 := rfl
theorem x_textb {U : List Ent} {b : Pos} {st : XS} (hU : tget U 48 = some e_textb) (r : Int) (s : List UInt8) (hp : s.length ≤ 9000) : xcall U b 48 [.agg [int64 r, strOf s]] st = some (XR.out b st (.plain (.tup [strOf (orNil (branchB r s) (textbB r.toNat s)), int64 (errB (branchB r s))]))) :=
  xcall_at hU rfl rfl (mkEnt_spec (by rintro ⟨a0, a1⟩ ⟨b0, b1⟩ h hc; simp only [List.cons.injEq, AV.agg.injEq, AV.tup.injEq, AV.int.injEq, AV.bool.injEq, AV.ptr.injEq, AV.sl.injEq, strOf_eq, byt_eq, map_strOf_eq, true_and, and_true, Int.natCast_inj] at h hc; simp [h, hc]) (r, s) hp) (by first | rfl | (split <;> rfl))
noncomputable def e_textn : Ent := mkEnt 55 1 [] (fun z_ : Int × (List UInt8) × Int => [.agg [int64 z_.1, strOf z_.2.1, int64 z_.2.2]]) (fun _ => []) (fun z_ => z_.2.1.length ≤ 9000) (fun z_ => .plain (.tup [strOf (orNil (nameB z_.1 z_.2.1 z_.2.2) (textnB z_.1.toNat z_.2.1 z_.2.2.toNat)), int64 (errB (nameB z_.1 z_.2.1 z_.2.2))]))
theorem f_textn : e_textn.f = 55 := rfl
theorem x_textn {U : List Ent} {b : Pos} {st : XS} (hU : tget U 55 = some e_textn) (r : Int) (s : List UInt8) (n : Int) (hp : s.length ≤ 9000) : xcall U b 55 [.agg [int64 r, strOf s, int64 n]] st = some (XR.out b st (.plain (.tup [strOf (orNil (nameB r s n) (textnB r.toNat s n.toNat)), int64 (errB (nameB r s n))]))) :=
  xcall_at hU rfl rfl (mkEnt_spec (by rintro ⟨a0, a1, a2⟩ ⟨b0, b1, b2⟩ h hc; simp only [List.cons.injEq, AV.agg.injEq, AV.tup.injEq, AV.int.injEq, AV.bool.injEq, AV.ptr.injEq, AV.sl.injEq, strOf_eq, byt_eq, map_strOf_eq, true_and, and_true, Int.natCast_inj] at h hc; simp [h, hc]) (r, s, n) hp) (by first | rfl | (split <;> rfl))
noncomputable def e_texts : Ent := mkEnt 32 1 [] (fun z_ : Int × Int × (List UInt8) × Int × Int => [.agg [int64 z_.1, int64 z_.2.1, strOf z_.2.2.1, int64 z_.2.2.2.1, int64 z_.2.2.2.2]]) (fun _ => []) (fun z_ => z_.2.2.1.length ≤ 9000) (fun z_ => .plain (.tup [strOf (orNil (stampB z_.1 z_.2.1 z_.2.2.1 z_.2.2.2.1 z_.2.2.2.2) (textB z_.1.toNat z_.2.1.toNat z_.2.2.1 z_.2.2.2.1.toNat z_.2.2.2.2.toNat)), int64 (errB (stampB z_.1 z_.2.1 z_.2.2.1 z_.2.2.2.1 z_.2.2.2.2))]))
theorem f_texts : e_texts.f = 32 := rfl
theorem x_texts {U : List Ent} {b : Pos} {st : XS} (hU : tget U 32 = some e_texts) (g : Int) (r : Int) (s : List UInt8) (n : Int) (i : Int) (hp : s.length ≤ 9000) : xcall U b 32 [.agg [int64 g, int64 r, strOf s, int64 n, int64 i]] st = some (XR.out b st (.plain (.tup [strOf (orNil (stampB g r s n i) (textB g.toNat r.toNat s n.toNat i.toNat)), int64 (errB (stampB g r s n i))]))) :=
  xcall_at hU rfl rfl (mkEnt_spec (by rintro ⟨a0, a1, a2, a3, a4⟩ ⟨b0, b1, b2, b3, b4⟩ h hc; simp only [List.cons.injEq, AV.agg.injEq, AV.tup.injEq, AV.int.injEq, AV.bool.injEq, AV.ptr.injEq, AV.sl.injEq, strOf_eq, byt_eq, map_strOf_eq, true_and, and_true, Int.natCast_inj] at h hc; simp [h, hc]) (g, r, s, n, i) hp) (by first | rfl | (split <;> rfl))
section
variable {m : Int} {t1 t2 : AV}
theorem digits_ok : EntOK Tryz.prog (HasG m t1 t2) e_digits := mkEnt_ok ok_digits fun n h g hn _ => by
  refine plain_of (U := []) (K := [e_fmt]) (fun _ o => g.more o) (by simp) (by simp [kit_fmt]) 0 digits_code (by simp [digits_fu]) rfl ?_
  simp [digits_fu, x_fmt, f_fmt, hn.1, hn.2]
theorem text_ok : EntOK Tryz.prog (HasG m t1 t2) e_text := mkEnt_ok ok_text fun p h g hp hc => by
  obtain ⟨v, l⟩ := p
  obtain ⟨h1, h0, hl, hb⟩ := hp
  have h1 : is1 v = true := h1
  have hb : (Lib.join l [46]).length ≤ 1000000 := hb
  obtain ⟨c, r, e, ⟨v', ev, sc⟩, _⟩ := hc
  cases e
  cases ev
  revert sc
  generalize hL : l.map strOf = L1
  intro sc
  cases sc with
  | nil => cases h1
  | @mk id gg off n cap es ex L k hn =>
    obtain rfl : es = 1 := by simpa [is1] using h1
    refine plain_ofX (U := []) (K := [e_sjoin]) (fun _ o => g.more o) (by simp) (by simp [kit_sjoin]) 0 (.start1 k rfl) text_code (by simp [text_fu]) rfl ?_
    simp only [Nat.mul_one] at hL hn
    have hs := fun {U b st} (hU : tget U 106 = some e_sjoin) hq => x_sjoin (U := U) (b := b) (st := st) hU (.sl id gg off n cap ex 1) [46] l ⟨rfl, h0, hl, hb⟩ hq
    simp [text_fu, hs, f_sjoin, ← str46, hn, hL, dots]
theorem textb_ok : EntOK Tryz.prog (HasG m t1 t2) e_textb := mkEnt_ok ok_textb fun p h g hs _ => by
  obtain ⟨r, s⟩ := p
  have hs : s.length ≤ 9000 := hs
  refine plain_of (U := [e_digits, e_text]) (K := [e_branch]) (fun _ o => g.more o) (by simp [digits_ok, text_ok]) (by simp [branch_ok.entK]) 0 textb_code (by simp [textb_fu]) rfl ?_
  show _ = some (AV.tup [strOf (orNil (branchB r s) (textbB r.toNat s)), int64 (errB (branchB r s))])
  cases hb : branchB r s
  · simp [textb_fu, x_branch, f_branch, hs, hb, strOf_nil]
  · obtain ⟨q0, q8, ql⟩ := branchB_le hb
    obtain ⟨n, rfl⟩ := Int.eq_ofNat_of_zero_le q0
    have il := itoa_length_le n (by omega)
    have hd : (dots [Lib.itoa n, s]).length ≤ 1000000 := by rw [dots_length_le]; omega
    simp [textb_fu, x_branch, f_branch, x_digits, f_digits, x_text (l := [Lib.itoa n, s]), f_text, hs, hb, hd, is1, textbB, show (n : Int) ≤ 9223372036854775807 by omega, show -9223372036854775808 ≤ (n : Int) by omega]
theorem textn_ok : EntOK Tryz.prog (HasG m t1 t2) e_textn := mkEnt_ok ok_textn fun p h g hs _ => by
  obtain ⟨r, s, n⟩ := p
  have hs : s.length ≤ 9000 := hs
  refine plain_of (U := [e_digits, e_text]) (K := [e_name, e_textb, e_digits, e_text]) (fun _ o => g.more o) (by simp [digits_ok, text_ok]) (by simp [name_ok.entK, textb_ok.entK, digits_ok.entK, text_ok.entK]) 0 textn_code (by simp [textn_fu]) rfl ?_
  show _ = some (AV.tup [strOf (orNil (nameB r s n) (textnB r.toNat s n.toNat)), int64 (errB (nameB r s n))])
  cases hb : nameB r s n
  · simp [textn_fu, x_name, f_name, hs, hb, strOf_nil]
  · obtain ⟨qb, qn1, qn2⟩ := nameB_le hb
    obtain ⟨q0, q8, ql⟩ := branchB_le qb
    obtain ⟨r, rfl⟩ := Int.eq_ofNat_of_zero_le q0
    obtain ⟨n, rfl⟩ := Int.eq_ofNat_of_zero_le (show (0 : Int) ≤ n by omega)
    have il := itoa_length_le r (by omega)
    have il2 := itoa_length_le n (by omega)
    have hd : (dots [textbB r s, Lib.itoa n]).length ≤ 1000000 := by rw [dots_length_le, textbB, dots_length_le]; omega
    simp [textn_fu, x_name, f_name, x_textb, f_textb, x_digits, f_digits, x_text (l := [textbB r s, Lib.itoa n]), f_text, hs, hb, qb, hd, is1, textnB, show (n : Int) ≤ 9223372036854775807 by omega, show -9223372036854775808 ≤ (n : Int) by omega]
theorem textnB_length_le {r : Nat} {s : List UInt8} {n : Nat} (hr : r < 18446744073709551616) (hn : n < 18446744073709551616) : (textnB r s n).length ≤ s.length + 50 := by
  have il := itoa_length_le r hr
  have il2 := itoa_length_le n hn
  rw [textnB, dots_length_le, textbB, dots_length_le]; omega
theorem texts_ok : EntOK Tryz.prog (HasG m t1 t2) e_texts := mkEnt_ok ok_texts fun p h gg hs _ => by
  obtain ⟨g, r, s, n, i⟩ := p
  have hs : s.length ≤ 9000 := hs
  refine plain_of (U := [e_digits, e_text]) (K := [e_stamp, e_textn, e_digits, e_text]) (fun _ o => gg.more o) (by simp [digits_ok, text_ok]) (by simp [stamp_ok.entK, textn_ok.entK, digits_ok.entK, text_ok.entK]) 0 texts_code (by simp [texts_fu]) rfl ?_
  show _ = some (AV.tup [strOf (orNil (stampB g r s n i) (textB g.toNat r.toNat s n.toNat i.toNat)), int64 (errB (stampB g r s n i))])
  cases hb : stampB g r s n i
  · simp [texts_fu, x_stamp, f_stamp, hs, hb, strOf_nil]
  · obtain ⟨qg1, qg2, qn, qi1, qi2⟩ := stampB_le hb
    obtain ⟨qb, qn1, qn2⟩ := nameB_le qn
    obtain ⟨q0, q8, ql⟩ := branchB_le qb
    obtain ⟨r, rfl⟩ := Int.eq_ofNat_of_zero_le q0
    obtain ⟨n, rfl⟩ := Int.eq_ofNat_of_zero_le (show (0 : Int) ≤ n by omega)
    obtain ⟨g, rfl⟩ := Int.eq_ofNat_of_zero_le (show (0 : Int) ≤ g by omega)
    obtain ⟨i, rfl⟩ := Int.eq_ofNat_of_zero_le qi1
    have il := itoa_length_le g (by omega)
    have il2 := itoa_length_le i (by omega)
    have tl := textnB_length_le (s := s) (show r < 18446744073709551616 by omega) (show n < 18446744073709551616 by omega)
    have hd : (dots [Lib.itoa g, textnB r s n, Lib.itoa i]).length ≤ 1000000 := by rw [dots_length_le3]; omega
    simp [texts_fu, x_stamp, f_stamp, x_textn, f_textn, x_digits, f_digits, x_text (l := [Lib.itoa g, textnB r s n, Lib.itoa i]), f_text, hs, hb, qn, hd, is1, textB, show (g : Int) ≤ 9223372036854775807 by omega, show -9223372036854775808 ≤ (g : Int) by omega, show (i : Int) ≤ 9223372036854775807 by omega, show -9223372036854775808 ≤ (i : Int) by omega]
end
end Go.Proofs.YtjhgembcdndmkaaGreatDoor.St
