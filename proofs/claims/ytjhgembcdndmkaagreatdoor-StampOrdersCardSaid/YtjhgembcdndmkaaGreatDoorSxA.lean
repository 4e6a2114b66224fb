import Derived.Test.YtjhgembcdndmkaaGreatDoorProg
import Derived.KernelRfl
import Derived.WalkKit
import Derived.Outline
import Derived.OwnWalk
import Derived.IntWalk
import Derived.WalkLawsBesides
import Derived.Laws.IdiomStrings
import Derived.Lib.Hide
import Derived.Shelf.LaysM
import Derived.Shelf.LaysC
import Derived.Shelf.Strings.OnBuilder
import Derived.Shelf.Strconv.Itoa4
import Derived.Shelf.Strconv.ErrVarParseInt
import Derived.Shelf.Strconv.ParseIntPublic10
import Derived.Shelf.Strings.Cut
import Derived.Shelf.Strings.SplitShaped
import Derived.Test.YtjhgembcdndmkaaGreatDoorRows
import Derived.Lib.ParseIntBTie
import Derived.Lib.ParseIntBCases
import Derived.Lib.Split
import Derived.Lib.SplitLaws
import Derived.Lib.ItoaLen
import Derived.Lib.ItoaMem
import Derived.Lib.Join
import Derived.Shelf.SlSortCmp.WholeK
import Derived.Shelf.SlGeneric
import Derived.Ground.SlsfProg
import Derived.Shelf.SlSortCmp.NoneTotal
import Derived.Lib.LaidTab
import Derived.Test.YtjhgembcdndmkaaGreatDoorAmK
/- THE WALK'S PARTS, part A: what the functions of the law compute, over the abstract machine that stands beside this text. No condition. -/
set_option linter.unusedSimpArgs false
set_option linter.unusedVariables false
namespace Go.Proofs.YtjhgembcdndmkaaGreatDoor.St
open Go Go.Proofs.YtjhgembcdndmkaaGreatDoor.Am Go.Proofs
theorem ok_known : okCall Tryz.prog 8 = true := by kernel_rfl
end Go.Proofs.YtjhgembcdndmkaaGreatDoor.St

namespace Go.Proofs.YtjhgembcdndmkaaGreatDoor.St
open Go Go.Proofs.YtjhgembcdndmkaaGreatDoor.Am Go.Proofs
noncomputable def cmp_fu : Fu := ⟨[.tmp (Pos.ofNat 4)], 25, (.seq (.region [k 2 (.box (tm 0)) 0, k 3 (.box (tm 1)) 0, k 4 (.mov (vl (int64 (0)))) 0]) (.seq (.seq (.region [k 5 (.loadN 5 (tm 2)) 0, k 6 (.loadN 5 (tm 3)) 0, k 7 (.bin .eql (.flat [.int, .int, .str, .int, .int]) false (tm 5) (tm 6)) 0]) (.cond (tm 7) (.seq (.region [k 4 (.mov (vl (int64 (0)))) 0]) .ret) .skip)) (.seq (.drawn [k 8 (.fieldAddr 0 (tm 2)) 0, k 9 (.load1 (tm 8)) 1, k 10 (.fieldAddr 0 (tm 3)) 0, k 11 (.load1 (tm 10)) 4, k 12 (.call (.value (vl (.fn (.func 79) [] []))) [(tm 9), (tm 11)]) 15, k 13 (.fieldAddr 1 (tm 2)) 0, k 14 (.loadN 3 (tm 13)) 32, k 15 (.fieldAddr 1 (tm 3)) 0, k 16 (.loadN 3 (tm 15)) 128, k 17 (.call (.value (vl (.fn (.func 34) [] []))) [(tm 14), (tm 16)]) 511, k 18 (.fieldAddr 4 (tm 2)) 0, k 19 (.load1 (tm 18)) 1024, k 20 (.fieldAddr 4 (tm 3)) 0, k 21 (.load1 (tm 20)) 4096, k 22 (.call (.value (vl (.fn (.func 79) [] []))) [(tm 19), (tm 21)]) 16383, k 23 (.build [(int64 (0)), (int64 (0)), (int64 (0))] [(0, 1, (tm 12)), (1, 1, (tm 17)), (2, 1, (tm 22))]) 32767, k 24 (.call (.value (vl (.fn (.func 78) [] []))) [(tm 23)]) 65535, k 4 (.mov (tm 24)) 131071]) .ret)))⟩
theorem cmp_code : compFn Tryz.prog 29 = some cmp_fu := by kernel_rfl
noncomputable def cmpn_fu : Fu := ⟨[.tmp (Pos.ofNat 4)], 17, (.seq (.region [k 2 (.box (tm 0)) 0, k 3 (.box (tm 1)) 0, k 4 (.mov (vl (int64 (0)))) 0]) (.seq (.drawn [k 5 (.fieldAddr 0 (tm 2)) 0, k 6 (.loadN 2 (tm 5)) 1, k 7 (.fieldAddr 0 (tm 3)) 0, k 8 (.loadN 2 (tm 7)) 4, k 9 (.call (.value (vl (.fn (.func 36) [] []))) [(tm 6), (tm 8)]) 15, k 10 (.fieldAddr 2 (tm 2)) 0, k 11 (.load1 (tm 10)) 32, k 12 (.fieldAddr 2 (tm 3)) 0, k 13 (.load1 (tm 12)) 128, k 14 (.call (.value (vl (.fn (.func 79) [] []))) [(tm 11), (tm 13)]) 511, k 15 (.build [(int64 (0)), (int64 (0)), (int64 (0))] [(0, 1, (tm 9)), (1, 1, (tm 14))]) 1023, k 16 (.call (.value (vl (.fn (.func 78) [] []))) [(tm 15)]) 2047, k 4 (.mov (tm 16)) 4095]) .ret))⟩
theorem cmpn_code : compFn Tryz.prog 34 = some cmpn_fu := by kernel_rfl
noncomputable def cmpb_fu : Fu := ⟨[.tmp (Pos.ofNat 4)], 17, (.seq (.region [k 2 (.box (tm 0)) 0, k 3 (.box (tm 1)) 0, k 4 (.mov (vl (int64 (0)))) 0]) (.seq (.drawn [k 5 (.fieldAddr 0 (tm 2)) 0, k 6 (.load1 (tm 5)) 1, k 7 (.fieldAddr 0 (tm 3)) 0, k 8 (.load1 (tm 7)) 4, k 9 (.call (.value (vl (.fn (.func 79) [] []))) [(tm 6), (tm 8)]) 15, k 10 (.fieldAddr 1 (tm 2)) 0, k 11 (.load1 (tm 10)) 32, k 12 (.fieldAddr 1 (tm 3)) 0, k 13 (.load1 (tm 12)) 128, k 14 (.call (.value (vl (.fn (.func 87) [] []))) [(tm 11), (tm 13)]) 511, k 15 (.build [(int64 (0)), (int64 (0)), (int64 (0))] [(0, 1, (tm 9)), (1, 1, (tm 14))]) 1023, k 16 (.call (.value (vl (.fn (.func 78) [] []))) [(tm 15)]) 2047, k 4 (.mov (tm 16)) 4095]) .ret))⟩
theorem cmpb_code : compFn Tryz.prog 36 = some cmpb_fu := by kernel_rfl
noncomputable def first_0 : C := (.seq (.region [k 8 (.bin .lss .other true (tm 7) (vl (int64 (3)))) 0]) (.seq (.cond (tm 8) .skip (.exit 0)) (.seq (.block 1 (.seq (.region [k 9 (.idxArr 3 1 false (tm 6) (tm 7)) 0, k 5 (.mov (tm 9)) 0]) (.seq (.region [k 10 (.mov (tm 5)) 0, k 11 (.bin .neq .other true (tm 10) (vl (int64 (0)))) 0]) (.cond (tm 11) (.seq (.region [k 12 (.mov (tm 5)) 0, k 3 (.mov (tm 12)) 0]) (.exit 0)) .skip)))) (.region [k 13 (.bin .add .other true (tm 7) (vl (int64 (1)))) 0, k 7 (.mov (tm 13)) 0]))))
noncomputable def first_fu : Fu := ⟨[.tmp (Pos.ofNat 2)], 15, (.seq (.region [k 1 (.box (tm 0)) 0, k 2 (.mov (vl (int64 (0)))) 0]) (.scope (.seq (.region [k 3 (.mov (vl (int64 (0)))) 0]) (.seq .label (.seq (.seq (.region [k 6 (.loadN 3 (tm 1)) 0, k 7 (.mov (vl (int64 (0)))) 0]) (.block 0 (.loop first_0))) (.seq (.region [k 14 (.mov (tm 3)) 0, k 2 (.mov (tm 14)) 0]) .ret))))))⟩
theorem first_code : compFn Tryz.prog 78 = some first_fu := by kernel_rfl
noncomputable def snum_fu : Fu := ⟨[.tmp (Pos.ofNat 4)], 13, (.seq (.region [k 4 (.mov (vl (int64 (0)))) 0]) (.seq (.block 0 (.seq (.region [k 6 (.mov (tm 0)) 0, k 7 (.mov (tm 1)) 0, k 8 (.bin .lss .other false (tm 6) (tm 7)) 0, k 5 (.mov (tm 8)) 0]) (.cond (tm 5) (.seq (.region [k 4 (.mov (vl (int64 (-1)))) 0]) .ret) (.seq (.region [k 10 (.mov (tm 0)) 0, k 11 (.mov (tm 1)) 0, k 12 (.bin .gtr .other false (tm 10) (tm 11)) 0, k 9 (.mov (tm 12)) 0]) (.cond (tm 9) (.seq (.region [k 4 (.mov (vl (int64 (1)))) 0]) .ret) .skip))))) (.seq (.region [k 4 (.mov (vl (int64 (0)))) 0]) .ret)))⟩
theorem snum_code : compFn Tryz.prog 79 = some snum_fu := by kernel_rfl
noncomputable def kcmp_fu : Fu := ⟨[.tmp (Pos.ofNat 4)], 8, (.seq (.region [k 4 (.mov (vl (int64 (0)))) 0]) (.seq (.region [k 5 (.mov (tm 0)) 0, k 6 (.mov (tm 1)) 0, k 7 (.call (.value (vl (.fn (.func 108) [] []))) [(tm 5), (tm 6)]) 0, k 4 (.mov (tm 7)) 0]) .ret))⟩
theorem kcmp_code : compFn Tryz.prog 87 = some kcmp_fu := by kernel_rfl
noncomputable def scmp_fu : Fu := ⟨[.tmp (Pos.ofNat 4)], 8, (.seq (.region [k 4 (.mov (vl (int64 (0)))) 0]) (.seq (.region [k 5 (.mov (tm 0)) 0, k 6 (.mov (tm 1)) 0, k 7 (.call (.value (vl (.fn (.func 124) [] []))) [(tm 5), (tm 6)]) 0, k 4 (.mov (tm 7)) 0]) .ret))⟩
theorem scmp_code : compFn Tryz.prog 108 = some scmp_fu := by kernel_rfl
noncomputable def bcmp_fu : Fu := ⟨[.tmp (Pos.ofNat 4)], 8, (.seq (.region [k 4 (.mov (vl (int64 (0)))) 0]) (.seq (.region [k 5 (.mov (tm 0)) 0, k 6 (.mov (tm 1)) 0, k 7 (.ext 3 [(tm 5), (tm 6)]) 0, k 4 (.mov (tm 7)) 0]) .ret))⟩
theorem bcmp_code : compFn Tryz.prog 124 = some bcmp_fu := by kernel_rfl
theorem ok_cmp : okCall Tryz.prog 29 = true := by kernel_rfl
theorem ok_cmpn : okCall Tryz.prog 34 = true := by kernel_rfl
theorem ok_cmpb : okCall Tryz.prog 36 = true := by kernel_rfl
theorem ok_first : okCall Tryz.prog 78 = true := by kernel_rfl
theorem ok_snum : okCall Tryz.prog 79 = true := by kernel_rfl
theorem ok_kcmp : okCall Tryz.prog 87 = true := by kernel_rfl
theorem ok_scmp : okCall Tryz.prog 108 = true := by kernel_rfl
theorem ok_bcmp : okCall Tryz.prog 124 = true := by kernel_rfl
end Go.Proofs.YtjhgembcdndmkaaGreatDoor.St

namespace Go.Proofs.YtjhgembcdndmkaaGreatDoor.St
open Go Go.Proofs.YtjhgembcdndmkaaGreatDoor.Am Go.Proofs
noncomputable def orders_0 : C := (.seq (.seq (.region [k 22 (.mov (tm 6)) 0, k 23 (.bin .lss .other true (tm 22) (vl (int64 (3)))) 0]) (.cond (tm 23) .skip (.exit 2))) (.seq (.block 3 (.seq (.drawn [k 26 (.mov (tm 5)) 0, k 27 (.idxAddrArr 3 5 (tm 2) (tm 26)) 1, k 28 (.loadN 5 (tm 27)) 3, k 29 (.mov (tm 6)) 0, k 30 (.idxAddrArr 3 5 (tm 2) (tm 29)) 8, k 31 (.loadN 5 (tm 30)) 24, k 7 (.new [(int64 (0)), (int64 (0)), (.str 0 0), (int64 (0)), (int64 (0))]) 0, k 8 (.new [(int64 (0)), (int64 (0)), (.str 0 0), (int64 (0)), (int64 (0))]) 0, kn (.store 5 (tm 7) (tm 28)) 199, kn (.store 5 (tm 8) (tm 31)) 511]) (.seq (.drawn [k 32 (.loadN 5 (tm 7)) 0, k 33 (.loadN 5 (tm 8)) 0, k 34 (.call (.value (vl (.fn (.func 29) [] []))) [(tm 32), (tm 33)]) 3, k 35 (.loadN 5 (tm 7)) 0, k 36 (.loadN 5 (tm 8)) 0, k 37 (.call (.value (vl (.fn (.func 33) [] []))) [(tm 35), (tm 36)]) 31, k 38 (.bin .neq .other false (tm 34) (tm 37)) 63, k 39 (.mov (tm 38)) 127, kg 40 39 false (.fieldAddr 1 (tm 7)) 255, kg 41 39 false (.loadN 3 (tm 40)) 511, kg 42 39 false (.fieldAddr 1 (tm 8)) 255, kg 43 39 false (.loadN 3 (tm 42)) 1279, kg 44 39 false (.call (.value (vl (.fn (.func 34) [] []))) [(tm 41), (tm 43)]) 4095, kg 45 39 false (.fieldAddr 1 (tm 7)) 255, kg 46 39 false (.loadN 3 (tm 45)) 8447, kg 47 39 false (.fieldAddr 1 (tm 8)) 255, kg 48 39 false (.loadN 3 (tm 47)) 33023, kg 49 39 false (.call (.value (vl (.fn (.func 35) [] []))) [(tm 46), (tm 48)]) 131071, kg 50 39 false (.bin .neq .other false (tm 44) (tm 49)) 262143, k 51 (.pick (tm 39) (vl (.bool true)) (tm 50)) 524287, k 52 (.mov (tm 51)) 1048575, kg 53 52 false (.fieldAddr 1 (tm 7)) 2097151, kg 54 52 false (.fieldAddr 0 (tm 53)) 4194303, kg 55 52 false (.loadN 2 (tm 54)) 8388607, kg 56 52 false (.fieldAddr 1 (tm 8)) 2097151, kg 57 52 false (.fieldAddr 0 (tm 56)) 18874367, kg 58 52 false (.loadN 2 (tm 57)) 52428799, kg 59 52 false (.call (.value (vl (.fn (.func 36) [] []))) [(tm 55), (tm 58)]) 134217727, kg 60 52 false (.fieldAddr 1 (tm 7)) 2097151, kg 61 52 false (.fieldAddr 0 (tm 60)) 270532607, kg 62 52 false (.loadN 2 (tm 61)) 807403519, kg 63 52 false (.fieldAddr 1 (tm 8)) 2097151, kg 64 52 false (.fieldAddr 0 (tm 63)) 2149580799, kg 65 52 false (.loadN 2 (tm 64)) 6444548095, kg 66 52 false (.call (.value (vl (.fn (.func 37) [] []))) [(tm 62), (tm 65)]) 17179869183, kg 67 52 false (.bin .neq .other false (tm 59) (tm 66)) 34359738367, k 68 (.pick (tm 52) (vl (.bool true)) (tm 67)) 68719476735]) (.cond (tm 68) (.seq (.region [k 4 (.mov (vl (.bool false))) 0]) .ret) .skip)))) (.region [k 24 (.mov (tm 6)) 0, k 25 (.bin .add .other true (tm 24) (vl (int64 (1)))) 0, k 6 (.mov (tm 25)) 0])))
noncomputable def orders_1 : C := (.seq (.seq (.region [k 18 (.mov (tm 5)) 0, k 19 (.bin .lss .other true (tm 18) (vl (int64 (3)))) 0]) (.cond (tm 19) .skip (.exit 0))) (.seq (.block 1 (.seq (.region [k 6 (.mov (vl (int64 (0)))) 0]) (.block 2 (.loop orders_0)))) (.region [k 20 (.mov (tm 5)) 0, k 21 (.bin .add .other true (tm 20) (vl (int64 (1)))) 0, k 5 (.mov (tm 21)) 0])))
noncomputable def orders_2 : C := (.seq (.seq (.region [k 97 (.mov (tm 12)) 0, k 98 (.mov (tm 1)) 0, k 99 (.lenL (tm 98)) 0, k 100 (.bin .lss .other false (tm 97) (tm 99)) 0]) (.cond (tm 100) .skip (.exit 4))) (.seq (.block 5 (.seq (.drawn [k 103 (.mov (tm 9)) 0, k 104 (.mov (tm 12)) 0, k 105 (.idxAddrSl 3 (tm 103) (tm 104)) 3, k 106 (.loadN 3 (tm 105)) 7, k 107 (.mov (tm 1)) 0, k 108 (.mov (tm 12)) 0, k 109 (.idxAddrSl 3 (tm 107) (tm 108)) 48, k 110 (.loadN 3 (tm 109)) 112, k 111 (.bin .neq (.flat [.int, .str, .int]) false (tm 106) (tm 110)) 255]) (.cond (tm 111) (.seq (.region [k 4 (.mov (vl (.bool false))) 0]) .ret) .skip))) (.region [k 101 (.mov (tm 12)) 0, k 102 (.bin .add .other true (tm 101) (vl (int64 (1)))) 0, k 12 (.mov (tm 102)) 0])))
noncomputable def orders_3 : C := (.seq (.seq (.region [k 112 (.mov (tm 13)) 0, k 113 (.mov (tm 10)) 0, k 114 (.lenL (tm 113)) 0, k 115 (.bin .lss .other false (tm 112) (tm 114)) 0]) (.cond (tm 115) .skip (.exit 6))) (.seq (.block 7 (.seq (.drawn [k 118 (.mov (tm 10)) 0, k 119 (.mov (tm 13)) 0, k 120 (.idxAddrSl 3 (tm 118) (tm 119)) 3, k 121 (.loadN 3 (tm 120)) 7, k 122 (.mov (tm 11)) 0, k 123 (.mov (tm 13)) 0, k 124 (.idxAddrSl 3 (tm 122) (tm 123)) 48, k 125 (.loadN 3 (tm 124)) 112, k 126 (.bin .neq (.flat [.int, .str, .int]) false (tm 121) (tm 125)) 255]) (.cond (tm 126) (.seq (.region [k 4 (.mov (vl (.bool false))) 0]) .ret) .skip))) (.region [k 116 (.mov (tm 13)) 0, k 117 (.bin .add .other true (tm 116) (vl (int64 (1)))) 0, k 13 (.mov (tm 117)) 0])))
noncomputable def orders_fu : Fu := ⟨[.tmp (Pos.ofNat 4)], 128, (.seq (.region [k 2 (.box (tm 0)) 0, k 4 (.mov (vl (.bool false))) 0]) (.seq (.seq (.region [k 14 (.mov (tm 1)) 0, k 15 (.lenL (tm 14)) 0, k 16 (.bin .gtr .other true (tm 15) (vl (int64 (300)))) 0]) (.cond (tm 16) (.seq (.region [k 17 (.call (.value (vl (.fn (.func 8) [] []))) []) 0, k 4 (.mov (tm 17)) 0]) .ret) .skip)) (.seq (.seq (.region [k 5 (.mov (vl (int64 (0)))) 0]) (.block 0 (.loop orders_1))) (.seq (.region [k 69 (.mov (tm 1)) 0, k 70 (.append 3 32 (vl .nilSl) (tm 69)) 0, k 71 (.call (.value (vl (.fn (.func 38) [] []))) []) 0, k 72 (.partN 1 3 (tm 71)) 0, k 73 (.buildSl 1 3 [(int64 (0)), (.str 0 0), (int64 (0))] [(0, 3, (tm 72))]) 0, k 74 (.append 3 32 (tm 70) (tm 73)) 0, k 9 (.mov (tm 74)) 0]) (.seq (.region [k 75 (.mov (tm 9)) 0, k 76 (.mov (tm 1)) 0, k 77 (.lenL (tm 76)) 0, k 78 (.sliceSl 3 (tm 75) none (some (tm 77)) none) 0, k 79 (.call (.value (vl (.fn (.func 39) [] []))) [(tm 78)]) 0, k 10 (.mov (tm 79)) 0]) (.seq (.region [k 80 (.mov (tm 1)) 0, k 81 (.call (.value (vl (.fn (.func 40) [] []))) [(tm 80)]) 0, k 11 (.mov (tm 81)) 0]) (.seq (.seq (.drawn [k 82 (.mov (tm 10)) 0, k 83 (.lenL (tm 82)) 1, k 84 (.mov (tm 11)) 0, k 85 (.lenL (tm 84)) 4, k 86 (.bin .neq .other false (tm 83) (tm 85)) 15, k 87 (.mov (tm 86)) 31, kg 88 87 false (.mov (tm 9)) 63, kg 89 87 false (.mov (tm 1)) 63, kg 90 87 false (.lenL (tm 89)) 191, kg 91 87 false (.idxAddrSl 3 (tm 88) (tm 90)) 511, kg 92 87 false (.loadN 3 (tm 91)) 1023, kg 93 87 false (.call (.value (vl (.fn (.func 38) [] []))) []) 63, kg 94 87 false (.partN 1 3 (tm 93)) 2111, kg 95 87 false (.bin .neq (.flat [.int, .str, .int]) false (tm 92) (tm 94)) 8191, k 96 (.pick (tm 87) (vl (.bool true)) (tm 95)) 16383]) (.cond (tm 96) (.seq (.region [k 4 (.mov (vl (.bool false))) 0]) .ret) .skip)) (.seq (.seq (.region [k 12 (.mov (vl (int64 (0)))) 0]) (.block 4 (.loop orders_2))) (.seq (.seq (.region [k 13 (.mov (vl (int64 (0)))) 0]) (.block 6 (.loop orders_3))) (.seq (.region [k 127 (.call (.value (vl (.fn (.func 8) [] []))) []) 0, k 4 (.mov (tm 127)) 0]) .ret))))))))))⟩
theorem orders_code : compFn Tryz.prog 6 = some orders_fu := by kernel_rfl
noncomputable def one_fu : Fu := ⟨[.cellN (Pos.ofNat 0) 5], 4, (.seq (.region [k 0 (.new [(int64 (0)), (int64 (0)), (.str 0 0), (int64 (0)), (int64 (0))]) 0]) (.seq (.region [k 1 (.build [(int64 (0)), (.str 0 0)] [(0, 1, (vl (int64 (1)))), (1, 1, (vl (.str 4 1835100526)))]) 0, k 2 (.build [(int64 (0)), (.str 0 0), (int64 (0))] [(0, 2, (tm 1)), (2, 1, (vl (int64 (3))))]) 0, k 3 (.build [(int64 (0)), (int64 (0)), (.str 0 0), (int64 (0)), (int64 (0))] [(0, 1, (vl (int64 (5)))), (1, 3, (tm 2))]) 0, kn (.store 5 (tm 0) (tm 3)) 0]) .ret))⟩
theorem one_code : compFn Tryz.prog 38 = some one_fu := by kernel_rfl
noncomputable def sorted_fu : Fu := ⟨[.tmp (Pos.ofNat 2)], 10, (.seq (.region [k 2 (.mov (vl .nilSl)) 0]) (.seq (.region [k 4 (.mov (tm 0)) 0, k 5 (.call (.value (vl (.fn (.func 89) [] []))) [(tm 4)]) 0, k 3 (.mov (tm 5)) 0]) (.seq (.region [k 6 (.mov (tm 3)) 0, k 7 (.call (.value (vl (.fn (.func 90) [] []))) [(tm 6), (vl (.fn (.func 34) [] []))]) 0]) (.seq (.region [k 8 (.mov (tm 3)) 0, k 9 (.call (.value (vl (.fn (.func 91) [] []))) [(tm 8)]) 0, k 2 (.mov (tm 9)) 0]) .ret))))⟩
theorem sorted_code : compFn Tryz.prog 39 = some sorted_fu := by kernel_rfl
noncomputable def clone_fu : Fu := ⟨[.tmp (Pos.ofNat 2)], 8, (.seq (.region [k 2 (.mov (vl .nilSl)) 0]) (.seq (.seq (.region [k 3 (.mov (tm 0)) 0, k 4 (.bin .eql .slice true (tm 3) (vl .nilSl)) 0]) (.cond (tm 4) (.seq (.region [k 2 (.mov (vl .nilSl)) 0]) .ret) .skip)) (.seq (.region [k 5 (.buildSl 0 3 [(int64 (0)), (.str 0 0), (int64 (0))] []) 0, k 6 (.mov (tm 0)) 0, k 7 (.append 3 32 (tm 5) (tm 6)) 0, k 2 (.mov (tm 7)) 0]) .ret)))⟩
theorem clone_code : compFn Tryz.prog 89 = some clone_fu := by kernel_rfl
noncomputable def compact_0 : C := (.seq (.seq (.region [k 29 (.mov (tm 5)) 0, k 30 (.mov (tm 4)) 0, k 31 (.lenL (tm 30)) 0, k 32 (.bin .lss .other false (tm 29) (tm 31)) 0]) (.cond (tm 32) .skip (.exit 2))) (.seq (.block 3 (.seq (.drawn [k 35 (.mov (tm 4)) 0, k 36 (.mov (tm 5)) 0, k 37 (.idxAddrSl 3 (tm 35) (tm 36)) 3, k 38 (.loadN 3 (tm 37)) 7, k 39 (.mov (tm 4)) 0, k 40 (.mov (tm 5)) 0, k 41 (.bin .sub .other true (tm 40) (vl (int64 (1)))) 32, k 42 (.idxAddrSl 3 (tm 39) (tm 41)) 112, k 43 (.loadN 3 (tm 42)) 240, k 44 (.bin .neq (.flat [.int, .str, .int]) false (tm 38) (tm 43)) 511]) (.cond (tm 44) (.seq (.region [k 45 (.mov (tm 0)) 0, k 46 (.mov (tm 3)) 0, k 47 (.mov (tm 4)) 0, k 48 (.mov (tm 5)) 0, k 49 (.idxAddrSl 3 (tm 47) (tm 48)) 0, k 50 (.loadN 3 (tm 49)) 0, k 51 (.idxAddrSl 3 (tm 45) (tm 46)) 0, kn (.store 3 (tm 51) (tm 50)) 0]) (.region [k 52 (.mov (tm 3)) 0, k 53 (.bin .add .other true (tm 52) (vl (int64 (1)))) 0, k 3 (.mov (tm 53)) 0])) .skip))) (.region [k 33 (.mov (tm 5)) 0, k 34 (.bin .add .other true (tm 33) (vl (int64 (1)))) 0, k 5 (.mov (tm 34)) 0])))
noncomputable def compact_1 : C := (.seq (.seq (.region [k 10 (.mov (tm 3)) 0, k 11 (.mov (tm 0)) 0, k 12 (.lenL (tm 11)) 0, k 13 (.bin .lss .other false (tm 10) (tm 12)) 0]) (.cond (tm 13) .skip (.exit 0))) (.seq (.block 1 (.seq (.drawn [k 16 (.mov (tm 0)) 0, k 17 (.mov (tm 3)) 0, k 18 (.idxAddrSl 3 (tm 16) (tm 17)) 3, k 19 (.loadN 3 (tm 18)) 7, k 20 (.mov (tm 0)) 0, k 21 (.mov (tm 3)) 0, k 22 (.bin .sub .other true (tm 21) (vl (int64 (1)))) 32, k 23 (.idxAddrSl 3 (tm 20) (tm 22)) 112, k 24 (.loadN 3 (tm 23)) 240, k 25 (.bin .eql (.flat [.int, .str, .int]) false (tm 19) (tm 24)) 511]) (.cond (tm 25) (.seq (.region [k 26 (.mov (tm 0)) 0, k 27 (.mov (tm 3)) 0, k 28 (.sliceSl 3 (tm 26) (some (tm 27)) none none) 0, k 4 (.mov (tm 28)) 0]) (.seq (.seq (.region [k 5 (.mov (vl (int64 (1)))) 0]) (.block 2 (.loop compact_0))) (.seq (.region [k 54 (.mov (tm 0)) 0, k 55 (.mov (tm 3)) 0, k 56 (.sliceSl 3 (tm 54) (some (tm 55)) none none) 0, kn (.clear 3 [(int64 (0)), (.str 0 0), (int64 (0))] (tm 56)) 0]) (.seq (.region [k 57 (.mov (tm 0)) 0, k 58 (.mov (tm 3)) 0, k 59 (.sliceSl 3 (tm 57) none (some (tm 58)) none) 0, k 2 (.mov (tm 59)) 0]) .ret)))) .skip))) (.region [k 14 (.mov (tm 3)) 0, k 15 (.bin .add .other true (tm 14) (vl (int64 (1)))) 0, k 3 (.mov (tm 15)) 0])))
noncomputable def compact_fu : Fu := ⟨[.tmp (Pos.ofNat 2)], 61, (.seq (.region [k 2 (.mov (vl .nilSl)) 0]) (.seq (.seq (.region [k 6 (.mov (tm 0)) 0, k 7 (.lenL (tm 6)) 0, k 8 (.bin .lss .other true (tm 7) (vl (int64 (2)))) 0]) (.cond (tm 8) (.seq (.region [k 9 (.mov (tm 0)) 0, k 2 (.mov (tm 9)) 0]) .ret) .skip)) (.seq (.seq (.region [k 3 (.mov (vl (int64 (1)))) 0]) (.block 0 (.loop compact_1))) (.seq (.region [k 60 (.mov (tm 0)) 0, k 2 (.mov (tm 60)) 0]) .ret))))⟩
theorem compact_code : compFn Tryz.prog 91 = some compact_fu := by kernel_rfl
noncomputable def rsnum_fu : Fu := ⟨[.tmp (Pos.ofNat 4)], 11, (.seq (.region [k 4 (.mov (vl (int64 (0)))) 0]) (.seq (.seq (.region [k 5 (.mov (tm 0)) 0, k 6 (.mov (tm 1)) 0, k 7 (.bin .lss .other false (tm 5) (tm 6)) 0]) (.cond (tm 7) (.seq (.region [k 4 (.mov (vl (int64 (-1)))) 0]) .ret) .skip)) (.seq (.seq (.region [k 8 (.mov (tm 0)) 0, k 9 (.mov (tm 1)) 0, k 10 (.bin .gtr .other false (tm 8) (tm 9)) 0]) (.cond (tm 10) (.seq (.region [k 4 (.mov (vl (int64 (1)))) 0]) .ret) .skip)) (.seq (.region [k 4 (.mov (vl (int64 (0)))) 0]) .ret))))⟩
theorem rsnum_code : compFn Tryz.prog 86 = some rsnum_fu := by kernel_rfl
noncomputable def rcmpb_fu : Fu := ⟨[.tmp (Pos.ofNat 4)], 19, (.seq (.region [k 2 (.box (tm 0)) 0, k 3 (.box (tm 1)) 0, k 4 (.mov (vl (int64 (0)))) 0]) (.seq (.region [k 6 (.fieldAddr 0 (tm 2)) 0, k 7 (.load1 (tm 6)) 0, k 8 (.fieldAddr 0 (tm 3)) 0, k 9 (.load1 (tm 8)) 0, k 10 (.call (.value (vl (.fn (.func 86) [] []))) [(tm 7), (tm 9)]) 0, k 5 (.mov (tm 10)) 0]) (.seq (.seq (.region [k 11 (.mov (tm 5)) 0, k 12 (.bin .eql .other true (tm 11) (vl (int64 (0)))) 0]) (.cond (tm 12) (.region [k 13 (.fieldAddr 1 (tm 2)) 0, k 14 (.load1 (tm 13)) 0, k 15 (.fieldAddr 1 (tm 3)) 0, k 16 (.load1 (tm 15)) 0, k 17 (.call (.value (vl (.fn (.func 88) [] []))) [(tm 14), (tm 16)]) 0, k 5 (.mov (tm 17)) 0]) .skip)) (.seq (.region [k 18 (.mov (tm 5)) 0, k 4 (.mov (tm 18)) 0]) .ret))))⟩
theorem rcmpb_code : compFn Tryz.prog 37 = some rcmpb_fu := by kernel_rfl
noncomputable def rcmpn_fu : Fu := ⟨[.tmp (Pos.ofNat 4)], 19, (.seq (.region [k 2 (.box (tm 0)) 0, k 3 (.box (tm 1)) 0, k 4 (.mov (vl (int64 (0)))) 0]) (.seq (.region [k 6 (.fieldAddr 0 (tm 2)) 0, k 7 (.loadN 2 (tm 6)) 0, k 8 (.fieldAddr 0 (tm 3)) 0, k 9 (.loadN 2 (tm 8)) 0, k 10 (.call (.value (vl (.fn (.func 37) [] []))) [(tm 7), (tm 9)]) 0, k 5 (.mov (tm 10)) 0]) (.seq (.seq (.region [k 11 (.mov (tm 5)) 0, k 12 (.bin .eql .other true (tm 11) (vl (int64 (0)))) 0]) (.cond (tm 12) (.region [k 13 (.fieldAddr 2 (tm 2)) 0, k 14 (.load1 (tm 13)) 0, k 15 (.fieldAddr 2 (tm 3)) 0, k 16 (.load1 (tm 15)) 0, k 17 (.call (.value (vl (.fn (.func 86) [] []))) [(tm 14), (tm 16)]) 0, k 5 (.mov (tm 17)) 0]) .skip)) (.seq (.region [k 18 (.mov (tm 5)) 0, k 4 (.mov (tm 18)) 0]) .ret))))⟩
theorem rcmpn_code : compFn Tryz.prog 35 = some rcmpn_fu := by kernel_rfl
noncomputable def rcmp_fu : Fu := ⟨[.tmp (Pos.ofNat 4)], 26, (.seq (.region [k 2 (.box (tm 0)) 0, k 3 (.box (tm 1)) 0, k 4 (.mov (vl (int64 (0)))) 0]) (.seq (.region [k 6 (.fieldAddr 0 (tm 2)) 0, k 7 (.load1 (tm 6)) 0, k 8 (.fieldAddr 0 (tm 3)) 0, k 9 (.load1 (tm 8)) 0, k 10 (.call (.value (vl (.fn (.func 86) [] []))) [(tm 7), (tm 9)]) 0, k 5 (.mov (tm 10)) 0]) (.seq (.seq (.region [k 11 (.mov (tm 5)) 0, k 12 (.bin .eql .other true (tm 11) (vl (int64 (0)))) 0]) (.cond (tm 12) (.region [k 13 (.fieldAddr 1 (tm 2)) 0, k 14 (.loadN 3 (tm 13)) 0, k 15 (.fieldAddr 1 (tm 3)) 0, k 16 (.loadN 3 (tm 15)) 0, k 17 (.call (.value (vl (.fn (.func 35) [] []))) [(tm 14), (tm 16)]) 0, k 5 (.mov (tm 17)) 0]) .skip)) (.seq (.seq (.region [k 18 (.mov (tm 5)) 0, k 19 (.bin .eql .other true (tm 18) (vl (int64 (0)))) 0]) (.cond (tm 19) (.region [k 20 (.fieldAddr 4 (tm 2)) 0, k 21 (.load1 (tm 20)) 0, k 22 (.fieldAddr 4 (tm 3)) 0, k 23 (.load1 (tm 22)) 0, k 24 (.call (.value (vl (.fn (.func 86) [] []))) [(tm 21), (tm 23)]) 0, k 5 (.mov (tm 24)) 0]) .skip)) (.seq (.region [k 25 (.mov (tm 5)) 0, k 4 (.mov (tm 25)) 0]) .ret)))))⟩
theorem rcmp_code : compFn Tryz.prog 33 = some rcmp_fu := by kernel_rfl
noncomputable def rkcmp_0 : C := (.seq (.seq (.region [k 6 (.mov (tm 5)) 0, k 7 (.mov (tm 0)) 0, k 8 (.lenS (tm 7)) 0, k 9 (.bin .lss .other false (tm 6) (tm 8)) 0, k 10 (.mov (tm 9)) 0, kg 11 10 true (.mov (tm 5)) 0, kg 12 10 true (.mov (tm 1)) 0, kg 13 10 true (.lenS (tm 12)) 0, kg 14 10 true (.bin .lss .other false (tm 11) (tm 13)) 0, k 15 (.pick (tm 10) (tm 14) (vl (.bool false))) 0]) (.cond (tm 15) .skip (.exit 0))) (.seq (.block 1 (.seq (.seq (.drawn [k 18 (.mov (tm 0)) 0, k 19 (.mov (tm 5)) 0, k 20 (.idxStr (tm 18) (tm 19)) 3, k 21 (.mov (tm 1)) 0, k 22 (.mov (tm 5)) 0, k 23 (.idxStr (tm 21) (tm 22)) 24, k 24 (.bin .lss .other false (tm 20) (tm 23)) 63]) (.cond (tm 24) (.seq (.region [k 4 (.mov (vl (int64 (-1)))) 0]) .ret) .skip)) (.seq (.drawn [k 25 (.mov (tm 0)) 0, k 26 (.mov (tm 5)) 0, k 27 (.idxStr (tm 25) (tm 26)) 3, k 28 (.mov (tm 1)) 0, k 29 (.mov (tm 5)) 0, k 30 (.idxStr (tm 28) (tm 29)) 24, k 31 (.bin .gtr .other false (tm 27) (tm 30)) 63]) (.cond (tm 31) (.seq (.region [k 4 (.mov (vl (int64 (1)))) 0]) .ret) .skip)))) (.region [k 16 (.mov (tm 5)) 0, k 17 (.bin .add .other true (tm 16) (vl (int64 (1)))) 0, k 5 (.mov (tm 17)) 0])))
noncomputable def rkcmp_fu : Fu := ⟨[.tmp (Pos.ofNat 4)], 37, (.seq (.region [k 4 (.mov (vl (int64 (0)))) 0]) (.seq (.seq (.region [k 5 (.mov (vl (int64 (0)))) 0]) (.block 0 (.loop rkcmp_0))) (.seq (.region [k 32 (.mov (tm 0)) 0, k 33 (.lenS (tm 32)) 0, k 34 (.mov (tm 1)) 0, k 35 (.lenS (tm 34)) 0, k 36 (.call (.value (vl (.fn (.func 109) [] []))) [(tm 33), (tm 35)]) 0, k 4 (.mov (tm 36)) 0]) .ret)))⟩
theorem rkcmp_code : compFn Tryz.prog 88 = some rkcmp_fu := by kernel_rfl
noncomputable def rknum_fu : Fu := ⟨[.tmp (Pos.ofNat 4)], 11, (.seq (.region [k 4 (.mov (vl (int64 (0)))) 0]) (.seq (.seq (.region [k 5 (.mov (tm 0)) 0, k 6 (.mov (tm 1)) 0, k 7 (.bin .lss .other false (tm 5) (tm 6)) 0]) (.cond (tm 7) (.seq (.region [k 4 (.mov (vl (int64 (-1)))) 0]) .ret) .skip)) (.seq (.seq (.region [k 8 (.mov (tm 0)) 0, k 9 (.mov (tm 1)) 0, k 10 (.bin .gtr .other false (tm 8) (tm 9)) 0]) (.cond (tm 10) (.seq (.region [k 4 (.mov (vl (int64 (1)))) 0]) .ret) .skip)) (.seq (.region [k 4 (.mov (vl (int64 (0)))) 0]) .ret))))⟩
theorem rknum_code : compFn Tryz.prog 109 = some rknum_fu := by kernel_rfl
noncomputable def rsorted_0 : C := (.seq (.seq (.drawn [k 12 (.mov (tm 5)) 0, k 13 (.mov (tm 3)) 0, k 14 (.lenL (tm 13)) 2, k 15 (.bin .lss .other false (tm 12) (tm 14)) 7, k 16 (.mov (tm 15)) 15, kg 17 16 true (.mov (tm 3)) 31, kg 18 16 true (.mov (tm 5)) 31, kg 19 16 true (.idxAddrSl 3 (tm 17) (tm 18)) 127, kg 20 16 true (.loadN 3 (tm 19)) 255, kg 21 16 true (.mov (tm 0)) 31, kg 22 16 true (.mov (tm 4)) 31, kg 23 16 true (.idxAddrSl 3 (tm 21) (tm 22)) 1567, kg 24 16 true (.loadN 3 (tm 23)) 3615, kg 25 16 true (.call (.value (vl (.fn (.func 35) [] []))) [(tm 20), (tm 24)]) 8191, kg 26 16 true (.bin .lss .other true (tm 25) (vl (int64 (0)))) 16383, k 27 (.pick (tm 16) (tm 26) (vl (.bool false))) 32767]) (.cond (tm 27) .skip (.exit 2))) (.block 3 (.region [k 28 (.mov (tm 5)) 0, k 29 (.bin .add .other true (tm 28) (vl (int64 (1)))) 0, k 5 (.mov (tm 29)) 0])))
noncomputable def rsorted_1 : C := (.seq (.seq (.region [k 6 (.mov (tm 4)) 0, k 7 (.mov (tm 0)) 0, k 8 (.lenL (tm 7)) 0, k 9 (.bin .lss .other false (tm 6) (tm 8)) 0]) (.cond (tm 9) .skip (.exit 0))) (.seq (.block 1 (.seq (.region [k 5 (.mov (vl (int64 (0)))) 0]) (.seq (.block 2 (.loop rsorted_0)) (.seq (.seq (.drawn [k 30 (.mov (tm 5)) 0, k 31 (.mov (tm 3)) 0, k 32 (.lenL (tm 31)) 2, k 33 (.bin .lss .other false (tm 30) (tm 32)) 7, k 34 (.mov (tm 33)) 15, kg 35 34 true (.mov (tm 3)) 31, kg 36 34 true (.mov (tm 5)) 31, kg 37 34 true (.idxAddrSl 3 (tm 35) (tm 36)) 127, kg 38 34 true (.loadN 3 (tm 37)) 255, kg 39 34 true (.mov (tm 0)) 31, kg 40 34 true (.mov (tm 4)) 31, kg 41 34 true (.idxAddrSl 3 (tm 39) (tm 40)) 1567, kg 42 34 true (.loadN 3 (tm 41)) 3615, kg 43 34 true (.call (.value (vl (.fn (.func 35) [] []))) [(tm 38), (tm 42)]) 8191, kg 44 34 true (.bin .eql .other true (tm 43) (vl (int64 (0)))) 16383, k 45 (.pick (tm 34) (tm 44) (vl (.bool false))) 32767]) (.cond (tm 45) (.exit 1) .skip)) (.drawn [k 46 (.mov (tm 3)) 0, k 47 (.mov (tm 5)) 0, k 48 (.sliceSl 3 (tm 46) none (some (tm 47)) none) 3, k 49 (.append 3 32 (vl .nilSl) (tm 48)) 7, k 50 (.mov (tm 0)) 0, k 51 (.mov (tm 4)) 0, k 52 (.idxAddrSl 3 (tm 50) (tm 51)) 48, k 53 (.loadN 3 (tm 52)) 112, k 54 (.buildSl 1 3 [(int64 (0)), (.str 0 0), (int64 (0))] [(0, 3, (tm 53))]) 240, k 55 (.append 3 32 (tm 49) (tm 54)) 511, k 56 (.mov (tm 3)) 0, k 57 (.mov (tm 5)) 0, k 58 (.sliceSl 3 (tm 56) (some (tm 57)) none none) 3072, k 59 (.append 3 32 (tm 55) (tm 58)) 8191, k 3 (.mov (tm 59)) 16383]))))) (.region [k 10 (.mov (tm 4)) 0, k 11 (.bin .add .other true (tm 10) (vl (int64 (1)))) 0, k 4 (.mov (tm 11)) 0])))
noncomputable def rsorted_fu : Fu := ⟨[.tmp (Pos.ofNat 2)], 61, (.seq (.region [k 2 (.mov (vl .nilSl)) 0]) (.seq (.region [k 3 (.mov (vl .nilSl)) 0]) (.seq (.seq (.region [k 4 (.mov (vl (int64 (0)))) 0]) (.block 0 (.loop rsorted_1))) (.seq (.region [k 60 (.mov (tm 3)) 0, k 2 (.mov (tm 60)) 0]) .ret))))⟩
theorem rsorted_code : compFn Tryz.prog 40 = some rsorted_fu := by kernel_rfl
theorem ok_orders : okCall Tryz.prog 6 = true := by kernel_rfl
theorem ok_one : okCall Tryz.prog 38 = true := by kernel_rfl
theorem ok_sorted : okCall Tryz.prog 39 = true := by kernel_rfl
theorem ok_clone : okCall Tryz.prog 89 = true := by kernel_rfl
theorem ok_compact : okCall Tryz.prog 91 = true := by kernel_rfl
theorem ok_rsnum : okCall Tryz.prog 86 = true := by kernel_rfl
theorem ok_rcmpb : okCall Tryz.prog 37 = true := by kernel_rfl
theorem ok_rcmpn : okCall Tryz.prog 35 = true := by kernel_rfl
theorem ok_rcmp : okCall Tryz.prog 33 = true := by kernel_rfl
theorem ok_rkcmp : okCall Tryz.prog 88 = true := by kernel_rfl
theorem ok_rknum : okCall Tryz.prog 109 = true := by kernel_rfl
theorem ok_rsorted : okCall Tryz.prog 40 = true := by kernel_rfl
theorem ok_sortf : okCall Tryz.prog 90 = true := by kernel_rfl
end Go.Proofs.YtjhgembcdndmkaaGreatDoor.St

namespace Go.Proofs
open Go.Shelf
end Go.Proofs

namespace Go.Proofs.YtjhgembcdndmkaaGreatDoor.St
open Go Go.Proofs.YtjhgembcdndmkaaGreatDoor.Am Go.Proofs Go.RowKit
theorem strOf_eq {a b : List UInt8} : (strOf a = strOf b) = (a = b) := propext ⟨strOf_inj, fun e => by rw [e]⟩
theorem byt_eq {a b : List UInt8} : (byt a = byt b) = (a = b) := propext ⟨byt_inj, fun e => by rw [e]⟩
theorem map_strOf_inj : ∀ {a b : List (List UInt8)}, a.map strOf = b.map strOf → a = b
  | [], [], _ => rfl
  | [], _ :: _, e => by cases e
  | _ :: _, [], e => by cases e
  | x :: a, y :: b, e => by
    rw [List.map_cons, List.map_cons, List.cons.injEq] at e
    rw [strOf_inj e.1, map_strOf_inj e.2]
theorem map_strOf_eq {a b : List (List UInt8)} : (a.map strOf = b.map strOf) = (a = b) := propext ⟨map_strOf_inj, fun e => by rw [e]⟩
theorem cells_strOf (s : List UInt8) : (strOf s).cells = [strOf s] := rfl
theorem cells_int (k : IntKind) (z : Int) : (AV.int k z).cells = [.int k z] := rfl
theorem cells_agg (l : List AV) : (AV.agg l).cells = l := rfl
theorem at_int (k : IntKind) (z : Int) : (AV.int k z).atom = true := rfl
theorem at_str (n v : Nat) : (AV.str n v).atom = true := rfl
theorem at_strOf (s : List UInt8) : (strOf s).atom = true := rfl
theorem at_bool (b : Bool) : (AV.bool b).atom = true := rfl
theorem at_sl (id : Pos) (g o n c : Nat) (e : Bool) (k : Nat) : (AV.sl id g o n c e k).atom = true := rfl
theorem at_nil : AV.nilSl.atom = true := rfl
theorem at_ptr (id : Pos) (g o : Nat) : (AV.ptr id g o).atom = true := rfl
theorem cells_bool (b : Bool) : (AV.bool b).cells = [.bool b] := rfl
theorem cells_str (n v : Nat) : (AV.str n v).cells = [.str n v] := rfl
theorem cells_sl (id : Pos) (g o n c : Nat) (e : Bool) (k : Nat) : (AV.sl id g o n c e k).cells = [.sl id g o n c e k] := rfl
theorem cells_nil : AV.nilSl.cells = [.nilSl] := rfl
theorem cells_ptr (id : Pos) (g o : Nat) : (AV.ptr id g o).cells = [.ptr id g o] := rfl
theorem rel_strOf {φ : Phi} {b : List UInt8} {x : Value} (h : Rel φ (strOf b) x) : x = .string ⟨b.toArray⟩ := by
  cases h with
  | str e hv =>
    rename_i s
    rw [unpack_pack] at e
    congr 1
    cases s with | mk d => cases d with | mk l => cases e; rfl
theorem strOf_relA (φ : Phi) (b : List UInt8) : Rel φ (strOf b) (.string ⟨b.toArray⟩) := strOf_rel φ ⟨b.toArray⟩
structure HasG (m : Int) (t1 t2 : AV) (h : Hp) : Prop where
  max : T.get (Pos.ofNat 0) h.heap = some (tabB [int64 m])
  syn : T.get (Pos.ofNat 1) h.heap = some (tabB [t1])
  rng : T.get (Pos.ofNat 2) h.heap = some (tabB [t2])
  tab : T.get (Pos.ofNat 3) h.heap = some (tabB (Lib.pow10Tab.map fun z => .int .u64 z))
  isA : ∃ t v, t1 = .ifc t v
  isB : ∃ t v, t2 = .ifc t v
  old : (Pos.ofNat 6).num ≤ h.next.num
section
variable {m : Int} {t1 t2 : AV}
theorem HasG.more {h h' : Hp} (g : HasG m t1 t2 h) (o : Only [] h h') : HasG m t1 t2 h' := by
  have n : ∀ i, i < 6 → (Pos.ofNat i).num < h.next.num := fun i hi => by have := g.old; rw [Pos.num_ofNat] at this ⊢; omega
  exact ⟨by rw [o.same _ (n 0 (by omega)) (by simp)]; exact g.max, by rw [o.same _ (n 1 (by omega)) (by simp)]; exact g.syn, by rw [o.same _ (n 2 (by omega)) (by simp)]; exact g.rng, by rw [o.same _ (n 3 (by omega)) (by simp)]; exact g.tab, g.isA, g.isB, Nat.le_trans g.old o.next⟩
end
end Go.Proofs.YtjhgembcdndmkaaGreatDoor.St

namespace Go.Proofs.YtjhgembcdndmkaaGreatDoor.St
open Go Go.Proofs.YtjhgembcdndmkaaGreatDoor.Am Go.Proofs Go.RowKit
attribute [local simp] xr_mov xd_mov xr_pick xd_pick xr_bin xd_bin xr_build xd_build xr_fld xd_fld xr_partN xd_partN xr_lenS xr_lenL xd_lenL xr_load1 xd_load1 xr_loadN xd_loadN xr_new xd_new xr_box xr_buildSl xd_buildSl xr_idxAddrSl xd_idxAddrSl xd_idxAddrArr xd_idxStr xr_sliceSl xd_sliceSl orU_some orU_none lenSA_str lenSA_strOf lenLA_sl lenLA_nil xfn xcode xdrawn xr_nil xr_kg xr_cmp xcmp_some xr_call xr_store xr_append xd_append xap_sl xap_nl xapq_some xsrc_sl xsrc_nil xapp_nil xapp_grow xset xown xnx_some xnp_some xnq_some xd_nil xdl_old xda_some xd_call xd_store xd_kg xdn_some xld xal kindOf isAlloc allocs xins xrem xall xput xget xwhole xmine xcont xq xqs xres XS.add XR.out XR.outU XR.ups xsets XR.res Rs.seq Rs.inSc Rs.block mapO tupleA sv_args adv_eq tget eqs8 eqs7 eqi8 eqi7 eqg8 eqn8 eqn7 cells_strOf cells_int cells_agg cells_bool cells_str cells_sl cells_nil cells_ptr at_int at_str at_strOf at_bool at_sl at_nil at_ptr unstr_strOf fill_nil fill_cons replA ev_tm ev_vl sv_stv bin_add bin_sub bin_lss bin_gtr bin_eql bin_neq nth0 nth1 nth2 xst_idxAddrSl xst_idxStr xst_sliceStr xst_sliceSl xsl_sl xbd slN Nat.testBit
noncomputable def e_known : Ent := mkEnt 8 0 [] (fun z_ : Unit => []) (fun _ => []) (fun _ => True) (fun _ => .plain (.bool true))
theorem f_known : e_known.f = 8 := rfl
theorem x_known {U : List Ent} {b : Pos} {st : XS} (hU : tget U 8 = some e_known)  : xcall U b 8 [] st = some (XR.out b st (.plain (.bool true))) :=
  xcall_at hU rfl rfl (mkEnt_spec (fun _ _ _ _ => rfl) () trivial) (by first | rfl | (split <;> rfl))
theorem sks_nil : sameKs [] [] [] = some true := by unfold sameKs; rfl
end Go.Proofs.YtjhgembcdndmkaaGreatDoor.St

namespace Go.Proofs.YtjhgembcdndmkaaGreatDoor.St
open Go Go.Proofs.YtjhgembcdndmkaaGreatDoor.Am Go.Proofs Go.RowKit
attribute [local simp] xr_mov xd_mov xr_pick xd_pick xr_bin xd_bin xr_build xd_build xr_fld xd_fld xr_partN xd_partN xr_lenS xr_lenL xd_lenL xr_load1 xd_load1 xr_loadN xd_loadN xr_new xd_new xr_box xr_buildSl xd_buildSl xr_idxAddrSl xd_idxAddrSl xd_idxAddrArr xd_idxStr xr_sliceSl xd_sliceSl orU_some orU_none lenSA_str lenSA_strOf lenLA_sl lenLA_nil xfn xcode xdrawn xr_nil xr_kg xr_cmp xcmp_some xr_call xr_store xr_append xd_append xap_sl xap_nl xapq_some xsrc_sl xsrc_nil xapp_nil xapp_grow xset xown xnx_some xnp_some xnq_some xd_nil xdl_old xda_some xd_call xd_store xd_kg xdn_some xld xal kindOf isAlloc allocs xins xrem xall xput xget xwhole xmine xcont xq xqs xres XS.add XR.out XR.outU XR.ups xsets XR.res Rs.seq Rs.inSc Rs.block mapO tupleA sv_args adv_eq tget eqs8 eqs7 eqi8 eqi7 eqg8 eqn8 eqn7 cells_strOf cells_int cells_agg cells_bool cells_str cells_sl cells_nil cells_ptr at_int at_str at_strOf at_bool at_sl at_nil at_ptr unstr_strOf fill_nil fill_cons replA ev_tm ev_vl sv_stv bin_add bin_sub bin_lss bin_gtr bin_eql bin_neq nth0 nth1 nth2 xst_idxAddrSl xst_idxStr xst_sliceStr xst_sliceSl xsl_sl xbd slN Nat.testBit
noncomputable def sC (u v : List UInt8) : Int := cmpI (cmpL u v)
def nC (a b : Int) : Int := if a < b then -1 else if b < a then 1 else 0
def fC (x y z : Int) : Int := if x = 0 then (if y = 0 then z else y) else x
noncomputable def bC (r : Int) (s : List UInt8) (r' : Int) (s' : List UInt8) : Int := fC (nC r r') (sC s s') 0
noncomputable def mC (r : Int) (s : List UInt8) (n r' : Int) (s' : List UInt8) (n' : Int) : Int := fC (bC r s r' s') (nC n n') 0
noncomputable def tC (g r : Int) (s : List UInt8) (n i g' r' : Int) (s' : List UInt8) (n' i' : Int) : Int := if g = g' ∧ r = r' ∧ s = s' ∧ n = n' ∧ i = i' then 0 else fC (nC g g') (mC r s n r' s' n') (nC i i')
noncomputable def e_bcmp : Ent := mkEnt 124 2 [] (fun z_ : (List UInt8) × (List UInt8) => [strOf z_.1, strOf z_.2]) (fun _ => []) (fun _ => True) (fun z_ => .plain (int64 (sC z_.1 z_.2)))
theorem f_bcmp : e_bcmp.f = 124 := rfl
theorem x_bcmp {U : List Ent} {b : Pos} {st : XS} (hU : tget U 124 = some e_bcmp) (u : List UInt8) (v : List UInt8) : xcall U b 124 [strOf u, strOf v] st = some (XR.out b st (.plain (int64 (sC u v)))) :=
  xcall_at hU rfl rfl (mkEnt_spec (by rintro ⟨a0, a1⟩ ⟨b0, b1⟩ h hc; simp only [List.cons.injEq, AV.agg.injEq, AV.tup.injEq, AV.int.injEq, AV.bool.injEq, AV.ptr.injEq, AV.sl.injEq, strOf_eq, byt_eq, map_strOf_eq, true_and, and_true, Int.natCast_inj] at h hc; simp [h, hc]) (u, v) trivial) (by first | rfl | (split <;> rfl))
noncomputable def e_scmp : Ent := mkEnt 108 2 [] (fun z_ : (List UInt8) × (List UInt8) => [strOf z_.1, strOf z_.2]) (fun _ => []) (fun _ => True) (fun z_ => .plain (int64 (sC z_.1 z_.2)))
theorem f_scmp : e_scmp.f = 108 := rfl
theorem x_scmp {U : List Ent} {b : Pos} {st : XS} (hU : tget U 108 = some e_scmp) (u : List UInt8) (v : List UInt8) : xcall U b 108 [strOf u, strOf v] st = some (XR.out b st (.plain (int64 (sC u v)))) :=
  xcall_at hU rfl rfl (mkEnt_spec (by rintro ⟨a0, a1⟩ ⟨b0, b1⟩ h hc; simp only [List.cons.injEq, AV.agg.injEq, AV.tup.injEq, AV.int.injEq, AV.bool.injEq, AV.ptr.injEq, AV.sl.injEq, strOf_eq, byt_eq, map_strOf_eq, true_and, and_true, Int.natCast_inj] at h hc; simp [h, hc]) (u, v) trivial) (by first | rfl | (split <;> rfl))
noncomputable def e_kcmp : Ent := mkEnt 87 2 [] (fun z_ : (List UInt8) × (List UInt8) => [strOf z_.1, strOf z_.2]) (fun _ => []) (fun _ => True) (fun z_ => .plain (int64 (sC z_.1 z_.2)))
theorem f_kcmp : e_kcmp.f = 87 := rfl
theorem x_kcmp {U : List Ent} {b : Pos} {st : XS} (hU : tget U 87 = some e_kcmp) (u : List UInt8) (v : List UInt8) : xcall U b 87 [strOf u, strOf v] st = some (XR.out b st (.plain (int64 (sC u v)))) :=
  xcall_at hU rfl rfl (mkEnt_spec (by rintro ⟨a0, a1⟩ ⟨b0, b1⟩ h hc; simp only [List.cons.injEq, AV.agg.injEq, AV.tup.injEq, AV.int.injEq, AV.bool.injEq, AV.ptr.injEq, AV.sl.injEq, strOf_eq, byt_eq, map_strOf_eq, true_and, and_true, Int.natCast_inj] at h hc; simp [h, hc]) (u, v) trivial) (by first | rfl | (split <;> rfl))
noncomputable def e_snum : Ent := mkEnt 79 2 [] (fun z_ : Int × Int => [int64 z_.1, int64 z_.2]) (fun _ => []) (fun _ => True) (fun z_ => .plain (int64 (nC z_.1 z_.2)))
theorem f_snum : e_snum.f = 79 := rfl
theorem x_snum {U : List Ent} {b : Pos} {st : XS} (hU : tget U 79 = some e_snum) (x : Int) (y : Int) : xcall U b 79 [int64 x, int64 y] st = some (XR.out b st (.plain (int64 (nC x y)))) :=
  xcall_at hU rfl rfl (mkEnt_spec (by rintro ⟨a0, a1⟩ ⟨b0, b1⟩ h hc; simp only [List.cons.injEq, AV.agg.injEq, AV.tup.injEq, AV.int.injEq, AV.bool.injEq, AV.ptr.injEq, AV.sl.injEq, strOf_eq, byt_eq, map_strOf_eq, true_and, and_true, Int.natCast_inj] at h hc; simp [h, hc]) (x, y) trivial) (by first | rfl | (split <;> rfl))
noncomputable def e_first : Ent := mkEnt 78 1 [] (fun z_ : Int × Int × Int => [.agg [int64 z_.1, int64 z_.2.1, int64 z_.2.2]]) (fun _ => []) (fun _ => True) (fun z_ => .plain (int64 (fC z_.1 z_.2.1 z_.2.2)))
theorem f_first : e_first.f = 78 := rfl
theorem x_first {U : List Ent} {b : Pos} {st : XS} (hU : tget U 78 = some e_first) (x : Int) (y : Int) (z : Int) : xcall U b 78 [.agg [int64 x, int64 y, int64 z]] st = some (XR.out b st (.plain (int64 (fC x y z)))) :=
  xcall_at hU rfl rfl (mkEnt_spec (by rintro ⟨a0, a1, a2⟩ ⟨b0, b1, b2⟩ h hc; simp only [List.cons.injEq, AV.agg.injEq, AV.tup.injEq, AV.int.injEq, AV.bool.injEq, AV.ptr.injEq, AV.sl.injEq, strOf_eq, byt_eq, map_strOf_eq, true_and, and_true, Int.natCast_inj] at h hc; simp [h, hc]) (x, y, z) trivial) (by first | rfl | (split <;> rfl))
noncomputable def e_cmpb : Ent := mkEnt 36 2 [] (fun z_ : Int × (List UInt8) × Int × (List UInt8) => [.agg [int64 z_.1, strOf z_.2.1], .agg [int64 z_.2.2.1, strOf z_.2.2.2]]) (fun _ => []) (fun _ => True) (fun z_ => .plain (int64 (bC z_.1 z_.2.1 z_.2.2.1 z_.2.2.2)))
theorem f_cmpb : e_cmpb.f = 36 := rfl
theorem x_cmpb {U : List Ent} {b : Pos} {st : XS} (hU : tget U 36 = some e_cmpb) (r : Int) (s : List UInt8) (r' : Int) (s' : List UInt8) : xcall U b 36 [.agg [int64 r, strOf s], .agg [int64 r', strOf s']] st = some (XR.out b st (.plain (int64 (bC r s r' s')))) :=
  xcall_at hU rfl rfl (mkEnt_spec (by rintro ⟨a0, a1, a2, a3⟩ ⟨b0, b1, b2, b3⟩ h hc; simp only [List.cons.injEq, AV.agg.injEq, AV.tup.injEq, AV.int.injEq, AV.bool.injEq, AV.ptr.injEq, AV.sl.injEq, strOf_eq, byt_eq, map_strOf_eq, true_and, and_true, Int.natCast_inj] at h hc; simp [h, hc]) (r, s, r', s') trivial) (by first | rfl | (split <;> rfl))
noncomputable def e_cmpn : Ent := mkEnt 34 2 [] (fun z_ : Int × (List UInt8) × Int × Int × (List UInt8) × Int => [.agg [int64 z_.1, strOf z_.2.1, int64 z_.2.2.1], .agg [int64 z_.2.2.2.1, strOf z_.2.2.2.2.1, int64 z_.2.2.2.2.2]]) (fun _ => []) (fun _ => True) (fun z_ => .plain (int64 (mC z_.1 z_.2.1 z_.2.2.1 z_.2.2.2.1 z_.2.2.2.2.1 z_.2.2.2.2.2)))
theorem f_cmpn : e_cmpn.f = 34 := rfl
theorem x_cmpn {U : List Ent} {b : Pos} {st : XS} (hU : tget U 34 = some e_cmpn) (r : Int) (s : List UInt8) (n : Int) (r' : Int) (s' : List UInt8) (n' : Int) : xcall U b 34 [.agg [int64 r, strOf s, int64 n], .agg [int64 r', strOf s', int64 n']] st = some (XR.out b st (.plain (int64 (mC r s n r' s' n')))) :=
  xcall_at hU rfl rfl (mkEnt_spec (by rintro ⟨a0, a1, a2, a3, a4, a5⟩ ⟨b0, b1, b2, b3, b4, b5⟩ h hc; simp only [List.cons.injEq, AV.agg.injEq, AV.tup.injEq, AV.int.injEq, AV.bool.injEq, AV.ptr.injEq, AV.sl.injEq, strOf_eq, byt_eq, map_strOf_eq, true_and, and_true, Int.natCast_inj] at h hc; simp [h, hc]) (r, s, n, r', s', n') trivial) (by first | rfl | (split <;> rfl))
noncomputable def e_cmp : Ent := mkEnt 29 2 [] (fun z_ : Int × Int × (List UInt8) × Int × Int × Int × Int × (List UInt8) × Int × Int => [.agg [int64 z_.1, int64 z_.2.1, strOf z_.2.2.1, int64 z_.2.2.2.1, int64 z_.2.2.2.2.1], .agg [int64 z_.2.2.2.2.2.1, int64 z_.2.2.2.2.2.2.1, strOf z_.2.2.2.2.2.2.2.1, int64 z_.2.2.2.2.2.2.2.2.1, int64 z_.2.2.2.2.2.2.2.2.2]]) (fun _ => []) (fun _ => True) (fun z_ => .plain (int64 (tC z_.1 z_.2.1 z_.2.2.1 z_.2.2.2.1 z_.2.2.2.2.1 z_.2.2.2.2.2.1 z_.2.2.2.2.2.2.1 z_.2.2.2.2.2.2.2.1 z_.2.2.2.2.2.2.2.2.1 z_.2.2.2.2.2.2.2.2.2)))
theorem f_cmp : e_cmp.f = 29 := rfl
theorem x_cmp {U : List Ent} {b : Pos} {st : XS} (hU : tget U 29 = some e_cmp) (g : Int) (r : Int) (s : List UInt8) (n : Int) (i : Int) (g' : Int) (r' : Int) (s' : List UInt8) (n' : Int) (i' : Int) : xcall U b 29 [.agg [int64 g, int64 r, strOf s, int64 n, int64 i], .agg [int64 g', int64 r', strOf s', int64 n', int64 i']] st = some (XR.out b st (.plain (int64 (tC g r s n i g' r' s' n' i')))) :=
  xcall_at hU rfl rfl (mkEnt_spec (by rintro ⟨a0, a1, a2, a3, a4, a5, a6, a7, a8, a9⟩ ⟨b0, b1, b2, b3, b4, b5, b6, b7, b8, b9⟩ h hc; simp only [List.cons.injEq, AV.agg.injEq, AV.tup.injEq, AV.int.injEq, AV.bool.injEq, AV.ptr.injEq, AV.sl.injEq, strOf_eq, byt_eq, map_strOf_eq, true_and, and_true, Int.natCast_inj] at h hc; simp [h, hc]) (g, r, s, n, i, g', r', s', n', i') trivial) (by first | rfl | (split <;> rfl))
theorem skI (y z : Int) : sameK .int (int64 y) (int64 z) = some (decide (y = z)) := by
  show (if IntKind.i64 = IntKind.i64 then some (match cmpA y z with | .eq => true | _ => false) else none) = _
  rw [if_pos rfl, cmpA_eq]
  by_cases c : y < z
  · rw [if_pos c, decide_eq_false (by omega)]
  · rw [if_neg c]
    by_cases c2 : y = z
    · rw [if_pos c2, decide_eq_true c2]
    · rw [if_neg c2, decide_eq_false c2]
theorem skS (u v : List UInt8) : sameK .str (strOf u) (strOf v) = some (decide (u = v)) := by
  show some (Nat.beq _ _ && Nat.beq _ _) = _
  by_cases c : u = v
  · subst c
    rw [beq_iff.2 rfl, beq_iff.2 rfl, decide_eq_true rfl]; rfl
  · rw [decide_eq_false c]
    congr 1
    rw [Bool.and_eq_false_iff]
    by_cases c2 : u.length = v.length
    · right
      cases q : Nat.beq (pack u) (pack v) with
      | false => rfl
      | true =>
        have := Nat.eq_of_beq_eq_true q
        have e : strOf u = strOf v := by unfold strOf; rw [c2, this]
        rw [strOf_eq] at e
        exact absurd e c
    · left
      cases q : Nat.beq u.length v.length with
      | false => rfl
      | true => exact absurd (Nat.eq_of_beq_eq_true q) c2
theorem sksC {k : LK} {ks : List LK} {a b : AV} {l r : List AV} {x y : Bool} (h1 : sameK k a b = some x) (h2 : sameKs ks l r = some y) : sameKs (k :: ks) (a :: l) (b :: r) = some (x && y) := by
  unfold sameKs; rw [h1, h2]; cases x <;> rfl
theorem eqG {ks : List LK} {l r : List AV} {x : Bool} (no : Bool) (h : sameKs ks l r = some x) : binA .eql (.flat ks) no (.agg l) (.agg r) = some (.bool x) := by
  show (match sameKs ks l r with | some b => notIf false b | none => none) = _
  rw [h]; cases x <;> rfl
theorem eqG5 (no : Bool) (g r : Int) (s : List UInt8) (n i g' r' : Int) (s' : List UInt8) (n' i' : Int) : binA .eql (.flat [.int, .int, .str, .int, .int]) no (.agg [int64 g, int64 r, strOf s, int64 n, int64 i]) (.agg [int64 g', int64 r', strOf s', int64 n', int64 i']) = some (.bool (decide (g = g' ∧ r = r' ∧ s = s' ∧ n = n' ∧ i = i'))) := by
  rw [eqG no (sksC (skI _ _) (sksC (skI _ _) (sksC (skS _ _) (sksC (skI _ _) (sksC (skI _ _) sks_nil)))))]
  simp
noncomputable def xia (n : Nat) : AV → AV → Option AV
  | .agg l, .int _ z => if 0 ≤ z ∧ z < (n : Int) then nth l z.toNat else none
  | _, _ => none
theorem xia_agg (n : Nat) (l : List AV) (kk : IntKind) (z : Int) : xia n (.agg l) (.int kk z) = if 0 ≤ z ∧ z < (n : Int) then nth l z.toNat else none := rfl
theorem xst_idxArr1 {P : Program} {env : T AV} (n : Nat) (x y : Opd) : xst P env (.idxArr n 1 false x y) = xia n (ev env x) (ev env y) := by
  show xst0 P env _ = _
  have e : evalOp P (.idxArr n 1 false x y) env hp0 = (match ev env x, ev env y with
    | .agg l, .int _ (.ofNat i) => bif Nat.blt i n then
        (bif false then .val (.agg ((l.drop (Nat.mul i 1)).take 1)) hp0 else opt hp0 "idxArr" (nth l (Nat.mul i 1))) else .fail "idxArr bounds"
    | _, _ => .fail "idxArr") := rfl
  unfold xst0
  rw [e]
  cases ev env x <;> first | rfl | skip
  rename_i l
  cases ev env y <;> first | rfl | skip
  rename_i kk z
  rw [xia_agg]
  cases z with
  | negSucc m => rw [if_neg (by omega)]
  | ofNat i =>
    by_cases c : i < n
    · rw [if_pos (by constructor <;> simp <;> omega)]
      dsimp only
      rw [blt_iff.2 c, show Nat.mul i 1 = i from Nat.mul_one i]
      show (match opt hp0 "idxArr" (nth l i) with | .val v _ => some v | _ => none) = nth l i
      cases nth l i <;> rfl
    · rw [if_neg (by simp; omega)]
      dsimp only
      cases q : Nat.blt i n with
      | true => exact absurd (blt_iff.1 q) c
      | false => rfl
theorem xr_idxArr1 {P : Program} {K : List Ent} {b : Pos} {l : List O} {env : T AV} {s : XS} {d m : Nat} (n : Nat) (x y : Opd) : xrun P K b (k d (.idxArr n 1 false x y) m :: l) env s = xnx P K b l env d s (xia n (ev env x) (ev env y)) := (xr_still rfl).trans (by rw [xst_idxArr1])
section
variable {m : Int} {t1 t2 : AV}
theorem bcmp_ok : EntOK Tryz.prog (HasG m t1 t2) e_bcmp := mkEnt_ok ok_bcmp fun z h gg _ _ => by
  obtain ⟨u, v⟩ := z
  refine plain_of (U := []) (K := []) (fun _ o => gg.more o) (by simp) (by simp) 0 bcmp_code (by simp [bcmp_fu]) rfl ?_
  simp [bcmp_fu, sC]
theorem scmp_ok : EntOK Tryz.prog (HasG m t1 t2) e_scmp := mkEnt_ok ok_scmp fun z h gg _ _ => by
  obtain ⟨u, v⟩ := z
  refine plain_of (U := []) (K := [e_bcmp]) (fun _ o => gg.more o) (by simp) (by simp [bcmp_ok.entK]) 0 scmp_code (by simp [scmp_fu]) rfl ?_
  simp [scmp_fu, x_bcmp, f_bcmp]
theorem kcmp_ok : EntOK Tryz.prog (HasG m t1 t2) e_kcmp := mkEnt_ok ok_kcmp fun z h gg _ _ => by
  obtain ⟨u, v⟩ := z
  refine plain_of (U := []) (K := [e_scmp]) (fun _ o => gg.more o) (by simp) (by simp [scmp_ok.entK]) 0 kcmp_code (by simp [kcmp_fu]) rfl ?_
  simp [kcmp_fu, x_scmp, f_scmp]
theorem snum_ok : EntOK Tryz.prog (HasG m t1 t2) e_snum := mkEnt_ok ok_snum fun z h gg _ _ => by
  obtain ⟨a, b⟩ := z
  refine plain_of (U := []) (K := []) (fun _ o => gg.more o) (by simp) (by simp) 0 snum_code (by simp [snum_fu]) rfl ?_
  show _ = some (int64 (nC a b))
  unfold nC
  by_cases c : a < b
  · simp [snum_fu, c]
  · by_cases c2 : b < a <;> simp [snum_fu, c, c2]
theorem first_ok : EntOK Tryz.prog (HasG m t1 t2) e_first := mkEnt_ok ok_first fun w h gg _ _ => by
  obtain ⟨x, y, z⟩ := w
  refine plain_of (U := []) (K := []) (fun _ o => gg.more o) (by simp) (by simp) 10 first_code (by simp [first_fu]) rfl ?_
  show _ = some (int64 (fC x y z))
  unfold fC
  by_cases c : x = 0
  · by_cases c2 : y = 0
    · by_cases c3 : z = 0 <;> simp [first_fu, first_0, xr_idxArr1, xia_agg, xloop, c, c2, c3, w64]
    · simp [first_fu, first_0, xr_idxArr1, xia_agg, xloop, c, c2, w64]
  · simp [first_fu, first_0, xr_idxArr1, xia_agg, xloop, c, w64]
theorem cmpb_ok : EntOK Tryz.prog (HasG m t1 t2) e_cmpb := mkEnt_ok ok_cmpb fun z h gg _ _ => by
  obtain ⟨r, s, r', s'⟩ := z
  refine plain_of (U := [e_snum, e_kcmp, e_first]) (K := []) (fun _ o => gg.more o) (by simp [snum_ok, kcmp_ok, first_ok]) (by simp) 0 cmpb_code (by simp [cmpb_fu]) rfl ?_
  simp [cmpb_fu, x_snum, f_snum, x_kcmp, f_kcmp, x_first, f_first, bC, xd_build]
theorem cmpn_ok : EntOK Tryz.prog (HasG m t1 t2) e_cmpn := mkEnt_ok ok_cmpn fun z h gg _ _ => by
  obtain ⟨r, s, n, r', s', n'⟩ := z
  refine plain_of (U := [e_snum, e_cmpb, e_first]) (K := []) (fun _ o => gg.more o) (by simp [snum_ok, cmpb_ok, first_ok]) (by simp) 0 cmpn_code (by simp [cmpn_fu]) rfl ?_
  simp [cmpn_fu, x_snum, f_snum, x_cmpb, f_cmpb, x_first, f_first, mC, xd_build]
theorem cmp_ok : EntOK Tryz.prog (HasG m t1 t2) e_cmp := mkEnt_ok ok_cmp fun z h gg _ _ => by
  obtain ⟨g, r, s, n, i, g', r', s', n', i'⟩ := z
  refine plain_of (U := [e_snum, e_cmpn, e_first]) (K := []) (fun _ o => gg.more o) (by simp [snum_ok, cmpn_ok, first_ok]) (by simp) 0 cmp_code (by simp [cmp_fu]) rfl ?_
  show _ = some (int64 (tC g r s n i g' r' s' n' i'))
  unfold tC
  by_cases c : g = g' ∧ r = r' ∧ s = s' ∧ n = n' ∧ i = i'
  · rw [if_pos c]
    simp [cmp_fu, eqG5, c]
  · rw [if_neg c]
    have c := eq_false c
    simp [cmp_fu, eqG5, c, x_snum, f_snum, x_cmpn, f_cmpn, x_first, f_first, xd_build]
end
end Go.Proofs.YtjhgembcdndmkaaGreatDoor.St

namespace Go.Proofs.YtjhgembcdndmkaaGreatDoor.St
open Go Go.Proofs.YtjhgembcdndmkaaGreatDoor.Am Go.Proofs Go.RowKit
structure Cm {α : Type} (c : α → α → Int) : Prop where
  anti : ∀ a b, c b a = - c a b
  zero : ∀ a b, c a b = 0 → a = b
  tr : ∀ a b d, c a b ≤ 0 → c b d ≤ 0 → c a d ≤ 0
  rng : ∀ a b, -1 ≤ c a b ∧ c a b ≤ 1
theorem Cm.refl {α : Type} {c : α → α → Int} (m : Cm c) (a : α) : c a a = 0 := by have := m.anti a a; omega
theorem Cm.lex {α β : Type} {c : α → α → Int} {d : β → β → Int} (m : Cm c) (k : Cm d) : Cm fun (x y : α × β) => fC (c x.1 y.1) (d x.2 y.2) 0 := by
  have e : ∀ x y : Int, fC x y 0 = if x = 0 then y else x := fun x y => by unfold fC; split <;> (try split) <;> omega
  refine ⟨fun a b => ?_, fun a b h => ?_, fun a b q h1 h2 => ?_, fun a b => ?_⟩
  · simp only [e, m.anti a.1 b.1, k.anti a.2 b.2]
    split <;> split <;> omega
  · simp only [e] at h
    split at h
    · rename_i c0
      exact Prod.ext (m.zero _ _ c0) (k.zero _ _ h)
    · omega
  · simp only [e] at h1 h2 ⊢
    have t := m.tr a.1 b.1 q.1
    by_cases c1 : c a.1 b.1 = 0
    · rw [if_pos c1] at h1
      have e1 := m.zero _ _ c1
      rw [← e1] at h2
      by_cases c2 : c a.1 q.1 = 0
      · rw [if_pos c2] at h2 ⊢
        exact k.tr _ _ _ h1 h2
      · rw [if_neg c2] at h2 ⊢
        exact h2
    · rw [if_neg c1] at h1
      by_cases c2 : c b.1 q.1 = 0
      · have e2 := m.zero _ _ c2
        rw [e2] at c1 h1
        rw [if_neg c1]
        exact h1
      · rw [if_neg c2] at h2
        have t := t h1 h2
        by_cases c3 : c a.1 q.1 = 0
        · have e3 := m.zero _ _ c3
          have := m.anti a.1 b.1
          rw [e3] at this h1 c1
          omega
        · rw [if_neg c3]; exact t
  · simp only [e]
    have := m.rng a.1 b.1
    have := k.rng a.2 b.2
    split <;> omega
theorem cm_n : Cm nC := by
  refine ⟨fun a b => ?_, fun a b h => ?_, fun a b d h1 h2 => ?_, fun a b => ?_⟩ <;> unfold nC at * <;> (repeat' split at *) <;> omega
theorem cmpL_swap : ∀ u v : List UInt8, cmpI (cmpL v u) = - cmpI (cmpL u v)
  | [], [] => rfl
  | [], _ :: _ => rfl
  | _ :: _, [] => rfl
  | a :: l, b :: m => by
    unfold cmpL
    by_cases c1 : a.toNat < b.toNat
    · rw [if_pos c1, if_neg (by omega), if_neg (by omega)]; rfl
    · by_cases c2 : a.toNat = b.toNat
      · rw [if_neg c1, if_pos c2, if_neg (by omega), if_pos c2.symm]; exact cmpL_swap l m
      · rw [if_neg c1, if_neg c2, if_pos (by omega)]; rfl
theorem cmpL_zero : ∀ u v : List UInt8, cmpI (cmpL u v) = 0 → u = v
  | [], [], _ => rfl
  | [], _ :: _, h => by cases h
  | _ :: _, [], h => by cases h
  | a :: l, b :: m, h => by
    unfold cmpL at h
    split at h
    · cases h
    · split at h
      · rename_i c
        rw [UInt8.toNat_inj.1 c, cmpL_zero l m h]
      · cases h
theorem cmpL_tr : ∀ u v w : List UInt8, cmpI (cmpL u v) ≤ 0 → cmpI (cmpL v w) ≤ 0 → cmpI (cmpL u w) ≤ 0
  | [], _, [], _, _ => Int.le_refl _
  | [], _, _ :: _, _, _ => by show Int.negSucc 0 ≤ 0; decide
  | _ :: _, [], _, h, _ => absurd h (by show ¬ (Int.ofNat 1 ≤ 0); decide)
  | _ :: _, _ :: _, [], _, h => absurd h (by show ¬ (Int.ofNat 1 ≤ 0); decide)
  | a :: l, b :: m, c :: r, h1, h2 => by
    unfold cmpL at h1 h2 ⊢
    have hg : ¬ cmpI .gt ≤ 0 := by decide
    have hl : cmpI .lt ≤ 0 := by decide
    by_cases c1 : a.toNat < b.toNat
    · by_cases c2 : b.toNat < c.toNat
      · rw [if_pos (by omega)]; exact hl
      · rw [if_neg c2] at h2
        by_cases c3 : b.toNat = c.toNat
        · rw [if_pos (by omega)]; exact hl
        · rw [if_neg c3] at h2; exact absurd h2 hg
    · rw [if_neg c1] at h1
      by_cases c4 : a.toNat = b.toNat
      · rw [if_pos c4] at h1
        rw [c4]
        by_cases c2 : b.toNat < c.toNat
        · rw [if_pos c2]; exact hl
        · rw [if_neg c2] at h2 ⊢
          by_cases c3 : b.toNat = c.toNat
          · rw [if_pos c3] at h2 ⊢
            exact cmpL_tr l m r h1 h2
          · rw [if_neg c3] at h2; exact absurd h2 hg
      · rw [if_neg c4] at h1; exact absurd h1 hg
theorem cm_s : Cm sC := ⟨cmpL_swap, cmpL_zero, cmpL_tr, fun a b => by unfold sC; cases cmpL a b <;> decide⟩
structure Stp where
  g : Int
  r : Int
  s : List UInt8
  n : Int
  i : Int
end Go.Proofs.YtjhgembcdndmkaaGreatDoor.St

namespace Go.Proofs
open Go.Shelf
def Tryz.sortNames_ren : Go.Shelf.Ren := ⟨fun | 6 => 90 | 15 => 111 | 14 => 110 | 28 => 133 | 29 => 134 | 20 => 125 | 21 => 126 | 22 => 127 | 23 => 128 | 24 => 129 | 25 => 130 | 26 => 131 | 27 => 132 | 46 => 154 | 47 => 155 | 48 => 156 | 49 => 157 | 50 => 158 | 57 => 173 | n => n, fun | 22 => 70 | 24 => 31 | 25 => 71 | 3 => 3 | 39 => 98 | 0 => 0 | 53 => 166 | 55 => 50 | 4 => 4 | 46 => 159 | 45 => 158 | 50 => 163 | 5 => 5 | 9 => 9 | 66 => 185 | 70 => 189 | 76 => 205 | 77 => 206 | n => n, fun | n => n⟩
theorem Tryz.sortNames : Go.Proofs.SlLaysF0.n6 Tryz.prog Tryz.sortNames_ren := {
  mixed := by kernel_rfl
  f6 := ⟨Tryz.f90.name, by decide, Tryz.func90.trans (congrArg some (by kernel_rfl))⟩
  f14 := ⟨Tryz.f110.name, by decide, Tryz.func110.trans (congrArg some (by kernel_rfl))⟩
  f15 := Tryz.func111.trans (congrArg some (by kernel_rfl))
  f20 := ⟨Tryz.f125.name, by decide, Tryz.func125.trans (congrArg some (by kernel_rfl))⟩
  f21 := ⟨Tryz.f126.name, by decide, Tryz.func126.trans (congrArg some (by kernel_rfl))⟩
  f22 := ⟨Tryz.f127.name, by decide, Tryz.func127.trans (congrArg some (by kernel_rfl))⟩
  f23 := ⟨Tryz.f128.name, by decide, Tryz.func128.trans (congrArg some (by kernel_rfl))⟩
  f24 := ⟨Tryz.f129.name, by decide, Tryz.func129.trans (congrArg some (by kernel_rfl))⟩
  f25 := ⟨Tryz.f130.name, by decide, Tryz.func130.trans (congrArg some (by kernel_rfl))⟩
  f26 := ⟨Tryz.f131.name, by decide, Tryz.func131.trans (congrArg some (by kernel_rfl))⟩
  f27 := ⟨Tryz.f132.name, by decide, Tryz.func132.trans (congrArg some (by kernel_rfl))⟩
  f28 := Tryz.func133.trans (congrArg some (by kernel_rfl))
  f29 := Tryz.func134.trans (congrArg some (by kernel_rfl))
  f46 := ⟨Tryz.f154.name, by decide, Tryz.func154.trans (congrArg some (by kernel_rfl))⟩
  f47 := Tryz.func155.trans (congrArg some (by kernel_rfl))
  f48 := Tryz.func156.trans (congrArg some (by kernel_rfl))
  f49 := ⟨Tryz.f157.name, by decide, Tryz.func157.trans (congrArg some (by kernel_rfl))⟩
  f50 := ⟨Tryz.f158.name, by decide, Tryz.func158.trans (congrArg some (by kernel_rfl))⟩
  f57 := ⟨Tryz.f173.name, by decide, Tryz.func173.trans (congrArg some (by kernel_rfl))⟩
  t0 := Tryz.underlying0
  a0 := Tryz.isAgg0
  z0 := Tryz.sizeOf0
  v0 := Tryz.zeroValue0
  t3 := Tryz.underlying3
  a3 := Tryz.isAgg3
  z3 := Tryz.sizeOf3
  v3 := Tryz.zeroValue3
  t4 := Tryz.underlying4
  a4 := Tryz.isAgg4
  z4 := Tryz.sizeOf4
  v4 := Tryz.zeroValue4
  t5 := Tryz.underlying5
  a5 := Tryz.isAgg5
  z5 := Tryz.sizeOf5
  v5 := Tryz.zeroValue5
  t9 := Tryz.underlying9
  a9 := Tryz.isAgg9
  z9 := Tryz.sizeOf9
  v9 := Tryz.zeroValue9
  t22 := Tryz.underlying70
  a22 := Tryz.isAgg70
  z22 := Tryz.sizeOf70
  v22 := Tryz.zeroValue70
  t25 := Tryz.underlying71
  a25 := Tryz.isAgg71
  z25 := Tryz.sizeOf71
  v25 := Tryz.zeroValue71
  t39 := Tryz.underlying98
  a39 := Tryz.isAgg98
  z39 := Tryz.sizeOf98
  v39 := Tryz.zeroValue98
  t45 := Tryz.underlying158
  a45 := Tryz.isAgg158
  z45 := Tryz.sizeOf158
  v45 := Tryz.zeroValue158
  t46 := Tryz.underlying159
  a46 := Tryz.isAgg159
  z46 := Tryz.sizeOf159
  v46 := Tryz.zeroValue159
  t50 := Tryz.underlying163
  a50 := Tryz.isAgg163
  z50 := Tryz.sizeOf163
  v50 := Tryz.zeroValue163
  t53 := Tryz.underlying166
  a53 := Tryz.isAgg166
  z53 := Tryz.sizeOf166
  v53 := Tryz.zeroValue166
  t55 := Tryz.underlying50
  a55 := Tryz.isAgg50
  z55 := Tryz.sizeOf50
  v55 := Tryz.zeroValue50
  t66 := Tryz.underlying185
  a66 := Tryz.isAgg185
  z66 := Tryz.sizeOf185
  v66 := Tryz.zeroValue185
  t70 := Tryz.underlying189
  a70 := Tryz.isAgg189
  z70 := Tryz.sizeOf189
  v70 := Tryz.zeroValue189
  t76 := Tryz.underlying205
  a76 := Tryz.isAgg205
  z76 := Tryz.sizeOf205
  v76 := Tryz.zeroValue205
  t77 := Tryz.underlying206
  a77 := Tryz.isAgg206
  z77 := Tryz.sizeOf206
  v77 := Tryz.zeroValue206 }
end Go.Proofs

namespace Go.Proofs.YtjhgembcdndmkaaGreatDoor.St
open Go Go.Proofs.YtjhgembcdndmkaaGreatDoor.Am Go.Proofs Go.RowKit
attribute [local simp] xr_mov xd_mov xr_pick xd_pick xr_bin xd_bin xr_build xd_build xr_fld xd_fld xr_partN xd_partN xr_lenS xr_lenL xd_lenL xr_load1 xd_load1 xr_loadN xd_loadN xr_new xd_new xr_box xr_buildSl xd_buildSl xr_idxAddrSl xd_idxAddrSl xd_idxAddrArr xd_idxStr xr_sliceSl xd_sliceSl orU_some orU_none lenSA_str lenSA_strOf lenLA_sl lenLA_nil xfn xcode xdrawn xr_nil xr_kg xr_cmp xcmp_some xr_call xr_store xr_append xd_append xap_sl xap_nl xapq_some xsrc_sl xsrc_nil xapp_nil xapp_grow xset xown xnx_some xnp_some xnq_some xd_nil xdl_old xda_some xd_call xd_store xd_kg xdn_some xld xal kindOf isAlloc allocs xins xrem xall xput xget xwhole xmine xcont xq xqs xres XS.add XR.out XR.outU XR.ups xsets XR.res Rs.seq Rs.inSc Rs.block mapO tupleA sv_args adv_eq tget eqs8 eqs7 eqi8 eqi7 eqg8 eqn8 eqn7 cells_strOf cells_int cells_agg cells_bool cells_str cells_sl cells_nil cells_ptr at_int at_str at_strOf at_bool at_sl at_nil at_ptr unstr_strOf fill_nil fill_cons replA ev_tm ev_vl sv_stv bin_add bin_sub bin_lss bin_gtr bin_eql bin_neq nth0 nth1 nth2 xst_idxAddrSl xst_idxStr xst_sliceStr xst_sliceSl xsl_sl xbd slN Nat.testBit
section
variable {G : Hp → Prop}
theorem bcmp_okT : EntOK Tryz.prog (fun _ => True) e_bcmp := mkEnt_ok ok_bcmp fun z h gg _ _ => by
  obtain ⟨u, v⟩ := z
  refine plain_of (U := []) (K := []) (fun _ _ => trivial) (by simp) (by simp) 0 bcmp_code (by simp [bcmp_fu]) rfl ?_
  simp [bcmp_fu, sC]
theorem scmp_okT : EntOK Tryz.prog (fun _ => True) e_scmp := mkEnt_ok ok_scmp fun z h gg _ _ => by
  obtain ⟨u, v⟩ := z
  refine plain_of (U := []) (K := [e_bcmp]) (fun _ _ => trivial) (by simp) (by simp [bcmp_okT.entK]) 0 scmp_code (by simp [scmp_fu]) rfl ?_
  simp [scmp_fu, x_bcmp, f_bcmp]
theorem kcmp_okT : EntOK Tryz.prog (fun _ => True) e_kcmp := mkEnt_ok ok_kcmp fun z h gg _ _ => by
  obtain ⟨u, v⟩ := z
  refine plain_of (U := []) (K := [e_scmp]) (fun _ _ => trivial) (by simp) (by simp [scmp_okT.entK]) 0 kcmp_code (by simp [kcmp_fu]) rfl ?_
  simp [kcmp_fu, x_scmp, f_scmp]
theorem snum_okT : EntOK Tryz.prog (fun _ => True) e_snum := mkEnt_ok ok_snum fun z h gg _ _ => by
  obtain ⟨a, b⟩ := z
  refine plain_of (U := []) (K := []) (fun _ _ => trivial) (by simp) (by simp) 0 snum_code (by simp [snum_fu]) rfl ?_
  show _ = some (int64 (nC a b))
  unfold nC
  by_cases c : a < b
  · simp [snum_fu, c]
  · by_cases c2 : b < a <;> simp [snum_fu, c, c2]
theorem first_okT : EntOK Tryz.prog (fun _ => True) e_first := mkEnt_ok ok_first fun w h gg _ _ => by
  obtain ⟨x, y, z⟩ := w
  refine plain_of (U := []) (K := []) (fun _ _ => trivial) (by simp) (by simp) 10 first_code (by simp [first_fu]) rfl ?_
  show _ = some (int64 (fC x y z))
  unfold fC
  by_cases c : x = 0
  · by_cases c2 : y = 0
    · by_cases c3 : z = 0 <;> simp [first_fu, first_0, xr_idxArr1, xia_agg, xloop, c, c2, c3, w64]
    · simp [first_fu, first_0, xr_idxArr1, xia_agg, xloop, c, c2, w64]
  · simp [first_fu, first_0, xr_idxArr1, xia_agg, xloop, c, w64]
theorem cmpb_okT : EntOK Tryz.prog (fun _ => True) e_cmpb := mkEnt_ok ok_cmpb fun z h gg _ _ => by
  obtain ⟨r, s, r', s'⟩ := z
  refine plain_of (U := [e_snum, e_kcmp, e_first]) (K := []) (fun _ _ => trivial) (by simp [snum_okT, kcmp_okT, first_okT]) (by simp) 0 cmpb_code (by simp [cmpb_fu]) rfl ?_
  simp [cmpb_fu, x_snum, f_snum, x_kcmp, f_kcmp, x_first, f_first, bC, xd_build]
theorem cmpn_okT : EntOK Tryz.prog (fun _ => True) e_cmpn := mkEnt_ok ok_cmpn fun z h gg _ _ => by
  obtain ⟨r, s, n, r', s', n'⟩ := z
  refine plain_of (U := [e_snum, e_cmpb, e_first]) (K := []) (fun _ _ => trivial) (by simp [snum_okT, cmpb_okT, first_okT]) (by simp) 0 cmpn_code (by simp [cmpn_fu]) rfl ?_
  simp [cmpn_fu, x_snum, f_snum, x_cmpb, f_cmpb, x_first, f_first, mC, xd_build]
end
abbrev Nm := Int × List UInt8 × Int
noncomputable def nmA (x : Nm) : List AV := [int64 x.1, strOf x.2.1, int64 x.2.2]
def nmV (x : Nm) : List Value := [.int .i64 x.1, .string ⟨x.2.1.toArray⟩, .int .i64 x.2.2]
noncomputable def mN (x y : Nm) : Int := mC x.1 x.2.1 x.2.2 y.1 y.2.1 y.2.2
noncomputable def flN (l : List Nm) : List AV := l.flatMap nmA
theorem flN_nil : flN [] = [] := rfl
theorem flN_cons (x : Nm) (l : List Nm) : flN (x :: l) = int64 x.1 :: strOf x.2.1 :: int64 x.2.2 :: flN l := rfl
theorem flN_len : ∀ l : List Nm, (flN l).length = 3 * l.length
  | [] => rfl
  | x :: l => by rw [flN_cons]; simp only [List.length_cons, flN_len l]; omega
theorem flN_app (a b : List Nm) : flN (a ++ b) = flN a ++ flN b := List.flatMap_append
theorem flN_eq (a b : List Nm) : flN a = flN b ↔ a = b := by
  constructor
  · intro h
    induction a generalizing b with
    | nil => cases b with
      | nil => rfl
      | cons y b => cases h
    | cons x a ih => cases b with
      | nil => cases h
      | cons y b =>
        rw [flN_cons, flN_cons] at h
        simp only [List.cons.injEq, AV.int.injEq, true_and, strOf_eq] at h
        obtain ⟨h1, h2, h3, h4⟩ := h
        rw [ih b h4]
        congr 1
        exact Prod.ext h1 (Prod.ext h2 h3)
  · rintro rfl; rfl
theorem cm_m : Cm mN := by
  have m := Cm.lex (Cm.lex (Cm.lex cm_n cm_s) (⟨fun _ _ => rfl, fun _ _ _ => rfl, fun _ _ _ _ _ => Int.le_refl 0, fun _ _ => by decide⟩ : Cm fun (_ _ : Unit) => (0 : Int))) cm_n
  have e : ∀ a b : Nm, mN a b = fC (fC (fC (nC a.1 b.1) (sC a.2.1 b.2.1) 0) 0 0) (nC a.2.2 b.2.2) 0 := fun a b => by
    show mC _ _ _ _ _ _ = _
    unfold mC bC
    have : ∀ x : Int, fC x 0 0 = x := fun x => by unfold fC; split <;> simp_all
    rw [this]
  let f : Nm → (((Int × List UInt8) × Unit) × Int) := fun x => (((x.1, x.2.1), ()), x.2.2)
  refine ⟨fun a b => ?_, fun a b h => ?_, fun a b d h1 h2 => ?_, fun a b => ?_⟩
  · rw [e, e]; exact m.anti (f a) (f b)
  · rw [e] at h
    have := m.zero (f a) (f b) h
    simp only [f, Prod.mk.injEq, and_true] at this
    exact Prod.ext this.1.1 (Prod.ext this.1.2 this.2)
  · rw [e] at h1 h2 ⊢
    exact m.tr (f a) (f b) (f d) h1 h2
  · rw [e]; exact m.rng (f a) (f b)
theorem ltN (x y : Nm) : ltOf mN x y = decide (mN x y < 0) := rfl
theorem swoN : Go.Sort.SWO (ltOf mN) where
  irrefl x := by rw [ltN, cm_m.refl]; rfl
  trans x y z h1 h2 := by
    rw [ltN] at *
    have h1 := of_decide_eq_true h1
    have h2 := of_decide_eq_true h2
    have t := cm_m.tr x y z (by omega) (by omega)
    refine decide_eq_true ?_
    rcases Int.lt_or_eq_of_le t with c | c
    · exact c
    · have := cm_m.zero _ _ c
      subst this
      have := cm_m.anti x y
      omega
  ntrans x y z h1 h2 := by
    rw [ltN] at *
    have h1 := of_decide_eq_false h1
    have h2 := of_decide_eq_false h2
    have a1 := cm_m.anti x y
    have a2 := cm_m.anti y z
    have a3 := cm_m.anti x z
    have t := cm_m.tr z y x (by omega) (by omega)
    exact decide_eq_false (by omega)
end Go.Proofs.YtjhgembcdndmkaaGreatDoor.St

namespace Go.Proofs.YtjhgembcdndmkaaGreatDoor.St
open Go Go.Proofs.YtjhgembcdndmkaaGreatDoor.Am Go.Proofs Go.RowKit
noncomputable def e_sortf : Ent := mkEnt 90 2 [.osl 0] (fun z_ : Pos × Nat × Bool × (List Nm) => [.sl z_.1 0 0 z_.2.2.2.length z_.2.1 z_.2.2.1 3, .fn (.func 34) [] []]) (fun z_ => [flN z_.2.2.2]) (fun z_ => 0 < z_.2.2.2.length ∧ z_.2.2.2.length ≤ 300) (fun z_ => .upd [(z_.1, flN (sorted mN z_.2.2.2))] (.tup []))
theorem f_sortf : e_sortf.f = 90 := rfl
theorem x_sortf {U : List Ent} {b : Pos} {st : XS} (hU : tget U 90 = some e_sortf) (p : Pos) (c : Nat) (ex : Bool) (d : List Nm) (hp : 0 < d.length ∧ d.length ≤ 300) (hq : xqs st.X [.sl p 0 0 d.length c ex 3, .fn (.func 34) [] []] [.osl 0] = some [flN d]) (ho : ((.upd [(p, flN (sorted mN d))] (.tup []) : XR).ups.all fun x => (xown st.X x.1 0).isSome) = true) : xcall U b 90 [.sl p 0 0 d.length c ex 3, .fn (.func 34) [] []] st = none ∧ xupd U b 90 [.sl p 0 0 d.length c ex 3, .fn (.func 34) [] []] st = some (XR.outU b st (.upd [(p, flN (sorted mN d))] (.tup []))) :=
  xupd_at hU rfl hq (mkEnt_spec (by rintro ⟨a0, a1, a2, a3⟩ ⟨b0, b1, b2, b3⟩ h hc; simp only [List.cons.injEq, AV.agg.injEq, AV.tup.injEq, AV.int.injEq, AV.bool.injEq, AV.ptr.injEq, AV.sl.injEq, strOf_eq, byt_eq, map_strOf_eq, true_and, and_true, Int.natCast_inj, flN_eq] at h hc; simp [h, hc]) (p, c, ex, d) hp) (by first | rfl | (split <;> rfl)) ho
noncomputable def e_sort0 : Ent := mkEnt 90 2 [] (fun z_ : Pos × Nat × Bool => [.sl z_.1 0 0 0 z_.2.1 z_.2.2 3, .fn (.func 34) [] []]) (fun _ => []) (fun _ => True) (fun _ => .plain (.tup []))
theorem nm_rel (φ : Phi) (x : Nm) : RelL φ (nmA x) (nmV x) := by
  obtain ⟨r, s, n⟩ := x
  exact .cons (.int _ _) (.cons (strOf_relA φ s) (.cons (.int _ _) .nil))
theorem nm_inv (φ : Phi) (x : Nm) (l : List Value) (h : RelL φ (nmA x) l) : l = nmV x := by
  obtain ⟨r, s, n⟩ := x
  cases h with
  | cons a h => cases h with
    | cons b h => cases h with
      | cons c h => cases h with
        | nil => cases a; cases c; rw [rel_strOf b]; rfl
theorem sort_ok {G : Hp → Prop} : EntK Tryz.prog G e_sortf := mkEnt_kit ok_sortf fun z h _ hz hc => by
  obtain ⟨p, c, ex, d⟩ := z
  obtain ⟨h0, h1⟩ := hz
  dsimp only at h0 h1 hc ⊢
  obtain ⟨k1, k2, e, hq, hr⟩ := hc
  cases e
  obtain ⟨id, off, n, cap, ex', es, e, hh⟩ := hq
  cases e
  have hcmp : ∀ x y : Nm, AmFn Tryz.prog 34 [.agg (nmA x), .agg (nmA y)] (bareH Tryz.prog) (.int .i64 (mN x y)) (bareH Tryz.prog) := fun x y =>
    cmpn_okT.2 _ [] (.plain (int64 (mN x y))) _ trivial rfl (mkEnt_spec (by rintro ⟨a0, a1, a2, a3, a4, a5⟩ ⟨b0, b1, b2, b3, b4, b5⟩ h hc; simp only [List.cons.injEq, AV.agg.injEq, AV.int.injEq, strOf_eq, true_and, and_true] at h hc; simp [h, hc]) (x.1, x.2.1, x.2.2, y.1, y.2.1, y.2.2) trivial) rfl
  have K := sort_kit (P := Tryz.prog) (ρ := Tryz.sortNames_ren) Tryz.sortNames 3 (by decide) Tryz.isAgg31 Tryz.sizeOf31 nmV nmA (fun _ => rfl) (fun x v hv => by simp only [nmV, List.mem_cons, List.not_mem_nil, or_false] at hv; rcases hv with rfl | rfl | rfl <;> rfl) nm_rel nm_inv mN swoN 34 (enters_of Tryz.func34 (by kernel_rfl) rfl) hcmp
    (h := h) (id := p) (cap := c) (ex := ex) (d := d) (pre := []) (post := []) h0 (by omega) (by simpa [flN] using hh.gro rfl)
  simp only [List.nil_append, List.append_nil, List.length_nil] at K
  exact K
theorem sort0_ok {G : Hp → Prop} : EntK Tryz.prog G e_sort0 := mkEnt_kit ok_sortf fun z h _ hz hc => by
  obtain ⟨p, c, ex⟩ := z
  refine KitFn.kitH fun φ w xs hR hx => ?_
  obtain ⟨X, F, rfl, hX, hF⟩ : ∃ X F, xs = #[X, F] ∧ Rel φ (.sl p 0 0 0 c ex 3) X ∧ Rel φ (.fn (.func 34) [] []) F := by
    cases xs with
    | mk l =>
      cases hx with
      | cons a r => cases r with
        | cons b r => cases r with
          | nil => exact ⟨_, _, rfl, a, b⟩
  obtain ⟨pa, ca, rfl⟩ : ∃ pa ca, X = .slice pa 0 ca := by
    cases hX with
    | sl => exact ⟨_, _, rfl⟩
    | sl0 => exact ⟨_, _, rfl⟩
  refine (AnyF.slices_SortFunc_none (P := Tryz.prog) (ρ := Tryz.sortNames_ren) { Tryz.sortNames with } pa ca F w).mono fun e w' ⟨he, hw⟩ => ?_
  subst hw
  exact ⟨_, he, .tup .nil, Below.refl _ _⟩
end Go.Proofs.YtjhgembcdndmkaaGreatDoor.St

namespace Go.Proofs.YtjhgembcdndmkaaGreatDoor.St
open Go Go.Proofs.YtjhgembcdndmkaaGreatDoor.Am Go.Proofs Go.RowKit
attribute [local simp] xr_mov xd_mov xr_pick xd_pick xr_bin xd_bin xr_build xd_build xr_fld xd_fld xr_partN xd_partN xr_lenS xr_lenL xd_lenL xr_load1 xd_load1 xr_loadN xd_loadN xr_new xd_new xr_box xr_buildSl xd_buildSl xr_idxAddrSl xd_idxAddrSl xd_idxAddrArr xd_idxStr xr_sliceSl xd_sliceSl orU_some orU_none lenSA_str lenSA_strOf lenLA_sl lenLA_nil xfn xcode xdrawn xr_nil xr_kg xr_cmp xcmp_some xr_call xr_store xr_append xd_append xap_sl xap_nl xapq_some xsrc_sl xsrc_nil xapp_nil xapp_grow xset xown xnx_some xnp_some xnq_some xd_nil xdl_old xda_some xd_call xd_store xd_kg xdn_some xld xal kindOf isAlloc allocs xins xrem xall xput xget xwhole xmine xcont xq xqs xres XS.add XR.out XR.outU XR.ups xsets XR.res Rs.seq Rs.inSc Rs.block mapO tupleA sv_args adv_eq tget eqs8 eqs7 eqi8 eqi7 eqg8 eqn8 eqn7 cells_strOf cells_int cells_agg cells_bool cells_str cells_sl cells_nil cells_ptr at_int at_str at_strOf at_bool at_sl at_nil at_ptr unstr_strOf fill_nil fill_cons replA ev_tm ev_vl sv_stv bin_add bin_sub bin_lss bin_gtr bin_eql bin_neq nth0 nth1 nth2 xst_idxAddrSl xst_idxStr xst_sliceStr xst_sliceSl xsl_sl xbd slN Nat.testBit
noncomputable def clV (b : Pos) (n : Nat) : AV := .sl b 0 0 n n (decide (n = 0)) 3
noncomputable def e_clone : Ent := mkEnt 89 1 [.sl 0] (fun z_ : Pos × Nat × Nat × Bool × (List Nm) => [.sl z_.1 z_.2.1 0 z_.2.2.2.2.length z_.2.2.1 z_.2.2.2.1 3]) (fun z_ => [flN z_.2.2.2.2]) (fun z_ => z_.2.2.2.2.length ≤ 300) (fun z_ => .outs [] (fun b => [flN z_.2.2.2.2]) (fun b => clV b z_.2.2.2.2.length))
theorem f_clone : e_clone.f = 89 := rfl
theorem x_clone {U : List Ent} {b : Pos} {st : XS} (hU : tget U 89 = some e_clone) (p : Pos) (g : Nat) (c : Nat) (ex : Bool) (d : List Nm) (hp : d.length ≤ 300) (hq : xqs st.X [.sl p g 0 d.length c ex 3] [.sl 0] = some [flN d]) (ho : ((.outs [] (fun b => [flN d]) (fun b => clV b d.length) : XR).ups.all fun x => (xown st.X x.1 0).isSome) = true) : xcall U b 89 [.sl p g 0 d.length c ex 3] st = none ∧ xupd U b 89 [.sl p g 0 d.length c ex 3] st = some (XR.outU b st (.outs [] (fun b => [flN d]) (fun b => clV b d.length))) :=
  xupd_at hU rfl hq (mkEnt_spec (by rintro ⟨a0, a1, a2, a3, a4⟩ ⟨b0, b1, b2, b3, b4⟩ h hc; simp only [List.cons.injEq, AV.agg.injEq, AV.tup.injEq, AV.int.injEq, AV.bool.injEq, AV.ptr.injEq, AV.sl.injEq, strOf_eq, byt_eq, map_strOf_eq, true_and, and_true, Int.natCast_inj, flN_eq] at h hc; simp [h, hc]) (p, g, c, ex, d) hp) (by first | rfl | (split <;> rfl)) ho
theorem flN_plain (l : List Nm) : ∀ y ∈ flN l, y.plain = true := by
  intro y m
  unfold flN at m
  obtain ⟨x, _, m⟩ := List.mem_flatMap.1 m
  simp only [nmA, List.mem_cons, List.not_mem_nil, or_false] at m
  rcases m with rfl | rfl | rfl <;> rfl
theorem flN_atom (l : List Nm) : ∀ y ∈ flN l, y.atom = true := by
  intro y m
  unfold flN at m
  obtain ⟨x, _, m⟩ := List.mem_flatMap.1 m
  simp only [nmA, List.mem_cons, List.not_mem_nil, or_false] at m
  rcases m with rfl | rfl | rfl <;> rfl
theorem eqSl (no : Bool) (p : Pos) (g off n c : Nat) (ex : Bool) (es : Nat) : binA .eql .slice no (.sl p g off n c ex es) .nilSl = some (.bool false) := rfl
theorem xapp_none {b : Pos} {s : XS} {es bytes g off k cap : Nat} {ex : Bool} {id : Pos} (h1 : 0 < es) (h2 : bytes ≤ 4096) : xapp b s es bytes (.sl id g off k cap ex es) 0 [] = (xsrc s.X es (.sl id g off k cap ex es)).map fun _ => (.sl id g off k cap ex es, s) := by
  unfold xapp
  rw [if_pos ⟨h1, h2, rfl⟩]
  simp only [if_true, or_true]
theorem nms_open {h : Hp} {p : Pos} {g c : Nat} {ex : Bool} {d : List Nm} {r : List AV} (hc : Conts h (.sl p g 0 d.length c ex 3 :: r) [.sl 0] [flN d]) : ∃ T, XB.Holds h ⟨p, g, false, flN d ++ T⟩ := by
  obtain ⟨k1, k2, e, ⟨v, e1, hq⟩, hr⟩ := hc
  cases e
  cases e1
  generalize hl : flN d = l at hq
  cases hq with
  | mk k hn =>
    rename_i L
    refine ⟨L.drop (d.length * 3), ?_⟩
    rw [List.drop_zero, List.take_append_drop]
    exact k
theorem clone_ok {G : Hp → Prop} (gm : ∀ h h', G h → Only [] h h' → G h') : EntOK Tryz.prog G e_clone := mkEnt_ok ok_clone fun z h gg hz hc => by
  obtain ⟨p, g, c, ex, d⟩ := z
  dsimp only at hz hc ⊢
  obtain ⟨T, hT⟩ := nms_open hc
  have h3 := flN_len d
  have hne : ∀ i, (adv h.next i = p) = False := fun i => eq_false fun q => by have := hT.old; dsimp only at this; rw [← q, adv_num] at this; omega
  by_cases c0 : d = []
  · subst c0
    refine outs_of [] _ _ [(adv h.next 0, 0)] (fun _ o => gm _ _ gg o) (U := []) (K := []) (X := [⟨p, g, false, flN [] ++ T⟩]) (by simp) (by simp) 0 (.start1 hT rfl) (by simp) clone_code (by simp [clone_fu]) (by simp) (by simp) (w := .sl (adv h.next 0) 0 0 0 0 true 3) (l1 := []) (l2 := [[]]) ?_ .nil ?_ ?_
    · simp [clone_fu, owns, ownsG, flN_nil, eqSl, xsrc_sl, xapp_none, hne]
    · exact .cons (.self (by simp)) .nil
    · exact .sl 0 rfl
  · have hp : 0 < d.length := List.length_pos_iff.2 c0
    have l1 : (d.length * 3 ≤ 3 * d.length + T.length) = True := eq_true (by omega)
    have t1 : (flN d ++ T).take (d.length * 3) = flN d := by rw [List.take_append_of_le_length (by omega)]; exact List.take_of_length_le (by omega)
    have a1 : (flN d).all AV.atom = true := List.all_eq_true.2 (flN_atom d)
    have z1 : d.length ≠ 0 := by omega
    have z2 : d.length ≤ 1073741824 := by omega
    have z3 := fun s => xapp_zero (s := s) (b := h.next) (bytes := 32) (n := d.length) (g := 0) (off := 0) (id := adv h.next 0) (by omega) a1 z1 z2
    refine outs_of [] _ _ [(adv h.next 1, 0)] (fun _ o => gm _ _ gg o) (U := []) (K := []) (X := [⟨p, g, false, flN d ++ T⟩]) (by simp) (by simp) 0 (.start1 hT rfl) (by simp) clone_code (by simp [clone_fu]) (by simp) (by simp) (w := .sl (adv h.next 1) 0 0 d.length d.length false 3) (l1 := []) (l2 := [flN d]) ?_ .nil ?_ ?_
    · simp [clone_fu, owns, ownsG, flN_nil, eqSl, xsrc_sl, z3, hne, h3, l1, t1]
    · exact .cons (.self (flN_plain d)) .nil
    · unfold clV; rw [decide_eq_false z1]; exact .slN 0 rfl (.inr rfl)
end Go.Proofs.YtjhgembcdndmkaaGreatDoor.St

namespace Go.Proofs.YtjhgembcdndmkaaGreatDoor.St
open Go Go.Proofs.YtjhgembcdndmkaaGreatDoor.Am Go.Proofs Go.RowKit
attribute [local simp] xr_mov xd_mov xr_pick xd_pick xr_bin xd_bin xr_build xd_build xr_fld xd_fld xr_partN xd_partN xr_lenS xr_lenL xd_lenL xr_load1 xd_load1 xr_loadN xd_loadN xr_new xd_new xr_box xr_buildSl xd_buildSl xr_idxAddrSl xd_idxAddrSl xd_idxAddrArr xd_idxStr xr_sliceSl xd_sliceSl orU_some orU_none lenSA_str lenSA_strOf lenLA_sl lenLA_nil xfn xcode xdrawn xr_nil xr_kg xr_cmp xcmp_some xr_call xr_store xr_append xd_append xap_sl xap_nl xapq_some xsrc_sl xsrc_nil xapp_nil xapp_grow xset xown xnx_some xnp_some xnq_some xd_nil xdl_old xda_some xd_call xd_store xd_kg xdn_some xld xal kindOf isAlloc allocs xins xrem xall xput xget xwhole xmine xcont xq xqs xres XS.add XR.out XR.outU XR.ups xsets XR.res Rs.seq Rs.inSc Rs.block mapO tupleA sv_args adv_eq tget eqs8 eqs7 eqi8 eqi7 eqg8 eqn8 eqn7 cells_strOf cells_int cells_agg cells_bool cells_str cells_sl cells_nil cells_ptr at_int at_str at_strOf at_bool at_sl at_nil at_ptr unstr_strOf fill_nil fill_cons replA ev_tm ev_vl sv_stv bin_add bin_sub bin_lss bin_gtr bin_eql bin_neq nth0 nth1 nth2 xst_idxAddrSl xst_idxStr xst_sliceStr xst_sliceSl xsl_sl xbd slN Nat.testBit
def stN (u : List Nm) (x : Nm) : List Nm := if u.getLast? = some x then u else u ++ [x]
def ddN (l : List Nm) : List Nm := l.foldl stN []
theorem snoc_ind {α : Type} {p : List α → Prop} (h0 : p []) (h1 : ∀ l x, p l → p (l ++ [x])) (l : List α) : p l := by
  have : ∀ m : List α, p m.reverse := fun m => by
    induction m with
    | nil => exact h0
    | cons x m ih => rw [List.reverse_cons]; exact h1 _ _ ih
  have := this l.reverse
  rwa [List.reverse_reverse] at this
theorem ddN_snoc (l : List Nm) (x : Nm) : ddN (l ++ [x]) = stN (ddN l) x := by unfold ddN; rw [List.foldl_append]; rfl
theorem ddN_last (l : List Nm) : (ddN l).getLast? = l.getLast? := by
  refine snoc_ind (p := fun l => (ddN l).getLast? = l.getLast?) rfl (fun l x _ => ?_) l
  rw [ddN_snoc]
  unfold stN
  split
  · rename_i c; rw [c]; simp
  · simp
theorem ddN_len (l : List Nm) : (ddN l).length ≤ l.length := by
  refine snoc_ind (p := fun l => (ddN l).length ≤ l.length) (Nat.le_refl _) (fun l x ih => ?_) l
  rw [ddN_snoc]
  unfold stN
  split <;> simp <;> omega
theorem ddN_step (d : List Nm) {i : Nat} (h0 : 0 < i) (hi : i < d.length) : ddN (d.take (i + 1)) = if d[i - 1] = d[i] then ddN (d.take i) else ddN (d.take i) ++ [d[i]] := by
  rw [List.take_succ_eq_append_getElem hi, ddN_snoc]
  unfold stN
  rw [ddN_last]
  have : (d.take i).getLast? = some d[i - 1] := by
    rw [List.getLast?_eq_getElem?, List.length_take, List.getElem?_take, if_pos (by omega), List.getElem?_eq_getElem (by omega)]
    congr 1
    simp only [show min i d.length - 1 = i - 1 by omega]
  rw [this]
  simp only [Option.some.injEq]
theorem flN_at (d : List Nm) {i : Nat} (hi : i < d.length) : ((flN d).drop (i * 3)).take 3 = nmA d[i] := by
  conv => lhs; rw [← List.take_append_drop i d, flN_app, List.drop_append_of_le_length (by rw [flN_len, List.length_take]; omega)]
  rw [List.drop_eq_nil_of_le (by rw [flN_len, List.length_take]; omega), List.nil_append, List.drop_eq_getElem_cons hi, flN_cons]
  rfl
theorem nmEq (no : Bool) (x y : Nm) : binA .eql (.flat [.int, .str, .int]) no (.agg (nmA x)) (.agg (nmA y)) = some (.bool (decide (x = y))) := by
  obtain ⟨r, s, n⟩ := x
  obtain ⟨r', s', n'⟩ := y
  show binA _ _ _ (.agg [int64 r, strOf s, int64 n]) (.agg [int64 r', strOf s', int64 n']) = _
  rw [eqG no (sksC (skI _ _) (sksC (skS _ _) (sksC (skI _ _) sks_nil)))]
  simp
theorem neG {ks : List LK} {l r : List AV} {x : Bool} (no : Bool) (h : sameKs ks l r = some x) : binA .neq (.flat ks) no (.agg l) (.agg r) = some (.bool !x) := by
  show (match sameKs ks l r with | some b => notIf true b | none => none) = _
  rw [h]; cases x <;> rfl
theorem nmNe (no : Bool) (x y : Nm) : binA .neq (.flat [.int, .str, .int]) no (.agg (nmA x)) (.agg (nmA y)) = some (.bool !decide (x = y)) := by
  obtain ⟨r, s, n⟩ := x
  obtain ⟨r', s', n'⟩ := y
  show binA _ _ _ (.agg [int64 r, strOf s, int64 n]) (.agg [int64 r', strOf s', int64 n']) = _
  rw [neG no (sksC (skI _ _) (sksC (skS _ _) (sksC (skI _ _) sks_nil)))]
  simp
theorem nm_eq8 (x : Nm) : eqAV 8 (.agg (nmA x)) (.agg (nmA x)) = true := by
  simp [nmA]
theorem nm_cells (x : Nm) : (AV.agg (nmA x)).cells = nmA x := rfl
theorem nm_len (x : Nm) : (nmA x).length = 3 := rfl
theorem nm_all (x : Nm) : (nmA x).all AV.atom = true := rfl
noncomputable def blkN (u d : List Nm) : List AV := flN (u ++ d.drop u.length)
theorem blkN_len {u d : List Nm} (h : u.length ≤ d.length) : (blkN u d).length = 3 * d.length := by unfold blkN; rw [flN_len]; simp; omega
theorem blkN_at {u d : List Nm} {i : Nat} (h : u.length ≤ i) (hi : i < d.length) : ((blkN u d).drop (i * 3)).take 3 = nmA d[i] := by
  unfold blkN
  rw [flN_at _ (by simp; omega)]
  congr 1
  rw [List.getElem_append_right h, List.getElem_drop]
  congr 1
  omega
theorem blkN_put {u d : List Nm} (x : Nm) (h : u.length < d.length) : (blkN u d).take (u.length * 3) ++ (nmA x ++ (blkN u d).drop (u.length * 3 + 3)) = blkN (u ++ [x]) d := by
  unfold blkN
  have e : (flN u).length = u.length * 3 := by rw [flN_len]; omega
  rw [flN_app, List.take_append_of_le_length (by omega), List.take_of_length_le (by omega), List.append_assoc, flN_app]
  congr 1
  rw [flN_app, show flN [x] = nmA x from by simp [flN], List.length_append, List.length_singleton]
  have e2 : (flN u ++ flN (d.drop u.length)).drop (u.length * 3 + 3) = flN (d.drop (u.length + 1)) := by
    rw [List.drop_append, List.drop_eq_nil_of_le (by omega), List.nil_append, show u.length * 3 + 3 - (flN u).length = 3 by omega, List.drop_eq_getElem_cons h, flN_cons]
    rfl
  rw [e2]
theorem compact_in (d : List Nm) (hd : d.length ≤ 300) (b p : Pos) (c c' N k0 m : Nat) (hkm : k0 + m = d.length) (ex : Bool) (K : Nat) : ∀ (fuel r j : Nat) (env : T AV) (u : List Nm), sv env 0 = .sl p 0 0 d.length c ex 3 → sv env 4 = .sl p 0 (k0 * 3) m c' ex 3 → sv env 3 = int64 (u.length : Int) → sv env 5 = int64 ((j : Int) + 1) → u = ddN (d.take (k0 + j + 1)) → u.length ≤ k0 + j → j + 1 + r = m → r < fuel →
    ∃ env', xloop (xcode Tryz.prog [] [] b K compact_0) fuel env ⟨N, [⟨p, 0, true, blkN u d⟩]⟩ = some (.exit 2, env', ⟨N, [⟨p, 0, true, blkN (ddN d) d⟩]⟩) ∧ sv env' 0 = .sl p 0 0 d.length c ex 3 ∧ sv env' 3 = int64 ((ddN d).length : Int) ∧ (ddN d).length < d.length
  | 0, r, j, env, u, _, _, _, _, _, _, _, hf => by omega
  | fuel + 1, r, j, env, u, h0, h4, h3, h5, hu, hul, hi, hf => by
    unfold xloop
    cases r with
    | zero =>
      obtain rfl : m = j + 1 := by omega
      rw [show k0 + j + 1 = d.length by omega, List.take_length] at hu
      subst hu
      have hlt : (ddN d).length < d.length := by omega
      simp [compact_0, h0, h3, h4, h5, hlt]
    | succ r =>
      have hi1 : k0 + j + 1 < d.length := by omega
      have key := compact_in d hd b p c c' N k0 m hkm ex K fuel r (j + 1)
      have hst := ddN_step d (i := k0 + j + 1) (by omega) hi1
      rw [show k0 + (j + 1) + 1 = k0 + j + 1 + 1 by omega, hst, ← hu] at key
      simp only [show k0 + j + 1 - 1 = k0 + j by omega] at key
      have L1 : ((blkN u d).drop (k0 * 3 + (j + 1) * 3)).take 3 = nmA d[k0 + j + 1] := by rw [← blkN_at (u := u) (by omega) hi1]; congr 2; omega
      have L2 : ((blkN u d).drop (k0 * 3 + j * 3)).take 3 = nmA d[k0 + j] := by rw [← blkN_at (u := u) hul (by omega)]; congr 2; omega
      have hput := blkN_put (u := u) (d := d) d[k0 + j + 1] (by omega)
      have hbl := blkN_len (u := u) (d := d) (by omega)
      generalize d[k0 + j + 1] = x at *
      generalize d[k0 + j] = y at *
      generalize xloop (xcode Tryz.prog [] [] b K compact_0) fuel = R at key ⊢
      have g1 : (j + 1 < m) = True := eq_true (by omega)
      have g2 : ((j : Int) + 1 < (m : Int)) = True := eq_true (by omega)
      have g3 : (0 ≤ (j : Int) + 1) = True := eq_true (by omega)
      have g4 : ((j : Int) < (m : Int)) = True := eq_true (by omega)
      have g5 : j < m := by omega
      have t1 : ((j : Int) + 1).toNat = j + 1 := by omega
      have w1 : wrapA .i64 (j : Int) = (j : Int) := w64 (by omega) (by omega)
      have w2 : wrapA .i64 ((j : Int) + 1 + 1) = (j : Int) + 1 + 1 := w64 (by omega) (by omega)
      have b1 : (k0 * 3 + (j + 1) * 3 + 3 ≤ 3 * d.length) = True := eq_true (by omega)
      have b2 : (k0 * 3 + j * 3 + 3 ≤ 3 * d.length) = True := eq_true (by omega)
      by_cases ce : x = y
      · subst ce
        simp only [if_true] at key
        simp [compact_0, h0, h3, h4, h5, g1, g2, g3, g4, g5, t1, w1, w2, L1, L2, hbl, b1, b2, nmNe, nm_eq8]
        refine key _ _ ?_ ?_ ?_ ?_ rfl (by omega) (by omega) (by omega) <;> simp [sv_stv, h0, h3, h4]
      · have ce' : (x = y) = False := eq_false ce
        simp only [if_neg (fun q : y = x => ce q.symm)] at key
        have g6 : u.length < d.length := by omega
        have g7 : u.length * 3 + 3 ≤ 3 * d.length := by omega
        have w3 : wrapA .i64 ((u.length : Int) + 1) = (u.length : Int) + 1 := w64 (by omega) (by omega)
        simp [compact_0, h0, h3, h4, h5, g1, g2, g3, g4, g5, t1, w1, w2, L1, L2, hbl, b1, b2, nmNe, nm_eq8, ce', g6, g7, nm_cells, nm_len, nm_all, w3, hput]
        refine key _ _ ?_ ?_ ?_ ?_ rfl (by simp; omega) (by omega) (by omega) <;> simp [sv_stv, h0, h3, h4]
end Go.Proofs.YtjhgembcdndmkaaGreatDoor.St

namespace Go.Proofs.YtjhgembcdndmkaaGreatDoor.St
open Go Go.Proofs.YtjhgembcdndmkaaGreatDoor.Am Go.Proofs Go.RowKit
attribute [local simp] xr_mov xd_mov xr_pick xd_pick xr_bin xd_bin xr_build xd_build xr_fld xd_fld xr_partN xd_partN xr_lenS xr_lenL xd_lenL xr_load1 xd_load1 xr_loadN xd_loadN xr_new xd_new xr_box xr_buildSl xd_buildSl xr_idxAddrSl xd_idxAddrSl xd_idxAddrArr xd_idxStr xr_sliceSl xd_sliceSl orU_some orU_none lenSA_str lenSA_strOf lenLA_sl lenLA_nil xfn xcode xdrawn xr_nil xr_kg xr_cmp xcmp_some xr_call xr_store xr_append xd_append xap_sl xap_nl xapq_some xsrc_sl xsrc_nil xapp_nil xapp_grow xset xown xnx_some xnp_some xnq_some xd_nil xdl_old xda_some xd_call xd_store xd_kg xdn_some xld xal kindOf isAlloc allocs xins xrem xall xput xget xwhole xmine xcont xq xqs xres XS.add XR.out XR.outU XR.ups xsets XR.res Rs.seq Rs.inSc Rs.block mapO tupleA sv_args adv_eq tget eqs8 eqs7 eqi8 eqi7 eqg8 eqn8 eqn7 cells_strOf cells_int cells_agg cells_bool cells_str cells_sl cells_nil cells_ptr at_int at_str at_strOf at_bool at_sl at_nil at_ptr unstr_strOf fill_nil fill_cons replA ev_tm ev_vl sv_stv bin_add bin_sub bin_lss bin_gtr bin_eql bin_neq nth0 nth1 nth2 xst_idxAddrSl xst_idxStr xst_sliceStr xst_sliceSl xsl_sl xbd slN Nat.testBit
theorem skol {α : Type} {p : α → Prop} {q : α → α → Prop} (h : ∀ a, p a → ∃ b, q a b) : ∃ f : α → α, ∀ a, p a → q a (f a) := by
  classical
  refine ⟨fun a => if c : p a then (h a c).choose else a, fun a c => ?_⟩
  simp only [dif_pos c]
  exact (h a c).choose_spec
noncomputable def zN : List AV := [int64 0, .str 0 0, int64 0]
noncomputable def endN (d : List Nm) : List AV := flN (ddN d) ++ (List.replicate (d.length - (ddN d).length) zN).flatten
theorem endN_put {d : List Nm} (h : (ddN d).length < d.length) : (blkN (ddN d) d).take ((ddN d).length * 3) ++ ((List.replicate (d.length - (ddN d).length) zN).flatten ++ (blkN (ddN d) d).drop ((ddN d).length * 3 + (d.length - (ddN d).length) * 3)) = endN d := by
  have e : (flN (ddN d)).length = (ddN d).length * 3 := by rw [flN_len]; omega
  have e2 : (blkN (ddN d) d).drop ((ddN d).length * 3 + (d.length - (ddN d).length) * 3) = [] := List.drop_eq_nil_of_le (by rw [blkN_len (by omega)]; omega)
  rw [e2, List.append_nil]
  unfold endN
  congr 1
  unfold blkN
  rw [flN_app, List.take_append_of_le_length (by omega), List.take_of_length_le (by omega)]
theorem endN_same {d : List Nm} (h : ddN d = d) : endN d = flN d := by unfold endN; rw [h]; simp
theorem ddN_more (a b : List Nm) : (ddN (a ++ b)).length ≤ (ddN a).length + b.length := by
  refine snoc_ind (p := fun b => (ddN (a ++ b)).length ≤ (ddN a).length + b.length) (by simp) (fun l x ih => ?_) b
  rw [← List.append_assoc, ddN_snoc]
  unfold stN
  split <;> simp <;> omega
theorem ddN_lt {d : List Nm} {i : Nat} (hi : i + 1 < d.length) (h : d[i] = d[i + 1]) : (ddN d).length < d.length := by
  have hst := ddN_step d (i := i + 1) (by omega) hi
  simp only [show i + 1 - 1 = i by omega] at hst
  rw [if_pos h] at hst
  have a := ddN_more (d.take (i + 1 + 1)) (d.drop (i + 1 + 1))
  rw [List.take_append_drop, hst, List.length_drop] at a
  have b := ddN_len (d.take (i + 1))
  rw [List.length_take] at b
  omega
theorem xclr_sl (s : XS) (es : Nat) (zero : List AV) (id : Pos) (off n cap : Nat) (ex : Bool) (es' : Nat) : xclr s es zero (.sl id 0 off n cap ex es') = if es = es' ∧ zero.length = es ∧ zero.all AV.atom = true ∧ 0 < es then (if n = 0 then some (.tup [], s) else (xput s.X id off (List.replicate n zero).flatten).map fun X => (.tup [], ⟨s.n, X⟩)) else none := rfl
theorem compact_out (d : List Nm) (hd : d.length ≤ 300) (b p : Pos) (c N : Nat) (hc : d.length ≤ c) (ex : Bool) (K : Nat) (hK : 300 ≤ K) : ∀ (fuel r j : Nat) (env : T AV), sv env 0 = .sl p 0 0 d.length c ex 3 → sv env 3 = int64 ((j : Int) + 1) → ddN (d.take (j + 1)) = d.take (j + 1) → j + 1 + r = d.length → r < fuel →
    ∃ env' s, xloop (xcode Tryz.prog [] [] b (K + 1) compact_1) fuel env ⟨N, [⟨p, 0, true, flN d⟩]⟩ = some (s, env', ⟨N, [⟨p, 0, true, endN d⟩]⟩) ∧ ((s = .exit 0 ∧ ddN d = d ∧ sv env' 0 = .sl p 0 0 d.length c ex 3) ∨ (s = .ret ∧ sv env' 2 = .sl p 0 0 (ddN d).length c ex 3))
  | 0, r, j, env, _, _, _, _, hf => by omega
  | fuel + 1, r, j, env, h0, h3, hu, hi, hf => by
    unfold xloop
    cases r with
    | zero =>
      have hj : d.length = j + 1 := by omega
      rw [show j + 1 = d.length from hj.symm, List.take_length] at hu
      rw [endN_same hu]
      simp [compact_1, h0, h3, hj, hu]
      refine ⟨_, _, ⟨rfl, rfl⟩, .inl ⟨rfl, ?_⟩⟩
      simp [sv_stv, h0, hj]
    | succ r =>
      have hi1 : j + 1 < d.length := by omega
      have key := compact_out d hd b p c N hc ex K hK fuel r (j + 1)
      have hst := ddN_step d (i := j + 1) (by omega) hi1
      simp only [show j + 1 - 1 = j by omega] at hst
      have L1 : ((flN d).drop ((j + 1) * 3)).take 3 = nmA d[j + 1] := flN_at d hi1
      have L2 : ((flN d).drop (j * 3)).take 3 = nmA d[j] := flN_at d (by omega)
      have hfl := flN_len d
      have inn := compact_in d hd b p c (c - (j + 1)) N (j + 1) (d.length - (j + 1)) (by omega) ex (K + 1) (K + 1) (d.length - (j + 1) - 1) 0
      generalize xloop (xcode Tryz.prog [] [] b (K + 1) compact_1) fuel = R at key ⊢
      have g1 : (j + 1 < d.length) = True := eq_true (by omega)
      have g2 : ((j : Int) + 1 < (d.length : Int)) = True := eq_true (by omega)
      have g3 : (0 ≤ (j : Int) + 1) = True := eq_true (by omega)
      have g4 : ((j : Int) < (d.length : Int)) = True := eq_true (by omega)
      have g5 : j < d.length := by omega
      have t1 : ((j : Int) + 1).toNat = j + 1 := by omega
      have w1 : wrapA .i64 (j : Int) = (j : Int) := w64 (by omega) (by omega)
      have w2 : wrapA .i64 ((j : Int) + 1 + 1) = (j : Int) + 1 + 1 := w64 (by omega) (by omega)
      have b1 : ((j + 1) * 3 + 3 ≤ 3 * d.length) = True := eq_true (by omega)
      have b2 : (j * 3 + 3 ≤ 3 * d.length) = True := eq_true (by omega)
      have hnx : (d[j + 1] = d[j]) = (d[j] = d[j + 1]) := propext ⟨Eq.symm, Eq.symm⟩
      by_cases ce : d[j] = d[j + 1]
      · rw [if_pos ce, hu] at hst
        have hbk : blkN (d.take (j + 1)) d = flN d := by unfold blkN; rw [List.length_take, Nat.min_eq_left (by omega), List.take_append_drop]
        have inn2 := fun env a0 a4 a3 a5 => inn env (d.take (j + 1)) a0 a4 a3 a5 (by rw [Nat.add_zero, hst]) (by rw [List.length_take]; omega) (by omega) (by omega)
        rw [hbk] at inn2
        have hlt := ddN_lt hi1 ce
        have hput := endN_put hlt
        unfold zN at hput
        obtain ⟨f, hf⟩ := skol (p := fun env => sv env 0 = .sl p 0 0 d.length c ex 3 ∧ sv env 4 = .sl p 0 ((j + 1) * 3) (d.length - (j + 1)) (c - (j + 1)) ex 3 ∧ sv env 3 = int64 ((j : Int) + 1) ∧ sv env 5 = int64 1) (fun env ⟨a0, a4, a3, a5⟩ => inn2 env a0 a4 (by rw [a3, List.length_take, Nat.min_eq_left (by omega)]; rfl) (by rw [a5]; rfl))
        have F1 := fun env a0 a4 a3 a5 => (hf env ⟨a0, a4, a3, a5⟩).1
        have F0 := fun env a0 a4 a3 a5 => (hf env ⟨a0, a4, a3, a5⟩).2.1
        have F3 := fun env a0 a4 a3 a5 => (hf env ⟨a0, a4, a3, a5⟩).2.2.1
        clear hf inn inn2
        rw [← ce] at L1
        generalize d[j + 1] = x at *
        generalize d[j] = y at *
        have bl := blkN_len (u := ddN d) (d := d) (by omega)
        have q1 : j + 1 ≤ d.length := by omega
        have q2 : (ddN d).length ≤ d.length := by omega
        have q3 : d.length - (ddN d).length ≠ 0 := by omega
        have q4 : (ddN d).length * 3 + (d.length - (ddN d).length) * 3 ≤ 3 * d.length := by omega
        have q5 : (ddN d).length ≤ c := by omega
        have q6 : j + 1 ≤ c := by omega
        have q7 : (j + 1 = c) = False := eq_false (by omega)
        have q8 : ((ddN d).length = c) = False := eq_false (by omega)
        simp [compact_1, h0, h3, g1, g2, g3, g4, g5, t1, w1, w2, L1, L2, hfl, b1, b2, nmEq, nm_eq8, F1, F0, F3, xr_clear, xclr_sl, bl, q1, q2, q3, q4, q5, q6, q7, q8, hc, hput]
        exact ⟨_, _, ⟨rfl, rfl⟩, .inr ⟨rfl, by simp [sv_stv]⟩⟩
      · rw [if_neg ce, hu] at hst
        have hu2 : ddN (d.take (j + 1 + 1)) = d.take (j + 1 + 1) := by rw [hst, List.take_succ_eq_append_getElem hi1]
        have ce' : (d[j + 1] = d[j]) = False := eq_false fun q => ce q.symm
        generalize d[j + 1] = x at *
        generalize d[j] = y at *
        simp [compact_1, h0, h3, g1, g2, g3, g4, g5, t1, w1, w2, L1, L2, hfl, b1, b2, nmEq, nm_eq8, ce']
        refine key _ ?_ ?_ ?_ (by omega) (by omega)
        · simp [sv_stv, h0]
        · simp [sv_stv]
        · exact hu2
noncomputable def e_compact : Ent := mkEnt 91 1 [.osl 0] (fun z_ : Pos × Nat × Bool × (List Nm) => [.sl z_.1 0 0 z_.2.2.2.length z_.2.1 z_.2.2.1 3]) (fun z_ => [flN z_.2.2.2]) (fun z_ => (z_.2.2.2.length ≤ 300 ∧ z_.2.2.2.length ≤ z_.2.1) ∧ (Pos.ofNat 6).num ≤ z_.1.num) (fun z_ => .outs [(z_.1, fun _ => endN z_.2.2.2)] (fun _ => []) (fun _ => .sl z_.1 0 0 (ddN z_.2.2.2).length z_.2.1 z_.2.2.1 3))
theorem f_compact : e_compact.f = 91 := rfl
theorem x_compact {U : List Ent} {b : Pos} {st : XS} (hU : tget U 91 = some e_compact) (p : Pos) (c : Nat) (ex : Bool) (d : List Nm) (hp : (d.length ≤ 300 ∧ d.length ≤ c) ∧ (Pos.ofNat 6).num ≤ p.num) (hq : xqs st.X [.sl p 0 0 d.length c ex 3] [.osl 0] = some [flN d]) (ho : ((.outs [(p, fun _ => endN d)] (fun _ => []) (fun _ => .sl p 0 0 (ddN d).length c ex 3) : XR).ups.all fun x => (xown st.X x.1 0).isSome) = true) : xcall U b 91 [.sl p 0 0 d.length c ex 3] st = none ∧ xupd U b 91 [.sl p 0 0 d.length c ex 3] st = some (XR.outU b st (.outs [(p, fun _ => endN d)] (fun _ => []) (fun _ => .sl p 0 0 (ddN d).length c ex 3))) :=
  xupd_at hU rfl hq (mkEnt_spec (by rintro ⟨a0, a1, a2, a3⟩ ⟨b0, b1, b2, b3⟩ h hc; simp only [List.cons.injEq, AV.agg.injEq, AV.tup.injEq, AV.int.injEq, AV.bool.injEq, AV.ptr.injEq, AV.sl.injEq, strOf_eq, byt_eq, map_strOf_eq, true_and, and_true, Int.natCast_inj, flN_eq] at h hc; simp [h, hc]) (p, c, ex, d) hp) (by first | rfl | (split <;> rfl)) ho
theorem ddN_short {d : List Nm} (h : d.length < 2) : ddN d = d := by
  match d, h with
  | [], _ => rfl
  | [x], _ => rfl
theorem endN_plain (d : List Nm) : ∀ y ∈ endN d, y.plain = true := by
  intro y m
  unfold endN at m
  rcases List.mem_append.1 m with m | m
  · exact flN_plain _ y m
  · obtain ⟨l, ml, my⟩ := List.mem_flatten.1 m
    rw [List.eq_of_mem_replicate ml] at my
    simp only [zN, List.mem_cons, List.not_mem_nil, or_false] at my
    rcases my with rfl | rfl | rfl <;> rfl
theorem HasG.upd {m : Int} {t1 t2 : AV} {h h' : Hp} {S : List Pos} (g : HasG m t1 t2 h) (o : Only S h h') (hS : ∀ p ∈ S, (Pos.ofNat 6).num ≤ p.num) : HasG m t1 t2 h' := by
  have n : ∀ i, i < 6 → (Pos.ofNat i).num < h.next.num := fun i hi => by have := g.old; rw [Pos.num_ofNat] at this ⊢; omega
  have ne : ∀ i, i < 6 → Pos.ofNat i ∉ S := fun i hi c => by have := hS _ c; rw [Pos.num_ofNat, Pos.num_ofNat] at this; omega
  exact ⟨by rw [o.same _ (n 0 (by omega)) (ne 0 (by omega))]; exact g.max, by rw [o.same _ (n 1 (by omega)) (ne 1 (by omega))]; exact g.syn, by rw [o.same _ (n 2 (by omega)) (ne 2 (by omega))]; exact g.rng, by rw [o.same _ (n 3 (by omega)) (ne 3 (by omega))]; exact g.tab, g.isA, g.isB, Nat.le_trans g.old o.next⟩
section
variable {m : Int} {t1 t2 : AV}
theorem compact_ok : EntOK Tryz.prog (HasG m t1 t2) e_compact := mkEnt_ok ok_compact fun z h gg hz hc => by
  obtain ⟨p, c, ex, d⟩ := z
  obtain ⟨⟨h1, h2⟩, h6⟩ := hz
  dsimp only at h1 h2 h6 hc ⊢
  obtain ⟨k1, k2, e, hq, hr⟩ := hc
  cases e
  obtain ⟨id, off, n, cap, ex', es, e, hh⟩ := hq
  cases e
  have hold := hh.old
  refine outs_of [(p, fun _ => endN d)] _ _ [] (fun _ o => gg.upd o (by simpa using h6)) (U := []) (K := []) (X := [⟨p, 0, true, flN d⟩]) (by simp) (by simp) 301 (.startW h (fun x mx => by rcases List.mem_singleton.1 mx with rfl; exact hh) (by simp) (by simp)) (fun x mx => by simp only [List.map_cons, List.map_nil, List.mem_singleton] at mx; subst mx; exact ⟨_, List.mem_cons_self ..⟩) compact_code (by simp [compact_fu]) (by simp) (by simp) (w := .sl p 0 0 (ddN d).length c ex 3) (l1 := [endN d]) (l2 := []) ?_ (.cons (.self (endN_plain d)) .nil) .nil (.sl_old hold)
  by_cases c2 : d.length < 2
  · have e1 := ddN_short c2
    rw [endN_same e1, e1]
    have c3 : ((d.length : Int) < 2) = True := eq_true (by omega)
    simp [compact_fu, c2, c3, owns, ownsG, xown]
  · have c3 : ((d.length : Int) < 2) = False := eq_false (by omega)
    obtain ⟨env', s, e, hs⟩ := compact_out d h1 h.next p c 0 h2 ex 300 (by omega) 301 (d.length - 1) 0 (stv (stv (stv (stv (stv (setArgs .e 0 [.sl p 0 0 d.length c ex 3]) 2 .nilSl) 6 (.sl p 0 0 d.length c ex 3)) 7 (int64 (d.length : Int))) 8 (.bool false)) 3 (int64 1)) (by simp [sv_stv, sv_args]) (by simp [sv_stv]) (ddN_short (by simp; omega) |>.trans rfl) (by omega) (by omega)
    rcases hs with ⟨rfl, hs1, hs2⟩ | ⟨rfl, hs2⟩
    · simp [compact_fu, c2, c3, e, hs1, hs2, owns, ownsG, xown]
    · simp [compact_fu, c2, c3, e, hs2, owns, ownsG, xown]
end
end Go.Proofs.YtjhgembcdndmkaaGreatDoor.St

namespace Go.Proofs.YtjhgembcdndmkaaGreatDoor.St
open Go Go.Proofs.YtjhgembcdndmkaaGreatDoor.Am Go.Proofs
theorem known_closed : closed Tryz.prog 8 (globN Tryz.prog) = true := by kernel_rfl
theorem known_fn (h : Hp) : AmFn Tryz.prog 8 [] h (.bool true) h := closed_fn known_closed h
end Go.Proofs.YtjhgembcdndmkaaGreatDoor.St

namespace Go.Proofs.YtjhgembcdndmkaaGreatDoor.St
open Go Go.Proofs.YtjhgembcdndmkaaGreatDoor.Am Go.Proofs Go.RowKit
noncomputable def putP (φ : Phi) (p : Pos) (r : Nat × Int × Nat) : Phi := fun j k => if j = p ∧ k = 0 then some r else φ j k
theorem HR.place {P : Program} {φ : Phi} {h : Hp} {w : World} {r : Nat × Int × Nat} (hR : HR P φ h w) (hz : h.lim = 0) (he : h.heap = .e) (hp : (Pos.ofNat (globN P)).num ≤ h.next.num) (hr : r.1 < w.heap.size) : HR P (putP φ h.next r) ⟨.e, h.next.succ, h.ser, h.lim⟩ w := by
  have key : ∀ {id : Pos} {g : Nat} {x : Nat × Int × Nat}, putP φ h.next r id g = some x → (id = h.next ∧ x = r) ∨ φ id g = some x := fun {id g x} e => by
    unfold putP at e
    split at e
    · rename_i c; cases e; exact .inl ⟨c.1, rfl⟩
    · exact .inr e
  have nro : ∀ id, ¬ Nonro (⟨.e, h.next.succ, h.ser, h.lim⟩ : Hp) id := fun id ⟨x, e, _⟩ => by rw [T.get_e] at e; cases e
  refine ⟨fun id x e => (by rw [T.get_e] at e; cases e), fun id g x e => ?_, fun id x e => (by rw [T.get_e] at e; cases e), fun id g b s n id' g' s' n' _ _ => .inr ⟨nro _, nro _⟩, fun id g b s n e => ?_, fun g hg => ?_⟩
  · rcases key e with ⟨c, _⟩ | c
    · subst c; exact .inl (by rw [Pos.num_succ]; omega)
    · rcases hR.used _ _ _ c with q | ⟨q, _⟩
      · exact .inl (by show _ < h.next.succ.num; rw [Pos.num_succ]; omega)
      · exact absurd hz q
  · rcases key e with ⟨_, c⟩ | c
    · rw [← c] at hr; exact hr
    · exact hR.inb _ _ _ _ _ c
  · unfold putP
    rw [if_neg]
    · exact hR.glob g hg
    · rintro ⟨c, _⟩
      rw [Pos.num_ofNat] at hp
      have := congrArg Pos.num c
      rw [Pos.num_ofNat] at this
      omega
theorem HR.var {P : Program} {φ : Phi} {h : Hp} {w : World} {g : Nat} {l : List AV} {C : Array Value} {el : TypeId} {fr : Nat × Nat} (hR : HR P φ h w) (ho : AllRo h) (hz : h.lim = 0) (hn : (Pos.ofNat g).num < h.next.num) (hg : g < globN P) (hb : w.heap[g]? = some (.cells C el fr)) (hs : C.size = globSz g) (hr : RelL φ l C.toList) (hj : ∀ j, j ≠ 0 → φ (Pos.ofNat g) j = none) :
    HR P φ ⟨T.set (Pos.ofNat g) (some (tabB l)) h.heap, h.next, h.ser, h.lim⟩ w ∧ AllRo ⟨T.set (Pos.ofNat g) (some (tabB l)) h.heap, h.next, h.ser, h.lim⟩ := by
  have hget : ∀ id, T.get id (T.set (Pos.ofNat g) (some (tabB l)) h.heap) = if id = Pos.ofNat g then some (tabB l) else T.get id h.heap := fun id => T.get_set ..
  have ro : AllRo ⟨T.set (Pos.ofNat g) (some (tabB l)) h.heap, h.next, h.ser, h.lim⟩ := fun id ⟨x, e, q⟩ => by
    rw [hget] at e
    split at e
    · cases e
      have := q _ _ _ _ _ _ _ _ rfl
      cases this
    · exact ho id ⟨x, e, q⟩
  have hl : l.length = C.size := by have := hr.length; simpa using this
  refine ⟨⟨fun id x e => ?_, hR.used, fun id x e => ?_, fun id g y s n id' g' s' n' _ _ => .inr ⟨ro _, ro _⟩, hR.inb, hR.glob⟩, ro⟩
  · rw [hget] at e
    split at e
    · rename_i c
      cases e
      subst c
      refine ⟨⟨rfl, Nat.le_refl _, fun q => absurd q (Nat.lt_irrefl _), fun j hj' => hj j (by omega), fun j j' b1 s1 n1 s2 n2 k1 k2 k3 k4 e1 e2 => ?_, fun j k1 k2 => ?_⟩, fun _ _ _ _ _ _ _ _ _ _ _ => .inl rfl⟩
      · have : j = j' := by omega
        subst this
        rw [e1] at e2; cases e2; rfl
      · have : j = 0 := by omega
        subst this
        refine ⟨g, 0, globSz g, C, el, fr, hR.glob g hg, hb, hs, fun c => (by cases c), fun i v _ hi2 hv => ?_⟩
        have hv : l[i]? = some v := hv
        obtain ⟨x, hx, rx⟩ := hr.get hv
        exact ⟨i, x, by omega, by rw [← hx]; simp, rx⟩
    · exact hR.blk _ _ e
  · rw [hget] at e
    split at e
    · rename_i c
      subst c
      exact .inl hn
    · exact hR.dom _ _ e
noncomputable def gH (m : Int) (e1 e2 : AV) : Hp :=
  ⟨T.set (Pos.ofNat 3) (some (tabB (Lib.pow10Tab.map fun z => .int .u64 z))) (T.set (Pos.ofNat 2) (some (tabB [e2])) (T.set (Pos.ofNat 1) (some (tabB [e1])) (T.set (Pos.ofNat 0) (some (tabB [int64 m])) .e))), Pos.ofNat 6, 0, 0⟩
theorem gH_has (m : Int) {e1 e2 : AV} (h1 : ∃ t v, e1 = .ifc t v) (h2 : ∃ t v, e2 = .ifc t v) : HasG m e1 e2 (gH m e1 e2) := by
  have ne : ∀ i j : Nat, i ≠ j → Pos.ofNat i ≠ Pos.ofNat j := fun i j h c => by
    have := congrArg Pos.num c
    rw [Pos.num_ofNat, Pos.num_ofNat] at this; omega
  refine ⟨?_, ?_, ?_, ?_, h1, h2, Nat.le_refl _⟩ <;> unfold gH <;> simp only [T.get_set]
  · rw [if_neg (ne _ _ (by omega)), if_neg (ne _ _ (by omega)), if_neg (ne _ _ (by omega)), if_pos trivial]
  · rw [if_neg (ne _ _ (by omega)), if_neg (ne _ _ (by omega)), if_pos trivial]
  · rw [if_neg (ne _ _ (by omega)), if_pos trivial]
  · rw [if_pos trivial]
structure IsErr (w : World) (u : TypeId) (v : Value) (a : Addr) : Prop where
  val : v = .pointer (some a) ∨ v = .agg #[.pointer (some a)]
  spot : a.spot = none
  lies : a.block < w.heap.size
theorem IsErr.av {w : World} {u : TypeId} {v : Value} {a : Addr} (e : IsErr w u v a) (p : Pos) : ∃ x, (∃ t y, x = AV.ifc t y) ∧ ∀ φ, φ p 0 = some (a.block, (a.off : Int), 0) → Rel φ x (.iface u v) := by
  rcases e.val with rfl | rfl
  · exact ⟨.ifc u (.ptr p 0 0), ⟨_, _, rfl⟩, fun φ h => .ifc (.ptr h rfl (by simp) e.spot)⟩
  · exact ⟨.ifc u (.agg [.ptr p 0 0]), ⟨_, _, rfl⟩, fun φ h => .ifc (.agg (.cons (.ptr h rfl (by simp) e.spot) .nil))⟩
theorem start_has {W : World} {m : Int} {u1 u2 : TypeId} {v1 v2 : Value} {a1 a2 : Addr} {l0 l1 l2 l3 : TypeId} {f0 f1 f2 f3 : Nat × Nat} (hsz : 4 ≤ W.heap.size)
    (c0 : W.heap[0]? = some (.cells #[.int .i64 m] l0 f0)) (c1 : W.heap[1]? = some (.cells #[.iface u1 v1] l1 f1)) (c2 : W.heap[2]? = some (.cells #[.iface u2 v2] l2 f2)) (c3 : W.heap[3]? = some (.cells (Lib.pow10Tab.map fun z => Value.int .u64 z).toArray l3 f3))
    (i1 : IsErr W u1 v1 a1) (i2 : IsErr W u2 v2 a2) : ∃ φ e1 e2, HR Tryz.prog φ (gH m e1 e2) W ∧ AllRo (gH m e1 e2) ∧ HasG m e1 e2 (gH m e1 e2) := by
  have h0 : HR Tryz.prog (phi0 Tryz.prog) ⟨.e, Pos.ofNat 4, 0, 0⟩ W := start_rel (P := Tryz.prog) hsz
  have s4 : (Pos.ofNat 4).succ = Pos.ofNat 5 := by kernel_rfl
  have s5 : (Pos.ofNat 5).succ = Pos.ofNat 6 := by kernel_rfl
  have hA := HR.place h0 rfl rfl (by show (Pos.ofNat 4).num ≤ _; exact Nat.le_refl _) (r := (a1.block, (a1.off : Int), 0)) i1.lies
  have hB := HR.place hA rfl rfl (by show (Pos.ofNat 4).num ≤ (Pos.ofNat 4).succ.num; rw [Pos.num_succ]; omega) (r := (a2.block, (a2.off : Int), 0)) i2.lies
  obtain ⟨e1, k1, r1⟩ := i1.av (Pos.ofNat 4)
  obtain ⟨e2, k2, r2⟩ := i2.av (Pos.ofNat 5)
  have hne : Pos.ofNat 4 ≠ Pos.ofNat 5 := fun c => by
    have := congrArg Pos.num c
    rw [Pos.num_ofNat, Pos.num_ofNat] at this; omega
  have hB : HR Tryz.prog (putP (putP (phi0 Tryz.prog) (Pos.ofNat 4) (a1.block, (a1.off : Int), 0)) (Pos.ofNat 5) (a2.block, (a2.off : Int), 0)) ⟨.e, Pos.ofNat 6, 0, 0⟩ W := by rw [← s5, ← s4]; exact hB
  generalize hφ : putP (putP (phi0 Tryz.prog) (Pos.ofNat 4) (a1.block, (a1.off : Int), 0)) (Pos.ofNat 5) (a2.block, (a2.off : Int), 0) = φ at hB
  have q1 := r1 φ (by rw [← hφ]; unfold putP; rw [if_neg (fun c => hne c.1), if_pos ⟨rfl, rfl⟩])
  have q2 := r2 φ (by rw [← hφ]; unfold putP; rw [if_pos ⟨rfl, rfl⟩])
  have hj : ∀ g, ∀ j, j ≠ 0 → φ (Pos.ofNat g) j = none := fun g j h => by
    rw [← hφ]; unfold putP phi0
    rw [if_neg (fun c => h c.2), if_neg (fun c => h c.2), if_neg (fun c => h c.1)]
  have hn : ∀ g, g < 4 → (Pos.ofNat g).num < (Pos.ofNat 6).num := fun g h => by rw [Pos.num_ofNat, Pos.num_ofNat]; omega
  have ro0 : AllRo (⟨.e, Pos.ofNat 6, 0, 0⟩ : Hp) := fun id ⟨x, e, _⟩ => by rw [T.get_e] at e; cases e
  obtain ⟨d0, o0⟩ := HR.var hB ro0 rfl (hn 0 (by omega)) (show 0 < 4 by omega) c0 rfl (.cons (.int .i64 m) .nil) (hj 0)
  obtain ⟨d1, o1⟩ := HR.var d0 o0 rfl (hn 1 (by omega)) (show 1 < 4 by omega) c1 rfl (.cons q1 .nil) (hj 1)
  obtain ⟨d2, o2⟩ := HR.var d1 o1 rfl (hn 2 (by omega)) (show 2 < 4 by omega) c2 rfl (.cons q2 .nil) (hj 2)
  have hT : RelL φ (Lib.pow10Tab.map fun z => AV.int .u64 z) (Lib.pow10Tab.map fun z => Value.int .u64 z).toArray.toList := by
    generalize Lib.pow10Tab = L
    show RelL φ (L.map _) (L.map _)
    induction L with
    | nil => exact .nil
    | cons x L ih => exact .cons (.int _ _) ih
  obtain ⟨d3, o3⟩ := HR.var d2 o2 rfl (hn 3 (by omega)) (show 3 < 4 by omega) c3 rfl hT (hj 3)
  exact ⟨φ, e1, e2, d3, o3, gH_has m k1 k2⟩
theorem known_ok {m : Int} {t1 t2 : AV} : EntOK Tryz.prog (HasG m t1 t2) e_known := mkEnt_ok ok_known fun _ h _ _ _ => known_fn h
end Go.Proofs.YtjhgembcdndmkaaGreatDoor.St
