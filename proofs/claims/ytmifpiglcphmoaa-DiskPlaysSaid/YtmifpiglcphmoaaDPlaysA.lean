import Derived.Test.YtmifpiglcphmoaaProg
import Derived.KernelRfl
import Derived.Test.YtmifpiglcphmoaaAmM
/- THE WALK'S PARTS, part A: what the functions of the law compute, over the abstract machine that stands beside this text. No condition. -/
set_option linter.unusedSimpArgs false
set_option linter.unusedVariables false
namespace Go.Proofs.Ytmifpiglcphmoaa.DPlays
open Go Go.Proofs.Ytmifpiglcphmoaa.Am Go.Proofs

/-! (some (*estuary/disk.Disk).there) -/

noncomputable def there_0 : List O := [
    ⟨(some (Pos.ofNat 2)), none, .mov (vl (.bool false)), true, 0⟩]

noncomputable def there_1 : List O := [
    ⟨(some (Pos.ofNat 3)), none, .mov (tm 0), true, 0⟩,
    ⟨(some (Pos.ofNat 4)), none, .eqPtr true (tm 3) (vl .nilPtr), true, 0⟩,
    ⟨(some (Pos.ofNat 5)), none, .mov (tm 4), true, 0⟩,
    ⟨(some (Pos.ofNat 6)), (some ((Pos.ofNat 5), true)), .mov (tm 0), true, 0⟩,
    ⟨(some (Pos.ofNat 7)), (some ((Pos.ofNat 5), true)), .nilCheck (tm 6), true, 0⟩,
    ⟨(some (Pos.ofNat 8)), (some ((Pos.ofNat 5), true)), .fieldAddr 0 (tm 7), true, 0⟩,
    ⟨(some (Pos.ofNat 9)), (some ((Pos.ofNat 5), true)), .load1 (tm 8), true, 0⟩,
    ⟨(some (Pos.ofNat 10)), (some ((Pos.ofNat 5), true)), .bin .gtr .other true (tm 9) (vl (int64 (0))), true, 0⟩,
    ⟨(some (Pos.ofNat 11)), none, .pick (tm 5) (tm 10) (vl (.bool false)), true, 0⟩,
    ⟨(some (Pos.ofNat 2)), none, .mov (tm 11), true, 0⟩]

noncomputable def there_fu : Fu := ⟨[.tmp (Pos.ofNat 2)], 12, (.seq (.region there_0) (.seq (.region there_1) .ret))⟩

theorem there_code : compFn Try.prog 63 = some there_fu := by kernel_rfl

/-! (some estuary/disk.area) -/

noncomputable def area_0 : List O := [
    ⟨(some (Pos.ofNat 2)), none, .mov (vl (.bool false)), true, 0⟩]

noncomputable def area_1 : List O := [
    ⟨(some (Pos.ofNat 3)), none, .mov (tm 0), true, 0⟩,
    ⟨(some (Pos.ofNat 4)), none, .bin .eql .other true (tm 3) (vl (int64 (0))), true, 0⟩,
    ⟨(some (Pos.ofNat 5)), none, .mov (tm 4), true, 0⟩,
    ⟨(some (Pos.ofNat 6)), (some ((Pos.ofNat 5), false)), .mov (tm 0), true, 0⟩,
    ⟨(some (Pos.ofNat 7)), (some ((Pos.ofNat 5), false)), .bin .eql .other true (tm 6) (vl (int64 (1))), true, 0⟩,
    ⟨(some (Pos.ofNat 8)), none, .pick (tm 5) (vl (.bool true)) (tm 7), true, 0⟩,
    ⟨(some (Pos.ofNat 2)), none, .mov (tm 8), true, 0⟩]

noncomputable def area_fu : Fu := ⟨[.tmp (Pos.ofNat 2)], 9, (.seq (.region area_0) (.seq (.region area_1) .ret))⟩

theorem area_code : compFn Try.prog 64 = some area_fu := by kernel_rfl

/-! (some (*estuary/disk.Disk).lay) -/

noncomputable def lay_0 : List O := [
    ⟨(some (Pos.ofNat 3)), none, .box (tm 1), true, 0⟩]

noncomputable def lay_1 : List O := [
    ⟨(some (Pos.ofNat 4)), none, .mov (tm 0), true, 0⟩,
    ⟨(some (Pos.ofNat 5)), none, .fieldAddr 1 (tm 3), true, 0⟩,
    ⟨(some (Pos.ofNat 6)), none, .load1 (tm 5), true, 2⟩,
    ⟨(some (Pos.ofNat 7)), none, .mov (tm 0), true, 0⟩,
    ⟨(some (Pos.ofNat 8)), none, .fieldAddr 1 (tm 3), true, 0⟩,
    ⟨(some (Pos.ofNat 9)), none, .load1 (tm 8), true, 16⟩,
    ⟨(some (Pos.ofNat 10)), none, .nilCheck (tm 7), true, 8⟩,
    ⟨(some (Pos.ofNat 11)), none, .fieldAddr 2 (tm 10), true, 72⟩,
    ⟨(some (Pos.ofNat 12)), none, .idxAddrArr 2 1 (tm 11) (tm 9), true, 248⟩,
    ⟨(some (Pos.ofNat 13)), none, .load1 (tm 12), true, 504⟩,
    ⟨(some (Pos.ofNat 14)), none, .fieldAddr 2 (tm 3), true, 0⟩,
    ⟨(some (Pos.ofNat 15)), none, .load1 (tm 14), true, 1024⟩,
    ⟨(some (Pos.ofNat 16)), none, .append 1 1 (tm 13) (tm 15), true, 4088⟩,
    ⟨(some (Pos.ofNat 17)), none, .nilCheck (tm 4), true, 1⟩,
    ⟨(some (Pos.ofNat 18)), none, .fieldAddr 2 (tm 17), true, 8193⟩,
    ⟨(some (Pos.ofNat 19)), none, .idxAddrArr 2 1 (tm 18) (tm 6), true, 32767⟩,
    ⟨none, none, .store 1 (tm 19) (tm 16), true, 65535⟩]

noncomputable def lay_fu : Fu := ⟨[], 20, (.seq (.region lay_0) (.drawn lay_1))⟩

theorem lay_code : compFn Try.prog 83 = some lay_fu := by kernel_rfl

/-! (some (*estuary/disk.Disk).empty) -/

noncomputable def emp_0 : List O := [
    ⟨(some (Pos.ofNat 3)), none, .box (tm 1), true, 0⟩]

noncomputable def emp_1 : List O := [
    ⟨(some (Pos.ofNat 4)), none, .mov (tm 0), true, 0⟩,
    ⟨(some (Pos.ofNat 5)), none, .fieldAddr 1 (tm 3), true, 0⟩,
    ⟨(some (Pos.ofNat 6)), none, .load1 (tm 5), true, 2⟩,
    ⟨(some (Pos.ofNat 7)), none, .nilCheck (tm 4), true, 1⟩,
    ⟨(some (Pos.ofNat 8)), none, .fieldAddr 2 (tm 7), true, 9⟩,
    ⟨(some (Pos.ofNat 9)), none, .idxAddrArr 2 1 (tm 8) (tm 6), true, 31⟩,
    ⟨none, none, .store 1 (tm 9) (vl .nilSl), true, 63⟩]

noncomputable def emp_fu : Fu := ⟨[], 10, (.seq (.region emp_0) (.drawn emp_1))⟩

theorem emp_code : compFn Try.prog 84 = some emp_fu := by kernel_rfl

/-! (some (*estuary/disk.Disk).turn) -/

noncomputable def turn_0 : List O := [
    ⟨(some (Pos.ofNat 3)), none, .box (tm 1), true, 0⟩]

noncomputable def turn_1 : List O := [
    ⟨(some (Pos.ofNat 4)), none, .mov (tm 0), true, 0⟩,
    ⟨(some (Pos.ofNat 5)), none, .mov (tm 0), true, 0⟩,
    ⟨(some (Pos.ofNat 6)), none, .nilCheck (tm 5), true, 0⟩,
    ⟨(some (Pos.ofNat 7)), none, .fieldAddr 1 (tm 6), true, 0⟩,
    ⟨(some (Pos.ofNat 8)), none, .load1 (tm 7), true, 0⟩,
    ⟨(some (Pos.ofNat 9)), none, .bin .sub .other true (vl (int64 (1))) (tm 8), true, 0⟩,
    ⟨(some (Pos.ofNat 10)), none, .nilCheck (tm 4), true, 0⟩,
    ⟨(some (Pos.ofNat 11)), none, .fieldAddr 1 (tm 10), true, 0⟩,
    ⟨none, none, .store 1 (tm 11) (tm 9), true, 0⟩]

noncomputable def turn_fu : Fu := ⟨[], 12, (.seq (.region turn_0) (.region turn_1))⟩

theorem turn_code : compFn Try.prog 85 = some turn_fu := by kernel_rfl

/-! (some (*estuary/disk.Disk).do) -/

noncomputable def do_0 : List O := [
    ⟨(some (Pos.ofNat 3)), none, .box (tm 1), true, 0⟩,
    ⟨(some (Pos.ofNat 4)), none, .mov (vl (int64 (0))), true, 0⟩]

noncomputable def do_1 : List O := [
    ⟨(some (Pos.ofNat 6)), none, .build [.nilFn, .nilFn, .nilFn, .nilFn] [(0, 1, (vl .nilFn)), (1, 1, (vl (.fn (.func 83) [] []))), (2, 1, (vl (.fn (.func 84) [] []))), (3, 1, (vl (.fn (.func 85) [] [])))], true, 0⟩,
    ⟨(some (Pos.ofNat 5)), none, .new [.nilFn, .nilFn, .nilFn, .nilFn], true, 0⟩,
    ⟨none, none, .store 4 (tm 5) (tm 6), true, 0⟩]

noncomputable def do_2 : List O := [
    ⟨(some (Pos.ofNat 7)), none, .fieldAddr 0 (tm 3), true, 0⟩,
    ⟨(some (Pos.ofNat 8)), none, .load1 (tm 7), true, 1⟩,
    ⟨(some (Pos.ofNat 9)), none, .idxAddrArr 4 1 (tm 5) (tm 8), true, 3⟩,
    ⟨(some (Pos.ofNat 10)), none, .load1 (tm 9), true, 7⟩,
    ⟨(some (Pos.ofNat 11)), none, .mov (tm 0), true, 0⟩,
    ⟨(some (Pos.ofNat 12)), none, .loadN 3 (tm 3), true, 0⟩,
    ⟨(some (Pos.ofNat 13)), none, .call (.value (tm 10)) [(tm 11), (tm 12)], true, 63⟩]

noncomputable def do_3 : List O := [
    ⟨(some (Pos.ofNat 14)), none, .mov (tm 0), true, 0⟩,
    ⟨(some (Pos.ofNat 15)), none, .mov (tm 0), true, 0⟩,
    ⟨(some (Pos.ofNat 16)), none, .nilCheck (tm 15), true, 2⟩,
    ⟨(some (Pos.ofNat 17)), none, .fieldAddr 7 (tm 16), true, 6⟩,
    ⟨(some (Pos.ofNat 18)), none, .load1 (tm 17), true, 14⟩,
    ⟨(some (Pos.ofNat 19)), none, .loadN 3 (tm 3), true, 0⟩,
    ⟨(some (Pos.ofNat 20)), none, .buildSl 1 3 [(int64 (0)), (int64 (0)), .nilSl] [(0, 3, (tm 19))], true, 32⟩,
    ⟨(some (Pos.ofNat 21)), none, .append 3 40 (tm 18) (tm 20), true, 126⟩,
    ⟨(some (Pos.ofNat 22)), none, .nilCheck (tm 14), true, 255⟩,
    ⟨(some (Pos.ofNat 23)), none, .fieldAddr 7 (tm 22), true, 511⟩,
    ⟨none, none, .store 1 (tm 23) (tm 21), true, 1023⟩]

noncomputable def do_4 : List O := [
    ⟨(some (Pos.ofNat 4)), none, .mov (vl (int64 (0))), true, 0⟩]

noncomputable def do_fu : Fu := ⟨[.tmp (Pos.ofNat 4)], 24, (.seq (.region do_0) (.seq (.region do_1) (.seq (.drawn do_2) (.seq (.drawn do_3) (.seq (.region do_4) .ret)))))⟩

theorem do_code : compFn Try.prog 65 = some do_fu := by kernel_rfl

/-! (some (*estuary/disk.Disk).Lay) -/

noncomputable def dlay_0 : List O := [
    ⟨(some (Pos.ofNat 6)), none, .mov (vl (int64 (0))), true, 0⟩]

noncomputable def dlay_1 : List O := [
    ⟨(some (Pos.ofNat 8)), none, .mov (tm 0), true, 0⟩,
    ⟨(some (Pos.ofNat 9)), none, .call (.value (vl (.fn (.func 63) [] []))) [(tm 8)], true, 0⟩,
    ⟨(some (Pos.ofNat 10)), none, .un .not (tm 9), true, 0⟩,
    ⟨(some (Pos.ofNat 7)), none, .mov (tm 10), true, 0⟩]

noncomputable def dlay_2 : List O := [
    ⟨(some (Pos.ofNat 6)), none, .mov (vl (int64 (1))), true, 0⟩]

noncomputable def dlay_3 : List O := [
    ⟨(some (Pos.ofNat 12)), none, .mov (tm 1), true, 0⟩,
    ⟨(some (Pos.ofNat 13)), none, .call (.value (vl (.fn (.func 64) [] []))) [(tm 12)], true, 0⟩,
    ⟨(some (Pos.ofNat 14)), none, .un .not (tm 13), true, 0⟩,
    ⟨(some (Pos.ofNat 11)), none, .mov (tm 14), true, 0⟩]

noncomputable def dlay_4 : List O := [
    ⟨(some (Pos.ofNat 6)), none, .mov (vl (int64 (2))), true, 0⟩]

noncomputable def dlay_5 : List O := [
    ⟨(some (Pos.ofNat 16)), none, .mov (tm 2), true, 0⟩,
    ⟨(some (Pos.ofNat 17)), none, .lenL (tm 16), true, 1⟩,
    ⟨(some (Pos.ofNat 18)), none, .mov (tm 0), true, 0⟩,
    ⟨(some (Pos.ofNat 19)), none, .nilCheck (tm 18), true, 4⟩,
    ⟨(some (Pos.ofNat 20)), none, .fieldAddr 0 (tm 19), true, 12⟩,
    ⟨(some (Pos.ofNat 21)), none, .load1 (tm 20), true, 28⟩,
    ⟨(some (Pos.ofNat 22)), none, .mov (tm 0), true, 0⟩,
    ⟨(some (Pos.ofNat 23)), none, .mov (tm 1), true, 0⟩,
    ⟨(some (Pos.ofNat 24)), none, .nilCheck (tm 22), true, 64⟩,
    ⟨(some (Pos.ofNat 25)), none, .fieldAddr 2 (tm 24), true, 320⟩,
    ⟨(some (Pos.ofNat 26)), none, .idxAddrArr 2 1 (tm 25) (tm 23), true, 960⟩,
    ⟨(some (Pos.ofNat 27)), none, .load1 (tm 26), true, 1984⟩,
    ⟨(some (Pos.ofNat 28)), none, .lenL (tm 27), true, 4032⟩,
    ⟨(some (Pos.ofNat 29)), none, .bin .sub .other false (tm 21) (tm 28), true, 8188⟩,
    ⟨(some (Pos.ofNat 30)), none, .bin .gtr .other false (tm 17) (tm 29), true, 16383⟩,
    ⟨(some (Pos.ofNat 15)), none, .mov (tm 30), true, 32767⟩]

noncomputable def dlay_6 : List O := [
    ⟨(some (Pos.ofNat 6)), none, .mov (vl (int64 (8))), true, 0⟩]

noncomputable def dlay_7 : List O := [
    ⟨(some (Pos.ofNat 31)), none, .mov (tm 0), true, 0⟩,
    ⟨(some (Pos.ofNat 32)), none, .mov (tm 1), true, 0⟩,
    ⟨(some (Pos.ofNat 33)), none, .mov (tm 2), true, 0⟩,
    ⟨(some (Pos.ofNat 34)), none, .call (.value (vl (.fn (.func 58) [] []))) [(tm 33)], true, 0⟩,
    ⟨(some (Pos.ofNat 35)), none, .build [(int64 (0)), (int64 (0)), .nilSl] [(0, 1, (vl (int64 (1)))), (1, 1, (tm 32)), (2, 1, (tm 34))], true, 0⟩,
    ⟨(some (Pos.ofNat 36)), none, .call (.value (vl (.fn (.func 65) [] []))) [(tm 31), (tm 35)], true, 0⟩,
    ⟨(some (Pos.ofNat 6)), none, .mov (tm 36), true, 0⟩]

noncomputable def dlay_fu : Fu := ⟨[.tmp (Pos.ofNat 6)], 37, (.seq (.region dlay_0) (.seq (.block 0 (.seq (.region dlay_1) (.cond (tm 7) (.seq (.region dlay_2) .ret) (.seq (.region dlay_3) (.cond (tm 11) (.seq (.region dlay_4) .ret) (.seq (.drawn dlay_5) (.cond (tm 15) (.seq (.region dlay_6) .ret) .skip))))))) (.seq (.region dlay_7) .ret)))⟩

theorem dlay_code : compFn Try.prog 36 = some dlay_fu := by kernel_rfl

/-! (some (*estuary/disk.Disk).Clear) -/

noncomputable def dclear_0 : List O := [
    ⟨(some (Pos.ofNat 4)), none, .mov (vl (int64 (0))), true, 0⟩]

noncomputable def dclear_1 : List O := [
    ⟨(some (Pos.ofNat 6)), none, .mov (tm 0), true, 0⟩,
    ⟨(some (Pos.ofNat 7)), none, .call (.value (vl (.fn (.func 63) [] []))) [(tm 6)], true, 0⟩,
    ⟨(some (Pos.ofNat 8)), none, .un .not (tm 7), true, 0⟩,
    ⟨(some (Pos.ofNat 5)), none, .mov (tm 8), true, 0⟩]

noncomputable def dclear_2 : List O := [
    ⟨(some (Pos.ofNat 4)), none, .mov (vl (int64 (1))), true, 0⟩]

noncomputable def dclear_3 : List O := [
    ⟨(some (Pos.ofNat 10)), none, .mov (tm 1), true, 0⟩,
    ⟨(some (Pos.ofNat 11)), none, .call (.value (vl (.fn (.func 64) [] []))) [(tm 10)], true, 0⟩,
    ⟨(some (Pos.ofNat 12)), none, .un .not (tm 11), true, 0⟩,
    ⟨(some (Pos.ofNat 9)), none, .mov (tm 12), true, 0⟩]

noncomputable def dclear_4 : List O := [
    ⟨(some (Pos.ofNat 4)), none, .mov (vl (int64 (2))), true, 0⟩]

noncomputable def dclear_5 : List O := [
    ⟨(some (Pos.ofNat 13)), none, .mov (tm 0), true, 0⟩,
    ⟨(some (Pos.ofNat 14)), none, .mov (tm 1), true, 0⟩,
    ⟨(some (Pos.ofNat 15)), none, .build [(int64 (0)), (int64 (0)), .nilSl] [(0, 1, (vl (int64 (2)))), (1, 1, (tm 14))], true, 0⟩,
    ⟨(some (Pos.ofNat 16)), none, .call (.value (vl (.fn (.func 65) [] []))) [(tm 13), (tm 15)], true, 0⟩,
    ⟨(some (Pos.ofNat 4)), none, .mov (tm 16), true, 0⟩]

noncomputable def dclear_fu : Fu := ⟨[.tmp (Pos.ofNat 4)], 17, (.seq (.region dclear_0) (.seq (.block 0 (.seq (.region dclear_1) (.cond (tm 5) (.seq (.region dclear_2) .ret) (.seq (.region dclear_3) (.cond (tm 9) (.seq (.region dclear_4) .ret) .skip))))) (.seq (.region dclear_5) .ret)))⟩

theorem dclear_code : compFn Try.prog 37 = some dclear_fu := by kernel_rfl

/-! (some (*estuary/disk.Disk).Turn) -/

noncomputable def dturn_0 : List O := [
    ⟨(some (Pos.ofNat 2)), none, .mov (vl (int64 (0))), true, 0⟩]

noncomputable def dturn_1 : List O := [
    ⟨(some (Pos.ofNat 3)), none, .mov (tm 0), true, 0⟩,
    ⟨(some (Pos.ofNat 4)), none, .call (.value (vl (.fn (.func 63) [] []))) [(tm 3)], true, 0⟩,
    ⟨(some (Pos.ofNat 5)), none, .un .not (tm 4), true, 0⟩]

noncomputable def dturn_2 : List O := [
    ⟨(some (Pos.ofNat 2)), none, .mov (vl (int64 (1))), true, 0⟩]

noncomputable def dturn_3 : List O := [
    ⟨(some (Pos.ofNat 6)), none, .mov (tm 0), true, 0⟩,
    ⟨(some (Pos.ofNat 7)), none, .build [(int64 (0)), (int64 (0)), .nilSl] [(0, 1, (vl (int64 (3))))], true, 0⟩,
    ⟨(some (Pos.ofNat 8)), none, .call (.value (vl (.fn (.func 65) [] []))) [(tm 6), (tm 7)], true, 0⟩,
    ⟨(some (Pos.ofNat 2)), none, .mov (tm 8), true, 0⟩]

noncomputable def dturn_fu : Fu := ⟨[.tmp (Pos.ofNat 2)], 9, (.seq (.region dturn_0) (.seq (.seq (.region dturn_1) (.cond (tm 5) (.seq (.region dturn_2) .ret) .skip)) (.seq (.region dturn_3) .ret)))⟩

theorem dturn_code : compFn Try.prog 38 = some dturn_fu := by kernel_rfl

/-! (some (*estuary/disk.Disk).Writes) -/

noncomputable def writes_0 : List O := [
    ⟨(some (Pos.ofNat 2)), none, .mov (vl (int64 (0))), true, 0⟩]

noncomputable def writes_1 : List O := [
    ⟨(some (Pos.ofNat 3)), none, .mov (tm 0), true, 0⟩,
    ⟨(some (Pos.ofNat 4)), none, .call (.value (vl (.fn (.func 63) [] []))) [(tm 3)], true, 0⟩,
    ⟨(some (Pos.ofNat 5)), none, .un .not (tm 4), true, 0⟩]

noncomputable def writes_2 : List O := [
    ⟨(some (Pos.ofNat 2)), none, .mov (vl (int64 (0))), true, 0⟩]

noncomputable def writes_3 : List O := [
    ⟨(some (Pos.ofNat 6)), none, .mov (tm 0), true, 0⟩,
    ⟨(some (Pos.ofNat 7)), none, .nilCheck (tm 6), true, 0⟩,
    ⟨(some (Pos.ofNat 8)), none, .fieldAddr 7 (tm 7), true, 0⟩,
    ⟨(some (Pos.ofNat 9)), none, .load1 (tm 8), true, 0⟩,
    ⟨(some (Pos.ofNat 10)), none, .lenL (tm 9), true, 0⟩,
    ⟨(some (Pos.ofNat 2)), none, .mov (tm 10), true, 0⟩]

noncomputable def writes_fu : Fu := ⟨[.tmp (Pos.ofNat 2)], 11, (.seq (.region writes_0) (.seq (.seq (.region writes_1) (.cond (tm 5) (.seq (.region writes_2) .ret) .skip)) (.seq (.region writes_3) .ret)))⟩

theorem writes_code : compFn Try.prog 42 = some writes_fu := by kernel_rfl

/-! (some slices.Clone[[]byte,byte]) -/

noncomputable def clb_0 : List O := [
    ⟨(some (Pos.ofNat 2)), none, .mov (vl .nilSl), true, 0⟩]

noncomputable def clb_1 : List O := [
    ⟨(some (Pos.ofNat 3)), none, .mov (tm 0), true, 0⟩,
    ⟨(some (Pos.ofNat 4)), none, .bin .eql .slice true (tm 3) (vl .nilSl), true, 0⟩]

noncomputable def clb_2 : List O := [
    ⟨(some (Pos.ofNat 2)), none, .mov (vl .nilSl), true, 0⟩]

noncomputable def clb_3 : List O := [
    ⟨(some (Pos.ofNat 5)), none, .buildSl 0 1 [(.int .u8 (0))] [], true, 0⟩,
    ⟨(some (Pos.ofNat 6)), none, .mov (tm 0), true, 0⟩,
    ⟨(some (Pos.ofNat 7)), none, .append 1 1 (tm 5) (tm 6), true, 0⟩,
    ⟨(some (Pos.ofNat 2)), none, .mov (tm 7), true, 0⟩]

noncomputable def clb_fu : Fu := ⟨[.tmp (Pos.ofNat 2)], 8, (.seq (.region clb_0) (.seq (.seq (.region clb_1) (.cond (tm 4) (.seq (.region clb_2) .ret) .skip)) (.seq (.region clb_3) .ret)))⟩

theorem clb_code : compFn Try.prog 58 = some clb_fu := by kernel_rfl

/-! (some slices.Clone[[]estuary/api.Write,estuary/api.Write]) -/

noncomputable def clw_0 : List O := [
    ⟨(some (Pos.ofNat 2)), none, .mov (vl .nilSl), true, 0⟩]

noncomputable def clw_1 : List O := [
    ⟨(some (Pos.ofNat 3)), none, .mov (tm 0), true, 0⟩,
    ⟨(some (Pos.ofNat 4)), none, .bin .eql .slice true (tm 3) (vl .nilSl), true, 0⟩]

noncomputable def clw_2 : List O := [
    ⟨(some (Pos.ofNat 2)), none, .mov (vl .nilSl), true, 0⟩]

noncomputable def clw_3 : List O := [
    ⟨(some (Pos.ofNat 5)), none, .buildSl 0 3 [(int64 (0)), (int64 (0)), .nilSl] [], true, 0⟩,
    ⟨(some (Pos.ofNat 6)), none, .mov (tm 0), true, 0⟩,
    ⟨(some (Pos.ofNat 7)), none, .append 3 40 (tm 5) (tm 6), true, 0⟩,
    ⟨(some (Pos.ofNat 2)), none, .mov (tm 7), true, 0⟩]

noncomputable def clw_fu : Fu := ⟨[.tmp (Pos.ofNat 2)], 8, (.seq (.region clw_0) (.seq (.seq (.region clw_1) (.cond (tm 4) (.seq (.region clw_2) .ret) .skip)) (.seq (.region clw_3) .ret)))⟩

theorem clw_code : compFn Try.prog 66 = some clw_fu := by kernel_rfl

/-! (some estuary/disk.Of) -/

noncomputable def of_0 : List O := [
    ⟨(some (Pos.ofNat 8)), none, .mov (vl .nilPtr), true, 0⟩,
    ⟨(some (Pos.ofNat 9)), none, .mov (vl (int64 (0))), true, 0⟩]

noncomputable def of_1 : List O := [
    ⟨(some (Pos.ofNat 12)), none, .mov (tm 0), true, 0⟩,
    ⟨(some (Pos.ofNat 13)), none, .bin .lss .other true (tm 12) (vl (int64 (1))), true, 0⟩,
    ⟨(some (Pos.ofNat 14)), none, .mov (tm 13), true, 0⟩,
    ⟨(some (Pos.ofNat 15)), (some ((Pos.ofNat 14), false)), .mov (tm 0), true, 0⟩,
    ⟨(some (Pos.ofNat 16)), (some ((Pos.ofNat 14), false)), .bin .gtr .other true (tm 15) (vl (int64 (1048576))), true, 0⟩,
    ⟨(some (Pos.ofNat 17)), none, .pick (tm 14) (vl (.bool true)) (tm 16), true, 0⟩,
    ⟨(some (Pos.ofNat 18)), none, .mov (tm 17), true, 0⟩,
    ⟨(some (Pos.ofNat 19)), (some ((Pos.ofNat 18), false)), .mov (tm 1), true, 0⟩,
    ⟨(some (Pos.ofNat 20)), (some ((Pos.ofNat 18), false)), .bin .lss .other true (tm 19) (vl (int64 (0))), true, 0⟩,
    ⟨(some (Pos.ofNat 21)), none, .pick (tm 18) (vl (.bool true)) (tm 20), true, 0⟩,
    ⟨(some (Pos.ofNat 22)), none, .mov (tm 21), true, 0⟩,
    ⟨(some (Pos.ofNat 23)), (some ((Pos.ofNat 22), false)), .mov (tm 1), true, 0⟩,
    ⟨(some (Pos.ofNat 24)), (some ((Pos.ofNat 22), false)), .bin .gtr .other true (tm 23) (vl (int64 (1))), true, 0⟩,
    ⟨(some (Pos.ofNat 25)), none, .pick (tm 22) (vl (.bool true)) (tm 24), true, 0⟩,
    ⟨(some (Pos.ofNat 11)), none, .mov (tm 25), true, 0⟩]

noncomputable def of_2 : List O := [
    ⟨(some (Pos.ofNat 8)), none, .mov (vl .nilPtr), true, 0⟩,
    ⟨(some (Pos.ofNat 9)), none, .mov (vl (int64 (2))), true, 0⟩]

noncomputable def of_3 : List O := [
    ⟨(some (Pos.ofNat 27)), none, .mov (tm 2), true, 0⟩,
    ⟨(some (Pos.ofNat 28)), none, .lenL (tm 27), true, 0⟩,
    ⟨(some (Pos.ofNat 29)), none, .mov (tm 0), true, 0⟩,
    ⟨(some (Pos.ofNat 30)), none, .bin .gtr .other false (tm 28) (tm 29), true, 0⟩,
    ⟨(some (Pos.ofNat 31)), none, .mov (tm 30), true, 0⟩,
    ⟨(some (Pos.ofNat 32)), (some ((Pos.ofNat 31), false)), .mov (tm 3), true, 0⟩,
    ⟨(some (Pos.ofNat 33)), (some ((Pos.ofNat 31), false)), .lenL (tm 32), true, 0⟩,
    ⟨(some (Pos.ofNat 34)), (some ((Pos.ofNat 31), false)), .mov (tm 0), true, 0⟩,
    ⟨(some (Pos.ofNat 35)), (some ((Pos.ofNat 31), false)), .bin .gtr .other false (tm 33) (tm 34), true, 0⟩,
    ⟨(some (Pos.ofNat 36)), none, .pick (tm 31) (vl (.bool true)) (tm 35), true, 0⟩,
    ⟨(some (Pos.ofNat 26)), none, .mov (tm 36), true, 0⟩]

noncomputable def of_4 : List O := [
    ⟨(some (Pos.ofNat 8)), none, .mov (vl .nilPtr), true, 0⟩,
    ⟨(some (Pos.ofNat 9)), none, .mov (vl (int64 (8))), true, 0⟩]

noncomputable def of_5 : List O := [
    ⟨(some (Pos.ofNat 37)), none, .mov (tm 2), true, 0⟩,
    ⟨(some (Pos.ofNat 38)), none, .call (.value (vl (.fn (.func 58) [] []))) [(tm 37)], true, 0⟩,
    ⟨(some (Pos.ofNat 39)), none, .mov (tm 3), true, 0⟩,
    ⟨(some (Pos.ofNat 40)), none, .call (.value (vl (.fn (.func 58) [] []))) [(tm 39)], true, 0⟩,
    ⟨(some (Pos.ofNat 41)), none, .build [.nilSl, .nilSl] [(0, 1, (tm 38)), (1, 1, (tm 40))], true, 0⟩,
    ⟨(some (Pos.ofNat 10)), none, .new [.nilSl, .nilSl], true, 0⟩,
    ⟨none, none, .store 2 (tm 10) (tm 41), true, 0⟩]

noncomputable def of_6 : List O := [
    ⟨(some (Pos.ofNat 42)), none, .mov (tm 0), true, 0⟩,
    ⟨(some (Pos.ofNat 43)), none, .mov (tm 1), true, 0⟩,
    ⟨(some (Pos.ofNat 44)), none, .mov (tm 2), true, 0⟩,
    ⟨(some (Pos.ofNat 45)), none, .call (.value (vl (.fn (.func 58) [] []))) [(tm 44)], true, 4⟩,
    ⟨(some (Pos.ofNat 46)), none, .mov (tm 3), true, 0⟩,
    ⟨(some (Pos.ofNat 47)), none, .call (.value (vl (.fn (.func 58) [] []))) [(tm 46)], true, 28⟩,
    ⟨(some (Pos.ofNat 48)), none, .build [.nilSl, .nilSl] [(0, 1, (tm 45)), (1, 1, (tm 47))], true, 60⟩,
    ⟨(some (Pos.ofNat 49)), none, .loadN 2 (tm 10), true, 0⟩,
    ⟨(some (Pos.ofNat 50)), none, .mov (tm 1), true, 0⟩,
    ⟨(some (Pos.ofNat 51)), none, .build [(int64 (0)), (int64 (0)), .nilSl, .nilSl, .nilSl, .nilSl, (int64 (0)), .nilSl] [(0, 1, (tm 42)), (1, 1, (tm 43)), (2, 2, (tm 48)), (4, 2, (tm 49)), (6, 1, (tm 50))], true, 511⟩,
    ⟨(some (Pos.ofNat 52)), none, .box (tm 51), true, 1023⟩,
    ⟨(some (Pos.ofNat 8)), none, .mov (tm 52), true, 2047⟩,
    ⟨(some (Pos.ofNat 9)), none, .mov (vl (int64 (0))), true, 4095⟩]

noncomputable def of_fu : Fu := ⟨[.tmp (Pos.ofNat 8), .tmp (Pos.ofNat 9)], 53, (.seq (.region of_0) (.seq (.block 0 (.seq (.region of_1) (.cond (tm 11) (.seq (.region of_2) .ret) (.seq (.region of_3) (.cond (tm 26) (.seq (.region of_4) .ret) .skip))))) (.seq (.region of_5) (.seq (.drawn of_6) .ret))))⟩

theorem of_code : compFn Try.prog 34 = some of_fu := by kernel_rfl

/-! (some bytes.Equal) -/

noncomputable def equal_0 : List O := [
    ⟨(some (Pos.ofNat 4)), none, .mov (vl (.bool false)), true, 0⟩]

noncomputable def equal_1 : List O := [
    ⟨(some (Pos.ofNat 5)), none, .mov (tm 0), true, 0⟩,
    ⟨(some (Pos.ofNat 6)), none, .bytesStr (tm 5), true, 0⟩,
    ⟨(some (Pos.ofNat 7)), none, .mov (tm 1), true, 0⟩,
    ⟨(some (Pos.ofNat 8)), none, .bytesStr (tm 7), true, 0⟩,
    ⟨(some (Pos.ofNat 9)), none, .bin .eql .other false (tm 6) (tm 8), true, 0⟩,
    ⟨(some (Pos.ofNat 4)), none, .mov (tm 9), true, 0⟩]

noncomputable def equal_fu : Fu := ⟨[.tmp (Pos.ofNat 4)], 10, (.seq (.region equal_0) (.seq (.region equal_1) .ret))⟩

theorem equal_code : compFn Try.prog 69 = some equal_fu := by kernel_rfl

/-! (some estuary/disk.Same) -/

noncomputable def same_0 : List O := [
    ⟨(some (Pos.ofNat 4)), none, .mov (vl (.bool false)), true, 0⟩]

noncomputable def same_1 : List O := [
    ⟨(some (Pos.ofNat 5)), none, .mov (tm 0), true, 0⟩,
    ⟨(some (Pos.ofNat 6)), none, .call (.value (vl (.fn (.func 63) [] []))) [(tm 5)], true, 0⟩,
    ⟨(some (Pos.ofNat 7)), none, .un .not (tm 6), true, 0⟩,
    ⟨(some (Pos.ofNat 8)), none, .mov (tm 7), true, 0⟩,
    ⟨(some (Pos.ofNat 9)), (some ((Pos.ofNat 8), false)), .mov (tm 1), true, 0⟩,
    ⟨(some (Pos.ofNat 10)), (some ((Pos.ofNat 8), false)), .call (.value (vl (.fn (.func 63) [] []))) [(tm 9)], true, 0⟩,
    ⟨(some (Pos.ofNat 11)), (some ((Pos.ofNat 8), false)), .un .not (tm 10), true, 0⟩,
    ⟨(some (Pos.ofNat 12)), none, .pick (tm 8) (vl (.bool true)) (tm 11), true, 0⟩]

noncomputable def same_2 : List O := [
    ⟨(some (Pos.ofNat 13)), none, .mov (tm 0), true, 0⟩,
    ⟨(some (Pos.ofNat 14)), none, .call (.value (vl (.fn (.func 63) [] []))) [(tm 13)], true, 0⟩,
    ⟨(some (Pos.ofNat 15)), none, .mov (tm 1), true, 0⟩,
    ⟨(some (Pos.ofNat 16)), none, .call (.value (vl (.fn (.func 63) [] []))) [(tm 15)], true, 0⟩,
    ⟨(some (Pos.ofNat 17)), none, .bin .eql .bool false (tm 14) (tm 16), true, 0⟩,
    ⟨(some (Pos.ofNat 4)), none, .mov (tm 17), true, 0⟩]

noncomputable def same_3 : List O := [
    ⟨(some (Pos.ofNat 18)), none, .mov (tm 0), true, 0⟩,
    ⟨(some (Pos.ofNat 19)), none, .nilCheck (tm 18), true, 1⟩,
    ⟨(some (Pos.ofNat 20)), none, .fieldAddr 0 (tm 19), true, 3⟩,
    ⟨(some (Pos.ofNat 21)), none, .load1 (tm 20), true, 7⟩,
    ⟨(some (Pos.ofNat 22)), none, .mov (tm 1), true, 0⟩,
    ⟨(some (Pos.ofNat 23)), none, .nilCheck (tm 22), true, 16⟩,
    ⟨(some (Pos.ofNat 24)), none, .fieldAddr 0 (tm 23), true, 48⟩,
    ⟨(some (Pos.ofNat 25)), none, .load1 (tm 24), true, 112⟩,
    ⟨(some (Pos.ofNat 26)), none, .bin .eql .other false (tm 21) (tm 25), true, 255⟩,
    ⟨(some (Pos.ofNat 27)), none, .mov (tm 26), true, 511⟩,
    ⟨(some (Pos.ofNat 28)), (some ((Pos.ofNat 27), true)), .mov (tm 0), true, 1023⟩,
    ⟨(some (Pos.ofNat 29)), (some ((Pos.ofNat 27), true)), .nilCheck (tm 28), true, 2047⟩,
    ⟨(some (Pos.ofNat 30)), (some ((Pos.ofNat 27), true)), .fieldAddr 1 (tm 29), true, 4095⟩,
    ⟨(some (Pos.ofNat 31)), (some ((Pos.ofNat 27), true)), .load1 (tm 30), true, 8191⟩,
    ⟨(some (Pos.ofNat 32)), (some ((Pos.ofNat 27), true)), .mov (tm 1), true, 1023⟩,
    ⟨(some (Pos.ofNat 33)), (some ((Pos.ofNat 27), true)), .nilCheck (tm 32), true, 17407⟩,
    ⟨(some (Pos.ofNat 34)), (some ((Pos.ofNat 27), true)), .fieldAddr 1 (tm 33), true, 50175⟩,
    ⟨(some (Pos.ofNat 35)), (some ((Pos.ofNat 27), true)), .load1 (tm 34), true, 115711⟩,
    ⟨(some (Pos.ofNat 36)), (some ((Pos.ofNat 27), true)), .bin .eql .other false (tm 31) (tm 35), true, 262143⟩,
    ⟨(some (Pos.ofNat 37)), none, .pick (tm 27) (tm 36) (vl (.bool false)), true, 524287⟩,
    ⟨(some (Pos.ofNat 38)), none, .mov (tm 37), true, 1048575⟩,
    ⟨(some (Pos.ofNat 39)), (some ((Pos.ofNat 38), true)), .mov (tm 0), true, 2097151⟩,
    ⟨(some (Pos.ofNat 40)), (some ((Pos.ofNat 38), true)), .nilCheck (tm 39), true, 4194303⟩,
    ⟨(some (Pos.ofNat 41)), (some ((Pos.ofNat 38), true)), .fieldAddr 2 (tm 40), true, 8388607⟩,
    ⟨(some (Pos.ofNat 42)), (some ((Pos.ofNat 38), true)), .idxAddrArr 2 1 (tm 41) (vl (int64 (0))), true, 16777215⟩,
    ⟨(some (Pos.ofNat 43)), (some ((Pos.ofNat 38), true)), .load1 (tm 42), true, 33554431⟩,
    ⟨(some (Pos.ofNat 44)), (some ((Pos.ofNat 38), true)), .mov (tm 1), true, 2097151⟩,
    ⟨(some (Pos.ofNat 45)), (some ((Pos.ofNat 38), true)), .nilCheck (tm 44), true, 69206015⟩,
    ⟨(some (Pos.ofNat 46)), (some ((Pos.ofNat 38), true)), .fieldAddr 2 (tm 45), true, 203423743⟩,
    ⟨(some (Pos.ofNat 47)), (some ((Pos.ofNat 38), true)), .idxAddrArr 2 1 (tm 46) (vl (int64 (0))), true, 471859199⟩,
    ⟨(some (Pos.ofNat 48)), (some ((Pos.ofNat 38), true)), .load1 (tm 47), true, 1008730111⟩,
    ⟨(some (Pos.ofNat 49)), (some ((Pos.ofNat 38), true)), .call (.value (vl (.fn (.func 69) [] []))) [(tm 43), (tm 48)], true, 2147483647⟩,
    ⟨(some (Pos.ofNat 50)), none, .pick (tm 38) (tm 49) (vl (.bool false)), true, 4294967295⟩,
    ⟨(some (Pos.ofNat 51)), none, .mov (tm 50), true, 8589934591⟩,
    ⟨(some (Pos.ofNat 52)), (some ((Pos.ofNat 51), true)), .mov (tm 0), true, 17179869183⟩,
    ⟨(some (Pos.ofNat 53)), (some ((Pos.ofNat 51), true)), .nilCheck (tm 52), true, 34359738367⟩,
    ⟨(some (Pos.ofNat 54)), (some ((Pos.ofNat 51), true)), .fieldAddr 2 (tm 53), true, 68719476735⟩,
    ⟨(some (Pos.ofNat 55)), (some ((Pos.ofNat 51), true)), .idxAddrArr 2 1 (tm 54) (vl (int64 (1))), true, 137438953471⟩,
    ⟨(some (Pos.ofNat 56)), (some ((Pos.ofNat 51), true)), .load1 (tm 55), true, 274877906943⟩,
    ⟨(some (Pos.ofNat 57)), (some ((Pos.ofNat 51), true)), .mov (tm 1), true, 17179869183⟩,
    ⟨(some (Pos.ofNat 58)), (some ((Pos.ofNat 51), true)), .nilCheck (tm 57), true, 566935683071⟩,
    ⟨(some (Pos.ofNat 59)), (some ((Pos.ofNat 51), true)), .fieldAddr 2 (tm 58), true, 1666447310847⟩,
    ⟨(some (Pos.ofNat 60)), (some ((Pos.ofNat 51), true)), .idxAddrArr 2 1 (tm 59) (vl (int64 (1))), true, 3865470566399⟩,
    ⟨(some (Pos.ofNat 61)), (some ((Pos.ofNat 51), true)), .load1 (tm 60), true, 8263517077503⟩,
    ⟨(some (Pos.ofNat 62)), (some ((Pos.ofNat 51), true)), .call (.value (vl (.fn (.func 69) [] []))) [(tm 56), (tm 61)], true, 17592186044415⟩,
    ⟨(some (Pos.ofNat 63)), none, .pick (tm 51) (tm 62) (vl (.bool false)), true, 35184372088831⟩,
    ⟨(some (Pos.ofNat 4)), none, .mov (tm 63), true, 70368744177663⟩]

noncomputable def same_fu : Fu := ⟨[.tmp (Pos.ofNat 4)], 64, (.seq (.region same_0) (.seq (.seq (.region same_1) (.cond (tm 12) (.seq (.region same_2) .ret) .skip)) (.seq (.drawn same_3) .ret)))⟩

theorem same_code : compFn Try.prog 41 = some same_fu := by kernel_rfl

/-! (some (*estuary/disk.Disk).All$1) -/

noncomputable def yall_0 : List O := [
    ⟨(some (Pos.ofNat 2)), none, .box (tm 0), true, 0⟩]

noncomputable def yall_1 : List O := [
    ⟨(some (Pos.ofNat 5)), none, .load1 (tm 1), true, 0⟩,
    ⟨(some (Pos.ofNat 6)), none, .call (.value (vl (.fn (.func 68) [] []))) [(tm 5)], true, 0⟩]

noncomputable def yall_2 : List O := [
    ⟨(some (Pos.ofNat 3)), none, .mov (tm 7), true, 0⟩]

noncomputable def yall_3 : List O := [
    ⟨(some (Pos.ofNat 4)), none, .new [(int64 (0)), (int64 (0)), .nilSl], true, 0⟩,
    ⟨none, none, .store 3 (tm 4) (tm 8), true, 0⟩]

noncomputable def yall_4 : C := (.seq (.region yall_2) (.region yall_3))

noncomputable def yall_5 : List O := [
    ⟨(some (Pos.ofNat 9)), none, .fieldAddr 2 (tm 4), true, 0⟩,
    ⟨(some (Pos.ofNat 10)), none, .load1 (tm 9), true, 0⟩,
    ⟨(some (Pos.ofNat 11)), none, .call (.value (vl (.fn (.func 58) [] []))) [(tm 10)], true, 0⟩,
    ⟨(some (Pos.ofNat 12)), none, .fieldAddr 2 (tm 4), true, 0⟩,
    ⟨none, none, .store 1 (tm 12) (tm 11), true, 0⟩]

noncomputable def yall_6 : List O := [
    ⟨(some (Pos.ofNat 13)), none, .load1 (tm 2), true, 0⟩,
    ⟨(some (Pos.ofNat 14)), none, .mov (tm 3), true, 0⟩,
    ⟨(some (Pos.ofNat 15)), none, .loadN 3 (tm 4), true, 0⟩,
    ⟨(some (Pos.ofNat 16)), none, .call (.value (tm 13)) [(tm 14), (tm 15)], true, 0⟩,
    ⟨(some (Pos.ofNat 17)), none, .un .not (tm 16), true, 0⟩]

noncomputable def yall_7 : C := (.block 1 (.seq (.region yall_5) (.seq (.region yall_6) (.cond (tm 17) .ret .skip))))

noncomputable def yall_fu : Fu := ⟨[], 18, (.seq (.region yall_0) (.seq (.region yall_1) (.block 0 (.rangeFunc (tm 6) [(Pos.ofNat 7), (Pos.ofNat 8)] yall_4 yall_7))))⟩

theorem yall_code : compFn Try.prog 67 = some yall_fu := by kernel_rfl

/-! (some (*estuary/disk.Disk).All) -/

noncomputable def all_0 : List O := [
    ⟨(some (Pos.ofNat 2)), none, .mov (vl .nilFn), true, 0⟩]

noncomputable def all_1 : List O := [
    ⟨(some (Pos.ofNat 3)), none, .new [.nilSl], true, 0⟩]

noncomputable def all_2 : List O := [
    ⟨(some (Pos.ofNat 4)), none, .mov (tm 0), true, 0⟩,
    ⟨(some (Pos.ofNat 5)), none, .call (.value (vl (.fn (.func 63) [] []))) [(tm 4)], true, 0⟩]

noncomputable def all_3 : List O := [
    ⟨(some (Pos.ofNat 6)), none, .mov (tm 0), true, 0⟩,
    ⟨(some (Pos.ofNat 7)), none, .nilCheck (tm 6), true, 0⟩,
    ⟨(some (Pos.ofNat 8)), none, .fieldAddr 7 (tm 7), true, 0⟩,
    ⟨(some (Pos.ofNat 9)), none, .load1 (tm 8), true, 0⟩,
    ⟨(some (Pos.ofNat 10)), none, .call (.value (vl (.fn (.func 66) [] []))) [(tm 9)], true, 0⟩,
    ⟨none, none, .store 1 (tm 3) (tm 10), true, 0⟩]

noncomputable def all_4 : List O := [
    ⟨(some (Pos.ofNat 11)), none, .mkFn (.func 67) [] [(tm 3)], true, 0⟩,
    ⟨(some (Pos.ofNat 2)), none, .mov (tm 11), true, 0⟩]

noncomputable def all_fu : Fu := ⟨[.tmp (Pos.ofNat 2)], 12, (.seq (.region all_0) (.seq (.region all_1) (.seq (.seq (.region all_2) (.cond (tm 5) (.region all_3) .skip)) (.seq (.region all_4) .ret))))⟩

theorem all_code : compFn Try.prog 39 = some all_fu := by kernel_rfl

/-! (some slices.All[[]estuary/api.Write,estuary/api.Write]) -/

noncomputable def sall_0 : List O := [
    ⟨(some (Pos.ofNat 1)), none, .box (tm 0), true, 0⟩,
    ⟨(some (Pos.ofNat 2)), none, .mov (vl .nilFn), true, 0⟩]

noncomputable def sall_1 : List O := [
    ⟨(some (Pos.ofNat 3)), none, .mkFn (.func 86) [] [(tm 1)], true, 0⟩,
    ⟨(some (Pos.ofNat 2)), none, .mov (tm 3), true, 0⟩]

noncomputable def sall_fu : Fu := ⟨[.tmp (Pos.ofNat 2)], 4, (.seq (.region sall_0) (.seq (.region sall_1) .ret))⟩

theorem sall_code : compFn Try.prog 68 = some sall_fu := by kernel_rfl

/-! (some slices.All[[]estuary/api.Write,estuary/api.Write]$1) -/

noncomputable def sallf_0 : List O := [
    ⟨(some (Pos.ofNat 5)), none, .load1 (tm 1), true, 0⟩,
    ⟨(some (Pos.ofNat 6)), none, .lenL (tm 5), true, 0⟩,
    ⟨(some (Pos.ofNat 7)), none, .mov (vl (int64 (0))), true, 0⟩]

noncomputable def sallf_1 : List O := [
    ⟨(some (Pos.ofNat 8)), none, .bin .lss .other false (tm 7) (tm 6), true, 0⟩]

noncomputable def sallf_2 : List O := [
    ⟨(some (Pos.ofNat 9)), none, .mov (tm 7), true, 0⟩,
    ⟨(some (Pos.ofNat 10)), none, .idxAddrSl 3 (tm 5) (tm 7), true, 0⟩,
    ⟨(some (Pos.ofNat 11)), none, .loadN 3 (tm 10), true, 0⟩,
    ⟨(some (Pos.ofNat 4)), none, .new [(int64 (0)), (int64 (0)), .nilSl], true, 0⟩,
    ⟨(some (Pos.ofNat 3)), none, .mov (tm 9), true, 0⟩,
    ⟨none, none, .store 3 (tm 4) (tm 11), true, 0⟩]

noncomputable def sallf_3 : List O := [
    ⟨(some (Pos.ofNat 12)), none, .mov (tm 0), true, 0⟩,
    ⟨(some (Pos.ofNat 13)), none, .mov (tm 3), true, 0⟩,
    ⟨(some (Pos.ofNat 14)), none, .loadN 3 (tm 4), true, 0⟩,
    ⟨(some (Pos.ofNat 15)), none, .call (.value (tm 12)) [(tm 13), (tm 14)], true, 0⟩,
    ⟨(some (Pos.ofNat 16)), none, .un .not (tm 15), true, 0⟩]

noncomputable def sallf_4 : List O := [
    ⟨(some (Pos.ofNat 17)), none, .bin .add .other true (tm 7) (vl (int64 (1))), true, 0⟩,
    ⟨(some (Pos.ofNat 7)), none, .mov (tm 17), true, 0⟩]

noncomputable def sallf_5 : C := (.seq (.region sallf_1) (.seq (.cond (tm 8) .skip (.exit 0)) (.seq (.block 1 (.seq (.region sallf_2) (.seq (.region sallf_3) (.cond (tm 16) .ret .skip)))) (.region sallf_4))))

noncomputable def sallf_fu : Fu := ⟨[], 18, (.seq (.region sallf_0) (.block 0 (.loop sallf_5)))⟩

theorem sallf_code : compFn Try.prog 86 = some sallf_fu := by kernel_rfl

/-! (some (*estuary/disk.Disk).Cut) -/

noncomputable def cut_0 : List O := [
    ⟨(some (Pos.ofNat 3)), none, .box (tm 1), true, 0⟩,
    ⟨(some (Pos.ofNat 4)), none, .mov (vl .nilPtr), true, 0⟩,
    ⟨(some (Pos.ofNat 5)), none, .mov (vl (int64 (0))), true, 0⟩]

noncomputable def cut_1 : List O := [
    ⟨(some (Pos.ofNat 11)), none, .mov (tm 0), true, 0⟩,
    ⟨(some (Pos.ofNat 12)), none, .call (.value (vl (.fn (.func 63) [] []))) [(tm 11)], true, 0⟩,
    ⟨(some (Pos.ofNat 13)), none, .un .not (tm 12), true, 0⟩,
    ⟨(some (Pos.ofNat 10)), none, .mov (tm 13), true, 0⟩]

noncomputable def cut_2 : List O := [
    ⟨(some (Pos.ofNat 4)), none, .mov (vl .nilPtr), true, 0⟩,
    ⟨(some (Pos.ofNat 5)), none, .mov (vl (int64 (1))), true, 0⟩]

noncomputable def cut_3 : List O := [
    ⟨(some (Pos.ofNat 15)), none, .load1 (tm 3), true, 0⟩,
    ⟨(some (Pos.ofNat 16)), none, .bin .lss .other true (tm 15) (vl (int64 (0))), true, 1⟩,
    ⟨(some (Pos.ofNat 17)), none, .mov (tm 16), true, 3⟩,
    ⟨(some (Pos.ofNat 18)), (some ((Pos.ofNat 17), false)), .load1 (tm 3), true, 7⟩,
    ⟨(some (Pos.ofNat 19)), (some ((Pos.ofNat 17), false)), .mov (tm 0), true, 7⟩,
    ⟨(some (Pos.ofNat 20)), (some ((Pos.ofNat 17), false)), .nilCheck (tm 19), true, 23⟩,
    ⟨(some (Pos.ofNat 21)), (some ((Pos.ofNat 17), false)), .fieldAddr 7 (tm 20), true, 55⟩,
    ⟨(some (Pos.ofNat 22)), (some ((Pos.ofNat 17), false)), .load1 (tm 21), true, 119⟩,
    ⟨(some (Pos.ofNat 23)), (some ((Pos.ofNat 17), false)), .lenL (tm 22), true, 247⟩,
    ⟨(some (Pos.ofNat 24)), (some ((Pos.ofNat 17), false)), .bin .gtr .other false (tm 18) (tm 23), true, 511⟩,
    ⟨(some (Pos.ofNat 25)), none, .pick (tm 17) (vl (.bool true)) (tm 24), true, 1023⟩,
    ⟨(some (Pos.ofNat 14)), none, .mov (tm 25), true, 2047⟩]

noncomputable def cut_4 : List O := [
    ⟨(some (Pos.ofNat 4)), none, .mov (vl .nilPtr), true, 0⟩,
    ⟨(some (Pos.ofNat 5)), none, .mov (vl (int64 (2))), true, 0⟩]

noncomputable def cut_5 : List O := [
    ⟨(some (Pos.ofNat 27)), none, .mov (tm 0), true, 0⟩,
    ⟨(some (Pos.ofNat 28)), none, .nilCheck (tm 27), true, 1⟩,
    ⟨(some (Pos.ofNat 29)), none, .fieldAddr 0 (tm 28), true, 3⟩,
    ⟨(some (Pos.ofNat 30)), none, .load1 (tm 29), true, 7⟩,
    ⟨(some (Pos.ofNat 31)), none, .mov (tm 0), true, 0⟩,
    ⟨(some (Pos.ofNat 32)), none, .nilCheck (tm 31), true, 16⟩,
    ⟨(some (Pos.ofNat 33)), none, .fieldAddr 6 (tm 32), true, 48⟩,
    ⟨(some (Pos.ofNat 34)), none, .load1 (tm 33), true, 112⟩,
    ⟨(some (Pos.ofNat 35)), none, .mov (tm 0), true, 0⟩,
    ⟨(some (Pos.ofNat 36)), none, .nilCheck (tm 35), true, 256⟩,
    ⟨(some (Pos.ofNat 37)), none, .fieldAddr 4 (tm 36), true, 768⟩,
    ⟨(some (Pos.ofNat 38)), none, .idxAddrArr 2 1 (tm 37) (vl (int64 (0))), true, 1792⟩,
    ⟨(some (Pos.ofNat 39)), none, .load1 (tm 38), true, 3840⟩,
    ⟨(some (Pos.ofNat 40)), none, .mov (tm 0), true, 0⟩,
    ⟨(some (Pos.ofNat 41)), none, .nilCheck (tm 40), true, 8192⟩,
    ⟨(some (Pos.ofNat 42)), none, .fieldAddr 4 (tm 41), true, 24576⟩,
    ⟨(some (Pos.ofNat 43)), none, .idxAddrArr 2 1 (tm 42) (vl (int64 (1))), true, 57344⟩,
    ⟨(some (Pos.ofNat 44)), none, .load1 (tm 43), true, 122880⟩,
    ⟨(some (Pos.ofNat 45)), none, .call (.value (vl (.fn (.func 34) [] []))) [(tm 30), (tm 34), (tm 39), (tm 44)], true, 262143⟩,
    ⟨(some (Pos.ofNat 26)), none, .mov (tm 45), true, 524287⟩,
    ⟨(some (Pos.ofNat 46)), none, .extract (tm 26) 0, true, 1048575⟩,
    ⟨(some (Pos.ofNat 47)), none, .extract (tm 26) 1, true, 1048575⟩,
    ⟨(some (Pos.ofNat 6)), none, .new [.nilPtr], true, 0⟩,
    ⟨none, none, .store 1 (tm 6) (tm 46), true, 6291455⟩,
    ⟨(some (Pos.ofNat 7)), none, .mov (tm 47), true, 16777215⟩]

noncomputable def cut_6 : List O := [
    ⟨(some (Pos.ofNat 48)), none, .mov (tm 0), true, 0⟩,
    ⟨(some (Pos.ofNat 49)), none, .call (.value (vl (.fn (.func 39) [] []))) [(tm 48)], true, 0⟩]

noncomputable def cut_7 : List O := [
    ⟨(some (Pos.ofNat 8)), none, .mov (tm 50), true, 0⟩]

noncomputable def cut_8 : List O := [
    ⟨(some (Pos.ofNat 9)), none, .new [(int64 (0)), (int64 (0)), .nilSl], true, 0⟩,
    ⟨none, none, .store 3 (tm 9) (tm 51), true, 0⟩]

noncomputable def cut_9 : C := (.seq (.region cut_7) (.region cut_8))

noncomputable def cut_10 : List O := [
    ⟨(some (Pos.ofNat 52)), none, .mov (tm 8), true, 0⟩,
    ⟨(some (Pos.ofNat 53)), none, .load1 (tm 3), true, 0⟩,
    ⟨(some (Pos.ofNat 54)), none, .bin .lss .other false (tm 52) (tm 53), true, 0⟩]

noncomputable def cut_11 : List O := [
    ⟨(some (Pos.ofNat 55)), none, .load1 (tm 6), true, 0⟩,
    ⟨(some (Pos.ofNat 56)), none, .loadN 3 (tm 9), true, 0⟩,
    ⟨(some (Pos.ofNat 57)), none, .call (.value (vl (.fn (.func 65) [] []))) [(tm 55), (tm 56)], true, 0⟩]

noncomputable def cut_12 : C := (.block 2 (.seq (.region cut_10) (.cond (tm 54) (.region cut_11) .skip)))

noncomputable def cut_13 : List O := [
    ⟨(some (Pos.ofNat 58)), none, .load1 (tm 6), true, 0⟩,
    ⟨(some (Pos.ofNat 4)), none, .mov (tm 58), true, 0⟩,
    ⟨(some (Pos.ofNat 5)), none, .mov (vl (int64 (0))), true, 0⟩]

noncomputable def cut_fu : Fu := ⟨[.tmp (Pos.ofNat 4), .tmp (Pos.ofNat 5)], 59, (.seq (.region cut_0) (.seq (.block 0 (.seq (.region cut_1) (.cond (tm 10) (.seq (.region cut_2) .ret) (.seq (.drawn cut_3) (.cond (tm 14) (.seq (.region cut_4) .ret) .skip))))) (.seq (.drawn cut_5) (.seq (.seq (.region cut_6) (.block 1 (.rangeFunc (tm 49) [(Pos.ofNat 50), (Pos.ofNat 51)] cut_9 cut_12))) (.seq (.region cut_13) .ret)))))⟩

theorem cut_code : compFn Try.prog 40 = some cut_fu := by kernel_rfl

end Go.Proofs.Ytmifpiglcphmoaa.DPlays

namespace Go.Proofs.Ytmifpiglcphmoaa.DPlays
open Go Go.Proofs.Ytmifpiglcphmoaa.Am Go.Proofs

theorem ok34 : okCall Try.prog 34 = true := by kernel_rfl
theorem ok36 : okCall Try.prog 36 = true := by kernel_rfl
theorem ok37 : okCall Try.prog 37 = true := by kernel_rfl
theorem ok38 : okCall Try.prog 38 = true := by kernel_rfl
theorem ok39 : okCall Try.prog 39 = true := by kernel_rfl
theorem ok40 : okCall Try.prog 40 = true := by kernel_rfl
theorem ok41 : okCall Try.prog 41 = true := by kernel_rfl
theorem ok42 : okCall Try.prog 42 = true := by kernel_rfl
theorem ok58 : okCall Try.prog 58 = true := by kernel_rfl
theorem ok63 : okCall Try.prog 63 = true := by kernel_rfl
theorem ok64 : okCall Try.prog 64 = true := by kernel_rfl
theorem ok65 : okCall Try.prog 65 = true := by kernel_rfl
theorem ok66 : okCall Try.prog 66 = true := by kernel_rfl
theorem ok67 : okCall Try.prog 67 = true := by kernel_rfl
theorem ok68 : okCall Try.prog 68 = true := by kernel_rfl
theorem ok69 : okCall Try.prog 69 = true := by kernel_rfl
theorem ok83 : okCall Try.prog 83 = true := by kernel_rfl
theorem ok84 : okCall Try.prog 84 = true := by kernel_rfl
theorem ok85 : okCall Try.prog 85 = true := by kernel_rfl
theorem ok86 : okCall Try.prog 86 = true := by kernel_rfl
theorem ok35 : okCall Try.prog 35 = true := by kernel_rfl

/-- A raw write. -/
structure Wr where
  kind : Int
  area : Int
  data : List UInt8

/-- A disk. -/
structure Dk where
  cap : Int
  used : Int
  fr : Int
  a0 : List UInt8
  a1 : List UInt8
  f0 : List UInt8
  f1 : List UInt8
  ws : List Wr

/-- What a disk may be. -/
structure Dk.Ok (d : Dk) : Prop where
  cap : 0 < d.cap ∧ d.cap ≤ 1048576
  us : d.used = 0 ∨ d.used = 1
  fr : d.fr = 0 ∨ d.fr = 1
  a0 : (d.a0.length : Int) ≤ d.cap
  a1 : (d.a1.length : Int) ≤ d.cap
  f0 : (d.f0.length : Int) ≤ d.cap
  f1 : (d.f1.length : Int) ≤ d.cap

/-- The slices that a disk holds. -/
structure Vs where
  v0 : AV
  v1 : AV
  f0 : AV
  f1 : AV
  vw : AV

noncomputable def cellsD (d : Dk) (V : Vs) : List AV := [int64 d.cap, int64 d.used, V.v0, V.v1, V.f0, V.f1, int64 d.fr, V.vw]

noncomputable def rec1 (x : Wr × AV) : List AV := [int64 x.1.kind, int64 x.1.area, x.2]

noncomputable def recs (ws : List (Wr × AV)) : List AV := ws.flatMap rec1

theorem recs_length (ws : List (Wr × AV)) : (recs ws).length = ws.length * 3 := by
  unfold recs
  induction ws with
  | nil => rfl
  | cons x ws ih => rw [List.flatMap_cons, List.length_append, ih, List.length_cons, Nat.add_mul]; simp [rec1]; omega

theorem recs_append (a b : List (Wr × AV)) : recs (a ++ b) = recs a ++ recs b := List.flatMap_append

theorem recs_get : ∀ (ws : List (Wr × AV)) {i : Nat} (hi : i < ws.length), ((recs ws).drop (i * 3)).take 3 = rec1 ws[i]
  | x :: ws, 0, _ => by
    have e : recs (x :: ws) = int64 x.1.kind :: int64 x.1.area :: x.2 :: recs ws := rfl
    rw [e]; rfl
  | x :: ws, i + 1, hi => by
    have e : recs (x :: ws) = int64 x.1.kind :: int64 x.1.area :: x.2 :: recs ws := rfl
    rw [e, show (i + 1) * 3 = i * 3 + 1 + 1 + 1 by omega, List.drop_succ_cons, List.drop_succ_cons, List.drop_succ_cons, recs_get ws (i := i) (by simpa using hi)]
    rfl

/-- A disk, as it lies in memory of the kinds c to c + 4. -/
structure DkAt (κ : Pos → Nat) (c : Nat) (h : Hp) (p : Pos) (d : Dk) (V : Vs) (ws : List (Wr × AV)) : Prop where
  st : KArr κ c h p (cellsD d V)
  v0 : KHd κ (c + 1) h 1 V.v0 d.a0.length (byt d.a0)
  v1 : KHd κ (c + 2) h 1 V.v1 d.a1.length (byt d.a1)
  vw : KHd κ (c + 3) h 3 V.vw d.ws.length (recs ws)
  f0 : KSl κ (c + 4) h 1 V.f0 d.f0.length (byt d.f0)
  f1 : KSl κ (c + 4) h 1 V.f1 d.f1.length (byt d.f1)
  dat : ∀ x ∈ ws, KSl κ (c + 4) h 1 x.2 x.1.data.length (byt x.1.data)
  eq : ws.map Prod.fst = d.ws
  ok : d.Ok

section
variable {κ κ' : Pos → Nat} {c : Nat} {K : Nat → Prop} {h h' : Hp} {p : Pos} {d : Dk} {V : Vs} {ws : List (Wr × AV)}

theorem DkAt.chg (a : DkAt κ c h p d V ws) (q : Chg κ K h h') (g : Agr h κ κ') (hk : ∀ k, c ≤ k → k ≤ c + 4 → ¬ K k) : DkAt κ' c h' p d V ws :=
  ⟨a.st.chg q g (hk _ (by omega) (by omega)), a.v0.chg q g (hk _ (by omega) (by omega)), a.v1.chg q g (hk _ (by omega) (by omega)), a.vw.chg q g (hk _ (by omega) (by omega)), a.f0.chg q g (hk _ (by omega) (by omega)), a.f1.chg q g (hk _ (by omega) (by omega)),
    fun x hx => (a.dat x hx).chg q g (hk _ (by omega) (by omega)), a.eq, a.ok⟩

theorem DkAt.more (a : DkAt κ c h p d V ws) (o : Only [] h h') (g : Agr h κ κ') : DkAt κ' c h' p d V ws := a.chg (K := fun _ => False) (.of o) g fun _ _ _ q => q

theorem DkAt.l0 (a : DkAt κ c h p d V ws) : read1 h p 0 0 = some (int64 d.cap) := a.st.arr.one (i := 0) (by simp [cellsD])
theorem DkAt.l1 (a : DkAt κ c h p d V ws) : read1 h p 0 1 = some (int64 d.used) := a.st.arr.one (i := 1) (by simp [cellsD])
theorem DkAt.l2 (a : DkAt κ c h p d V ws) : read1 h p 0 2 = some V.v0 := a.st.arr.one (i := 2) (by simp [cellsD])
theorem DkAt.l3 (a : DkAt κ c h p d V ws) : read1 h p 0 3 = some V.v1 := a.st.arr.one (i := 3) (by simp [cellsD])
theorem DkAt.l4 (a : DkAt κ c h p d V ws) : read1 h p 0 4 = some V.f0 := a.st.arr.one (i := 4) (by simp [cellsD])
theorem DkAt.l5 (a : DkAt κ c h p d V ws) : read1 h p 0 5 = some V.f1 := a.st.arr.one (i := 5) (by simp [cellsD])
theorem DkAt.l6 (a : DkAt κ c h p d V ws) : read1 h p 0 6 = some (int64 d.fr) := a.st.arr.one (i := 6) (by simp [cellsD])
theorem DkAt.l7 (a : DkAt κ c h p d V ws) : read1 h p 0 7 = some V.vw := a.st.arr.one (i := 7) (by simp [cellsD])

theorem sameP_nn (h : Hp) : sameP h .nilPtr .nilPtr = some true := rfl

theorem there_fn (a : DkAt κ c h p d V ws) : AmFn Try.prog 63 [.ptr p 0 0] h (.bool true) h := by
  have l0 := a.l0
  have hc := a.ok.cap.1
  obtain ⟨env', e, f⟩ : ∃ env', runS Try.prog true there_fu.body [] (setArgs .e 0 [.ptr p 0 0]) h = some (.ret, [], env', h) ∧ sv env' 2 = .bool true := by
    unfold there_fu
    simp [there_0, there_1, runS, runR, Rs.seq, Rs.block, sv_args, runOps, wanted_no, wanted_sv, ev_tm, ev_vl, sv_setD, sv_set, setD_none, qev_mov, qev_bin, qev_un, qev_lenI, qev_pick, qev_load1, qev_idxSl, idx2_sl, idxA2_ptr, opt_some, bin_add, bin_sub, bin_mul, bin_lss, bin_leq, bin_gtr, bin_geq, bin_eql, bin_neq, un_not, un_neg, qev_callv, qev_new1, qev_store1, qev_nilC, nilC_ptr, qev_fld, fldA_ptr, qev_extract, nth0, nth1, nth2, qev_eqPtr, sameP_nil, notIf, l0, hc, bin_gtr, wanted_sv]
  exact AmFn.dos there_code (by simp) (Dos.runRet [] (by simp) e) (vs := [sv env' 2]) rfl f

theorem there_nil (h : Hp) : AmFn Try.prog 63 [.nilPtr] h (.bool false) h := by
  obtain ⟨env', e, f⟩ : ∃ env', runS Try.prog true there_fu.body [] (setArgs .e 0 [.nilPtr]) h = some (.ret, [], env', h) ∧ sv env' 2 = .bool false := by
    unfold there_fu
    simp [there_0, there_1, runS, runR, Rs.seq, Rs.block, sv_args, runOps, wanted_no, wanted_sv, ev_tm, ev_vl, sv_setD, sv_set, setD_none, qev_mov, qev_bin, qev_un, qev_lenI, qev_pick, qev_load1, qev_idxSl, idx2_sl, idxA2_ptr, opt_some, bin_add, bin_sub, bin_mul, bin_lss, bin_leq, bin_gtr, bin_geq, bin_eql, bin_neq, un_not, un_neg, qev_callv, qev_new1, qev_store1, qev_nilC, nilC_ptr, qev_fld, fldA_ptr, qev_extract, nth0, nth1, nth2, qev_eqPtr, sameP_nil, notIf, wanted_sv, sameP_nn]
  exact AmFn.dos there_code (by simp) (Dos.runRet [] (by simp) e) (vs := [sv env' 2]) rfl f

theorem area_fn (h : Hp) (n : Int) : AmFn Try.prog 64 [int64 n] h (.bool (decide (n = 0 ∨ n = 1))) h := by
  obtain ⟨env', e, f⟩ : ∃ env', runS Try.prog true area_fu.body [] (setArgs .e 0 [int64 n]) h = some (.ret, [], env', h) ∧ sv env' 2 = .bool (decide (n = 0 ∨ n = 1)) := by
    unfold area_fu
    by_cases h0 : n = 0
    · subst h0
      simp [area_0, area_1, runS, runR, Rs.seq, Rs.block, sv_args, runOps, wanted_no, wanted_sv, ev_tm, ev_vl, sv_setD, sv_set, setD_none, qev_mov, qev_bin, qev_un, qev_lenI, qev_pick, qev_load1, qev_idxSl, idx2_sl, idxA2_ptr, opt_some, bin_add, bin_sub, bin_mul, bin_lss, bin_leq, bin_gtr, bin_geq, bin_eql, bin_neq, un_not, un_neg, qev_callv, qev_new1, qev_store1, qev_nilC, nilC_ptr, qev_fld, fldA_ptr, qev_extract, nth0, nth1, nth2, qev_eqPtr, sameP_nil, notIf, wanted_sv]
    · simp [area_0, area_1, runS, runR, Rs.seq, Rs.block, sv_args, runOps, wanted_no, wanted_sv, ev_tm, ev_vl, sv_setD, sv_set, setD_none, qev_mov, qev_bin, qev_un, qev_lenI, qev_pick, qev_load1, qev_idxSl, idx2_sl, idxA2_ptr, opt_some, bin_add, bin_sub, bin_mul, bin_lss, bin_leq, bin_gtr, bin_geq, bin_eql, bin_neq, un_not, un_neg, qev_callv, qev_new1, qev_store1, qev_nilC, nilC_ptr, qev_fld, fldA_ptr, qev_extract, nth0, nth1, nth2, qev_eqPtr, sameP_nil, notIf, wanted_sv, h0]
  exact AmFn.dos area_code (by simp) (Dos.runRet [] (by simp) e) (vs := [sv env' 2]) rfl f

theorem writes_fn (a : DkAt κ c h p d V ws) : AmFn Try.prog 42 [.ptr p 0 0] h (int64 (d.ws.length : Nat)) h := by
  have k := there_fn a
  have l7 := a.l7
  have hl := a.vw.hd.sl.lenI (P := Try.prog) h
  obtain ⟨env', e, f⟩ : ∃ env', runS Try.prog true writes_fu.body [⟨63, [.ptr p 0 0], h, .bool true, h⟩] (setArgs .e 0 [.ptr p 0 0]) h = some (.ret, [], env', h) ∧ sv env' 2 = int64 (d.ws.length : Nat) := by
    unfold writes_fu
    simp [writes_0, writes_1, writes_3, runS, runR, Rs.seq, Rs.block, sv_args, runOps, wanted_no, ev_tm, ev_vl, sv_setD, qev_mov, qev_un, un_not, opt_some, qev_callv, qev_nilC, nilC_ptr, qev_fld, fldA_ptr, qev_load1, callA_ok ok63, l7, hl]
  exact AmFn.dos writes_code (by simp) (Dos.runRet _ (by intro x hx; simp at hx; subst hx; exact k) e) (vs := [sv env' 2]) rfl f

/-- A copy of bytes. -/
theorem clb_fn {v : AV} {n : Nat} {b : List UInt8} (r : SlN h 1 v n (byt b)) (ok : okSize n 1 = true) : ∃ v' h', AmFn Try.prog 58 [v] h v' h' ∧ Held h.next.num h' 1 v' n (byt b) ∧ Only [] h h' := by
  have q := r.eqlNil (P := Try.prog)
  cases hn : v.isNil with
  | true =>
    have hv : v = .nilSl := by cases v <;> first | rfl | cases hn
    subst hv
    have r' : n = 0 ∧ b = [] := by
      generalize hb : byt b = l at r
      cases r
      exact ⟨rfl, List.length_eq_zero_iff.1 (by rw [← byt_length, hb]; rfl)⟩
    obtain ⟨e1, e2⟩ := r'
    subst e1 e2
    obtain ⟨env', e, f⟩ : ∃ env', runS Try.prog true clb_fu.body [] (setArgs .e 0 [.nilSl]) h = some (.ret, [], env', h) ∧ sv env' 2 = .nilSl := by
      unfold clb_fu
      simp [clb_0, clb_1, clb_2, runS, runR, Rs.seq, Rs.block, sv_args, runOps, wanted_no, ev_tm, ev_vl, sv_setD, qev_mov, opt_some, q, hn]
    exact ⟨.nilSl, h, AmFn.dos clb_code (by simp) (Dos.runRet [] (by simp) e) (vs := [sv env' 2]) rfl f, .nil, .refl _ _⟩
  | false =>
    obtain ⟨h1, b1, o1, n1⟩ := emptySl Try.prog 1 [AV.int .u8 0] (by omega) h
    have hd1 : Held h.next.num h1 1 (.sl h.next 0 0 0 0 true 1) 0 [] := .inl ⟨rfl, rfl, .inr ⟨_, _, _, rfl, Nat.le_refl _, by omega⟩⟩
    obtain ⟨v', h2, S, ap, hd2, o2, hS, hv'⟩ := hd1.push Try.prog (bytes := 1) (r.more o1) (byt_atom b) (by omega) (by simpa using ok) (by omega)
    obtain ⟨env', e, f⟩ : ∃ env', runS Try.prog true clb_fu.body [] (setArgs .e 0 [v]) h = some (.ret, [], env', h2) ∧ sv env' 2 = v' := by
      unfold clb_fu
      simp [clb_0, clb_1, clb_3, runS, runR, Rs.seq, Rs.block, sv_args, runOps, wanted_no, ev_tm, ev_vl, sv_setD, qev_mov, opt_some, q, hn, b1, ap]
    refine ⟨v', h2, AmFn.dos clb_code (by simp) (Dos.runRet [] (by simp) e) (vs := [sv env' 2]) rfl f, by simpa using hd2, ?_⟩
    exact (o1.mono (S' := S) (by simp)).trans o2 |>.mono fun id q => .inr (by obtain ⟨g, off, m, cap, ex, e⟩ := hS id q; cases e; exact Nat.le_refl _)

theorem equal_fn {va vb : AV} {na nb : Nat} {a b : List UInt8} (ra : SlN h 1 va na (byt a)) (rb : SlN h 1 vb nb (byt b)) : AmFn Try.prog 69 [va, vb] h (.bool (decide (a = b))) h := by
  have qa := ra.str (P := Try.prog)
  have qb := rb.str (P := Try.prog)
  obtain ⟨env', e, f⟩ : ∃ env', runS Try.prog true equal_fu.body [] (setArgs .e 0 [va, vb]) h = some (.ret, [], env', h) ∧ sv env' 4 = .bool (decide (a = b)) := by
    unfold equal_fu
    simp [equal_0, equal_1, runS, runR, Rs.seq, Rs.block, sv_args, runOps, wanted_no, ev_tm, ev_vl, sv_setD, qev_mov, qev_bin, opt_some, qa, qb, bin_eqlS]
  exact AmFn.dos equal_code (by simp) (Dos.runRet [] (by simp) e) (vs := [sv env' 4]) rfl f
end
end Go.Proofs.Ytmifpiglcphmoaa.DPlays

namespace Go.Proofs.Ytmifpiglcphmoaa.DPlays
open Go Go.Proofs.Ytmifpiglcphmoaa.Am Go.Proofs

/-- What a raw write comes to. -/
def Dk.lay (d : Dk) (n : Int) (b : List UInt8) : Dk := if n = 0 then { d with a0 := d.a0 ++ b } else { d with a1 := d.a1 ++ b }
def Dk.emp (d : Dk) (n : Int) : Dk := if n = 0 then { d with a0 := [] } else { d with a1 := [] }
def Dk.turn (d : Dk) : Dk := { d with used := 1 - d.used }
def Dk.area (d : Dk) (n : Int) : List UInt8 := if n = 0 then d.a0 else d.a1

/-- What is written of a disk of the kinds from c on. -/
def Wk (c k : Nat) : Prop := c ≤ k ∧ k ≤ c + 3

theorem Dk.Ok.lay {d : Dk} (a : d.Ok) {n : Int} {b : List UInt8} {m : Nat} (room : ((d.area n).length : Int) + m ≤ d.cap) (hm : m = b.length) : (d.lay n b).Ok := by
  unfold Dk.lay Dk.area at *
  split
  · rename_i h0
    rw [if_pos h0] at room
    exact ⟨a.cap, a.us, a.fr, by simp; omega, a.a1, a.f0, a.f1⟩
  · rename_i h0
    rw [if_neg h0] at room
    exact ⟨a.cap, a.us, a.fr, a.a0, by simp; omega, a.f0, a.f1⟩

theorem Dk.Ok.emp {d : Dk} (a : d.Ok) (n : Int) : (d.emp n).Ok := by
  have := a.cap.1
  unfold Dk.emp
  split
  · exact ⟨a.cap, a.us, a.fr, by simp; omega, a.a1, a.f0, a.f1⟩
  · exact ⟨a.cap, a.us, a.fr, a.a0, by simp; omega, a.f0, a.f1⟩

theorem Dk.Ok.turn {d : Dk} (a : d.Ok) : d.turn.Ok := ⟨a.cap, by have := a.us; unfold Dk.turn; simp only; omega, a.fr, a.a0, a.a1, a.f0, a.f1⟩

section
variable {κ : Pos → Nat} {c : Nat} {h : Hp} {p : Pos} {d : Dk} {V : Vs} {ws : List (Wr × AV)}

theorem okSize_small' {n : Nat} (h : n ≤ 1048576) {b : Nat} (hb : b ≤ 4096) : okSize n b = true := okSize_small (by omega) hb

theorem lay_fn (a : DkAt κ c h p d V ws) {k n : Int} (hn : n = 0 ∨ n = 1) {dv : AV} {m : Nat} {b : List UInt8} (r : SlN h 1 dv m (byt b)) (room : ((d.area n).length : Int) + m ≤ d.cap) :
    ∃ κ' h' V', AmFn Try.prog 83 [.ptr p 0 0, .agg [int64 k, int64 n, dv]] h (.tup []) h' ∧ Agr h κ κ' ∧ Chg κ (Wk c) h h' ∧ DkAt κ' c h' p (d.lay n b) V' ws := by
  have hm : m = b.length := by have := r.length; rw [byt_length] at this; omega
  have o1 : Only [] h (newH h fun s => .cells s (Cells.ofL [int64 k, int64 n, dv]) 0 0 0 0 false false) := newH_only _ _ _
  have n1 : (newH h fun s => .cells s (Cells.ofL [int64 k, int64 n, dv]) 0 0 0 0 false false).next.num = h.next.num + 1 := newH_next _ _
  have b1 := newH_arr h [int64 k, int64 n, dv]
  have bx : ∀ env (x : Opd), ev env x = .agg [int64 k, int64 n, dv] → evalOp Try.prog (.box x) env h = .val (.ptr h.next 0 0) (newH h fun s => .cells s (Cells.ofL [int64 k, int64 n, dv]) 0 0 0 0 false false) := fun env x hx => by rw [qev_boxL, hx]; rfl
  generalize (newH h fun s => .cells s (Cells.ofL [int64 k, int64 n, dv]) 0 0 0 0 false false) = h1 at *
  have g1 := newK'_agr κ h (c + 4)
  have A1 := a.more o1 g1
  have c1 : KArr (newK' κ h (c + 4)) (c + 4) h1 h.next [int64 k, int64 n, dv] := b1.new (Nat.le_refl _) κ (c + 4)
  generalize newK' κ h (c + 4) = κ1 at *
  obtain ⟨env1, e1, s0, s3⟩ : ∃ env', runS Try.prog false lay_fu.body [] (setArgs .e 0 [.ptr p 0 0, .agg [int64 k, int64 n, dv]]) h = some (.upt [.code (.drawn lay_1)], [], env', h1) ∧ sv env' 0 = .ptr p 0 0 ∧ sv env' 3 = .ptr h.next 0 0 := by
    unfold lay_fu
    simp [lay_0, runS, runR, Rs.seq, Rs.block, sv_args, runOps, wanted_no, ev_tm, ev_vl, sv_setD, bx]
  rcases hn with hn | hn
  · subst hn
    have room' : (d.a0.length : Int) + m ≤ d.cap := room
    have hcap := a.ok.cap.2
    obtain ⟨v', h2, ap, hd, ch⟩ := A1.v0.push Try.prog (bytes := 1) (r.more o1) (byt_atom b) (by omega) (okSize_small' (by omega) (by omega))
    have g2 := newK'_agr κ1 h1 (c + 1)
    generalize newK' κ1 h1 (c + 1) = κ2 at *
    have st2 := A1.st.chg ch g2 (by omega)
    have c2 := c1.chg ch g2 (by omega)
    have at1 := hd.hd.sl.atom
    have pu := storeR_arr st2.arr (i := 2) (by simp [cellsD]) v' at1.1 at1.2
    obtain ⟨st3, ch3⟩ := st2.put (i := 2) (by simp [cellsD]) v'
    have la : ∀ i, i < 3 → read1 h1 h.next 0 i = [int64 k, int64 0, dv][i]? := fun i hi => by rw [c1.arr.one (by simpa using hi)]; simp [List.getElem?_eq_getElem, hi]
    have la1 : read1 h1 h.next 0 1 = some (int64 0) := la 1 (by omega)
    have la2 : read1 h1 h.next 0 2 = some dv := la 2 (by omega)
    have lb1 : read1 h2 h.next 0 1 = some (int64 0) := c2.arr.one (i := 1) (by simp)
    have l2 := A1.l2
    obtain ⟨env2, acts, lds, e2⟩ : ∃ env' acts lds, runD Try.prog noRec 0 lay_1 ⟨[], [], [], h1.next, env1, h1⟩ = some ⟨acts, lds, [], h1.next, env', putA h2 p 2 v'⟩ := by
      have hz : ∀ hh : Hp, (⟨hh.heap, hh.next, hh.ser, hh.lim⟩ : Hp) = hh := fun _ => rfl
      simp [lay_1, runD, stepD, actO, kindOf, lookBack, lookAgain, putT, remAl, insT, bit, eqAV_int8, wanted_no, ev_tm, ev_vl, sv_setD, setD_none, qev_mov, opt_some, qev_load1, qev_nilC, nilC_ptr, qev_fld, fldA_ptr, qev_idxArr, idxA2_ptr, qev_store1, s0, s3, la1, la2, lb1, l2, ap, pu, hz]
    have d2 := runDrawn_of (acts := acts) (lds := lds) (by simp [lay_1, skipIds, isAlloc, kindOf]) e2
    refine ⟨κ2, putA h2 p 2 v', { V with v0 := v' }, AmFn.dos0 lay_code (by simp) (o := .go) (fun _ => .inl rfl) (by simp) (Dos.run (M := []) [] (by simp) e1 (DosL.more (M := []) (M1 := []) (Dos.drawn (noRec_sound _) d2) .nil)), g1.trans g2 (by omega), ?_, ?_⟩
    · exact ((Chg.of o1).trans g1 (ch.mono (K' := Wk c) fun k q => ⟨by omega, by omega⟩)).trans (g1.trans g2 (by omega)) (ch3.mono fun k q => ⟨by omega, by omega⟩)
    · have hv1 := (A1.v1.chg ch g2 (by omega)).chg ch3 .refl (by omega)
      have hvw := (A1.vw.chg ch g2 (by omega)).chg ch3 .refl (by omega)
      refine ⟨?_, ?_, hv1, hvw, (A1.f0.chg ch g2 (by omega)).chg ch3 .refl (by omega), (A1.f1.chg ch g2 (by omega)).chg ch3 .refl (by omega), fun x hx => ((A1.dat x hx).chg ch g2 (by omega)).chg ch3 .refl (by omega), a.eq, a.ok.lay room hm⟩
      · exact st3
      · have := hd.chg ch3 .refl (by omega)
        rw [← byt_append, hm, ← List.length_append] at this
        exact this
  · subst hn
    have room' : (d.a1.length : Int) + m ≤ d.cap := room
    have hcap := a.ok.cap.2
    obtain ⟨v', h2, ap, hd, ch⟩ := A1.v1.push Try.prog (bytes := 1) (r.more o1) (byt_atom b) (by omega) (okSize_small' (by omega) (by omega))
    have g2 := newK'_agr κ1 h1 (c + 2)
    generalize newK' κ1 h1 (c + 2) = κ2 at *
    have st2 := A1.st.chg ch g2 (by omega)
    have c2 := c1.chg ch g2 (by omega)
    have at1 := hd.hd.sl.atom
    have pu := storeR_arr st2.arr (i := 3) (by simp [cellsD]) v' at1.1 at1.2
    obtain ⟨st3, ch3⟩ := st2.put (i := 3) (by simp [cellsD]) v'
    have la : ∀ i, i < 3 → read1 h1 h.next 0 i = [int64 k, int64 1, dv][i]? := fun i hi => by rw [c1.arr.one (by simpa using hi)]; simp [List.getElem?_eq_getElem, hi]
    have la1 : read1 h1 h.next 0 1 = some (int64 1) := la 1 (by omega)
    have la2 : read1 h1 h.next 0 2 = some dv := la 2 (by omega)
    have lb1 : read1 h2 h.next 0 1 = some (int64 1) := c2.arr.one (i := 1) (by simp)
    have l2 := A1.l3
    obtain ⟨env2, acts, lds, e2⟩ : ∃ env' acts lds, runD Try.prog noRec 0 lay_1 ⟨[], [], [], h1.next, env1, h1⟩ = some ⟨acts, lds, [], h1.next, env', putA h2 p 3 v'⟩ := by
      have hz : ∀ hh : Hp, (⟨hh.heap, hh.next, hh.ser, hh.lim⟩ : Hp) = hh := fun _ => rfl
      simp [lay_1, runD, stepD, actO, kindOf, lookBack, lookAgain, putT, remAl, insT, bit, eqAV_int8, wanted_no, ev_tm, ev_vl, sv_setD, setD_none, qev_mov, opt_some, qev_load1, qev_nilC, nilC_ptr, qev_fld, fldA_ptr, qev_idxArr, idxA2_ptr, qev_store1, s0, s3, la1, la2, lb1, l2, ap, pu, hz]
    have d2 := runDrawn_of (acts := acts) (lds := lds) (by simp [lay_1, skipIds, isAlloc, kindOf]) e2
    refine ⟨κ2, putA h2 p 3 v', { V with v1 := v' }, AmFn.dos0 lay_code (by simp) (o := .go) (fun _ => .inl rfl) (by simp) (Dos.run (M := []) [] (by simp) e1 (DosL.more (M := []) (M1 := []) (Dos.drawn (noRec_sound _) d2) .nil)), g1.trans g2 (by omega), ?_, ?_⟩
    · exact ((Chg.of o1).trans g1 (ch.mono (K' := Wk c) fun k q => ⟨by omega, by omega⟩)).trans (g1.trans g2 (by omega)) (ch3.mono fun k q => ⟨by omega, by omega⟩)
    · have hv1 := (A1.v0.chg ch g2 (by omega)).chg ch3 .refl (by omega)
      have hvw := (A1.vw.chg ch g2 (by omega)).chg ch3 .refl (by omega)
      refine ⟨?_, hv1, ?_, hvw, (A1.f0.chg ch g2 (by omega)).chg ch3 .refl (by omega), (A1.f1.chg ch g2 (by omega)).chg ch3 .refl (by omega), fun x hx => ((A1.dat x hx).chg ch g2 (by omega)).chg ch3 .refl (by omega), a.eq, a.ok.lay room hm⟩
      · exact st3
      · have := hd.chg ch3 .refl (by omega)
        rw [← byt_append, hm, ← List.length_append] at this
        exact this
end
end Go.Proofs.Ytmifpiglcphmoaa.DPlays

namespace Go.Proofs.Ytmifpiglcphmoaa.DPlays
open Go Go.Proofs.Ytmifpiglcphmoaa.Am Go.Proofs

section
variable {κ : Pos → Nat} {c : Nat} {h : Hp} {p : Pos} {d : Dk} {V : Vs} {ws : List (Wr × AV)}

/-- An argument that is a record, laid. -/
theorem boxed (κ : Pos → Nat) (c : Nat) (h : Hp) (l : List AV) : ∃ h1, (∀ env (x : Opd), ev env x = .agg l → evalOp Try.prog (.box x) env h = .val (.ptr h.next 0 0) h1) ∧ Only [] h h1 ∧ h1.next.num = h.next.num + 1 ∧ KArr (newK' κ h c) c h1 h.next l :=
  ⟨_, fun env x hx => by rw [qev_boxL, hx]; rfl, newH_only _ _ _, newH_next _ _, (newH_arr h l).new (Nat.le_refl _) κ c⟩

theorem emp_fn (a : DkAt κ c h p d V ws) {k n : Int} (hn : n = 0 ∨ n = 1) {dv : AV} :
    ∃ κ' h' V', AmFn Try.prog 84 [.ptr p 0 0, .agg [int64 k, int64 n, dv]] h (.tup []) h' ∧ Agr h κ κ' ∧ Chg κ (Wk c) h h' ∧ DkAt κ' c h' p (d.emp n) V' ws := by
  obtain ⟨h1, bx, o1, n1, c1⟩ := boxed κ (c + 4) h [int64 k, int64 n, dv]
  have g1 := newK'_agr κ h (c + 4)
  have A1 := a.more o1 g1
  generalize newK' κ h (c + 4) = κ1 at *
  obtain ⟨env1, e1, s0, s3⟩ : ∃ env', runS Try.prog false emp_fu.body [] (setArgs .e 0 [.ptr p 0 0, .agg [int64 k, int64 n, dv]]) h = some (.upt [.code (.drawn emp_1)], [], env', h1) ∧ sv env' 0 = .ptr p 0 0 ∧ sv env' 3 = .ptr h.next 0 0 := by
    unfold emp_fu
    simp [emp_0, runS, runR, Rs.seq, Rs.block, sv_args, runOps, wanted_no, ev_tm, ev_vl, sv_setD, bx]
  have la1 : read1 h1 h.next 0 1 = some (int64 n) := c1.arr.one (i := 1) (by simp)
  have hz : ∀ hh : Hp, (⟨hh.heap, hh.next, hh.ser, hh.lim⟩ : Hp) = hh := fun _ => rfl
  rcases hn with hn | hn
  · subst hn
    have pu := storeR_arr A1.st.arr (i := 2) (by simp [cellsD]) .nilSl rfl rfl
    obtain ⟨st3, ch3⟩ := A1.st.put (i := 2) (by simp [cellsD]) .nilSl
    have lb1 : read1 (putA h1 p 2 .nilSl) h.next 0 1 = some (int64 0) := (c1.chg ch3 .refl (by omega)).arr.one (i := 1) (by simp)
    obtain ⟨env2, acts, lds, e2⟩ : ∃ env' acts lds, runD Try.prog noRec 0 emp_1 ⟨[], [], [], h1.next, env1, h1⟩ = some ⟨acts, lds, [], h1.next, env', putA h1 p 2 .nilSl⟩ := by
      simp [emp_1, runD, stepD, actO, kindOf, lookBack, lookAgain, putT, remAl, insT, bit, eqAV_int8, wanted_no, ev_tm, ev_vl, sv_setD, setD_none, qev_mov, opt_some, qev_load1, qev_nilC, nilC_ptr, qev_fld, fldA_ptr, qev_idxArr, idxA2_ptr, qev_store1, s0, s3, la1, lb1, pu, hz]
    have d2 := runDrawn_of (acts := acts) (lds := lds) (by simp [emp_1, skipIds, isAlloc, kindOf]) e2
    refine ⟨κ1, _, { V with v0 := .nilSl }, AmFn.dos0 emp_code (by simp) (o := .go) (fun _ => .inl rfl) (by simp) (Dos.run (M := []) [] (by simp) e1 (DosL.more (M := []) (M1 := []) (Dos.drawn (noRec_sound _) d2) .nil)), g1, (Chg.of o1).trans g1 (ch3.mono fun k q => ⟨by omega, by omega⟩), ?_⟩
    exact ⟨st3, .nil, A1.v1.chg ch3 .refl (by omega), A1.vw.chg ch3 .refl (by omega), A1.f0.chg ch3 .refl (by omega), A1.f1.chg ch3 .refl (by omega), fun x hx => (A1.dat x hx).chg ch3 .refl (by omega), a.eq, a.ok.emp 0⟩
  · subst hn
    have pu := storeR_arr A1.st.arr (i := 3) (by simp [cellsD]) .nilSl rfl rfl
    obtain ⟨st3, ch3⟩ := A1.st.put (i := 3) (by simp [cellsD]) .nilSl
    have lb1 : read1 (putA h1 p 3 .nilSl) h.next 0 1 = some (int64 1) := (c1.chg ch3 .refl (by omega)).arr.one (i := 1) (by simp)
    obtain ⟨env2, acts, lds, e2⟩ : ∃ env' acts lds, runD Try.prog noRec 0 emp_1 ⟨[], [], [], h1.next, env1, h1⟩ = some ⟨acts, lds, [], h1.next, env', putA h1 p 3 .nilSl⟩ := by
      simp [emp_1, runD, stepD, actO, kindOf, lookBack, lookAgain, putT, remAl, insT, bit, eqAV_int8, wanted_no, ev_tm, ev_vl, sv_setD, setD_none, qev_mov, opt_some, qev_load1, qev_nilC, nilC_ptr, qev_fld, fldA_ptr, qev_idxArr, idxA2_ptr, qev_store1, s0, s3, la1, lb1, pu, hz]
    have d2 := runDrawn_of (acts := acts) (lds := lds) (by simp [emp_1, skipIds, isAlloc, kindOf]) e2
    refine ⟨κ1, _, { V with v1 := .nilSl }, AmFn.dos0 emp_code (by simp) (o := .go) (fun _ => .inl rfl) (by simp) (Dos.run (M := []) [] (by simp) e1 (DosL.more (M := []) (M1 := []) (Dos.drawn (noRec_sound _) d2) .nil)), g1, (Chg.of o1).trans g1 (ch3.mono fun k q => ⟨by omega, by omega⟩), ?_⟩
    exact ⟨st3, A1.v0.chg ch3 .refl (by omega), .nil, A1.vw.chg ch3 .refl (by omega), A1.f0.chg ch3 .refl (by omega), A1.f1.chg ch3 .refl (by omega), fun x hx => (A1.dat x hx).chg ch3 .refl (by omega), a.eq, a.ok.emp 1⟩

theorem turn_fn (a : DkAt κ c h p d V ws) {l : List AV} :
    ∃ κ' h' V', AmFn Try.prog 85 [.ptr p 0 0, .agg l] h (.tup []) h' ∧ Agr h κ κ' ∧ Chg κ (Wk c) h h' ∧ DkAt κ' c h' p d.turn V' ws := by
  obtain ⟨h1, bx, o1, n1, c1⟩ := boxed κ (c + 4) h l
  have g1 := newK'_agr κ h (c + 4)
  have A1 := a.more o1 g1
  generalize newK' κ h (c + 4) = κ1 at *
  have l1 := A1.l1
  have us := a.ok.us
  have w1 : wrapA .i64 (1 - d.used) = 1 - d.used := wrap64 (by omega) (by omega)
  have pu := storeR_arr A1.st.arr (i := 1) (by simp [cellsD]) (int64 (1 - d.used)) rfl rfl
  obtain ⟨st3, ch3⟩ := A1.st.put (i := 1) (by simp [cellsD]) (int64 (1 - d.used))
  obtain ⟨env1, e1⟩ : ∃ env', runS Try.prog true turn_fu.body [] (setArgs .e 0 [.ptr p 0 0, .agg l]) h = some (.upt [], [], env', putA h1 p 1 (int64 (1 - d.used))) := by
    unfold turn_fu
    simp [turn_0, turn_1, runS, runR, Rs.seq, Rs.block, sv_args, runOps, wanted_no, ev_tm, ev_vl, sv_setD, setD_none, qev_mov, qev_bin, bin_sub, opt_some, qev_load1, qev_nilC, nilC_ptr, qev_fld, fldA_ptr, qev_store1, bx, l1, w1, pu]
  refine ⟨κ1, _, V, AmFn.dos0 turn_code (by simp) (o := .go) (fun _ => .inl rfl) (by simp) (Dos.runGo [] (by simp) e1), g1, (Chg.of o1).trans g1 (ch3.mono fun k q => ⟨by omega, by omega⟩), ?_⟩
  exact ⟨st3, A1.v0.chg ch3 .refl (by omega), A1.v1.chg ch3 .refl (by omega), A1.vw.chg ch3 .refl (by omega), A1.f0.chg ch3 .refl (by omega), A1.f1.chg ch3 .refl (by omega), fun x hx => (A1.dat x hx).chg ch3 .refl (by omega), a.eq, a.ok.turn⟩
end
end Go.Proofs.Ytmifpiglcphmoaa.DPlays

namespace Go.Proofs.Ytmifpiglcphmoaa.DPlays
open Go Go.Proofs.Ytmifpiglcphmoaa.Am Go.Proofs

/-- What a raw write makes of a disk, but for the list of them. -/
def Dk.does (d : Dk) (w : Wr) : Dk := if w.kind = 1 then d.lay w.area w.data else if w.kind = 2 then d.emp w.area else d.turn

def Dk.put (d : Dk) (w : Wr) : Dk := { d.does w with ws := d.ws ++ [w] }

/-- A raw write that may be. -/
structure Wr.Ok (w : Wr) (d : Dk) : Prop where
  kind : w.kind = 1 ∨ w.kind = 2 ∨ w.kind = 3
  area : w.area = 0 ∨ w.area = 1
  room : w.kind = 1 → ((d.area w.area).length : Int) + w.data.length ≤ d.cap
  size : w.data.length ≤ 1048576
  norm : (w.kind = 2 → w.data = []) ∧ (w.kind = 3 → w.area = 0 ∧ w.data = [])

theorem lay_ws (d : Dk) (n : Int) (b : List UInt8) : (d.lay n b).ws = d.ws := by unfold Dk.lay; split <;> rfl
theorem emp_ws (d : Dk) (n : Int) : (d.emp n).ws = d.ws := by unfold Dk.emp; split <;> rfl
theorem does_ws (d : Dk) (w : Wr) : (d.does w).ws = d.ws := by
  unfold Dk.does
  split
  · exact lay_ws _ _ _
  · split
    · exact emp_ws _ _
    · rfl

section
variable {κ : Pos → Nat} {c : Nat} {h : Hp} {p : Pos} {d : Dk} {V : Vs} {ws : List (Wr × AV)}

/-- The three ways of a raw write. -/
theorem ways_fn (a : DkAt κ c h p d V ws) {w : Wr} (hw : w.Ok d) {dv : AV} {m : Nat} (r : SlN h 1 dv m (byt w.data)) :
    ∃ f, (f = 83 ∧ w.kind = 1 ∨ f = 84 ∧ w.kind = 2 ∨ f = 85 ∧ w.kind = 3) ∧ ∃ κ' h' V', AmFn Try.prog f [.ptr p 0 0, .agg [int64 w.kind, int64 w.area, dv]] h (.tup []) h' ∧ Agr h κ κ' ∧ Chg κ (Wk c) h h' ∧ DkAt κ' c h' p (d.does w) V' ws := by
  have hm : m = w.data.length := by have := r.length; rw [byt_length] at this; omega
  unfold Dk.does
  rcases hw.kind with k | k | k
  · rw [if_pos k]
    have := hw.room k
    exact ⟨83, .inl ⟨rfl, k⟩, lay_fn a hw.area r (by omega)⟩
  · rw [if_neg (by omega), if_pos k]
    exact ⟨84, .inr (.inl ⟨rfl, k⟩), emp_fn a hw.area⟩
  · rw [if_neg (by omega), if_neg (by omega)]
    exact ⟨85, .inr (.inr ⟨rfl, k⟩), turn_fn a⟩

/-- The raw write is put behind those that were. -/
theorem do_list (a : DkAt κ c h p d V ws) {w : Wr} {dv : AV} {m : Nat} (r : KSl κ (c + 4) h 1 dv m (byt w.data)) {q : Pos} (b : KArr κ (c + 4) h q [int64 w.kind, int64 w.area, dv]) (hl : d.ws.length ≤ 100000) {env : T AV} (s0 : sv env 0 = .ptr p 0 0) (s3 : sv env 3 = .ptr q 0 0) :
    ∃ κ' env' h' V', Dos Try.prog 65 (.drawn do_3) env h .go [] env' h' ∧ Agr h κ κ' ∧ Chg κ (Wk c) h h' ∧ DkAt κ' c h' p { d with ws := d.ws ++ [w] } V' (ws ++ [(w, dv)]) := by
  have hm : m = w.data.length := by have := r.sl.length; rw [byt_length] at this; omega
  have ld : ∀ hh : Hp, hh.heap = h.heap → ∀ env x, ev env x = .ptr q 0 0 → evalOp Try.prog (.loadN 3 x) env hh = .val (.agg [int64 w.kind, int64 w.area, dv]) hh := fun hh e env x hx => by
    have l := b.arr.whole Try.prog (n := 3) rfl env x hx
    obtain ⟨cc, c1, _, c3⟩ := b.arr.row.all
    have c1' : readN hh q 0 0 3 = some cc := by
      have : readN hh q 0 0 3 = readN h q 0 0 3 := by unfold readN; rw [e]
      rw [this]; exact c1
    rw [qev_loadN Try.prog hx c1', c3]
  have l7 := a.l7
  have rd : ∀ hh : Hp, hh.heap = h.heap → read1 hh p 0 7 = some V.vw := fun hh e => by
    rw [← l7]; unfold read1; rw [e]
  have bld : ∀ env ser lim x, ev env x = .agg [int64 w.kind, int64 w.area, dv] → evalOp Try.prog (.buildSl 1 3 [(int64 (0)), (int64 (0)), .nilSl] [(0, 3, x)]) env ⟨.e, h.next, ser, lim⟩ = .val (.sl h.next 0 0 1 1 true 3) ⟨T.set h.next (some (.cells ser (Cells.ofL [int64 w.kind, int64 w.area, dv]) 0 0 0 0 false false)) .e, h.next.succ, Nat.succ ser, lim⟩ :=
    fun env ser lim x hx => oneSl_resv Try.prog (es := 3) (by omega) rfl rfl (by rw [hx]; rfl)
  have oA := resvH_only h (.cells h.ser (Cells.ofL [int64 w.kind, int64 w.area, dv]) 0 0 0 0 false false)
  have nA := resvH_next h (.cells h.ser (Cells.ofL [int64 w.kind, int64 w.area, dv]) 0 0 0 0 false false)
  have rA := resvH_arr h h.ser [int64 w.kind, int64 w.area, dv]
  have eA : (⟨T.set h.next (some (.cells h.ser (Cells.ofL [int64 w.kind, int64 w.area, dv]) 0 0 0 0 false false)) h.heap, h.next.succ, h.ser, h.lim⟩ : Hp) = resvH h (.cells h.ser (Cells.ofL [int64 w.kind, int64 w.area, dv]) 0 0 0 0 false false) := rfl
  generalize resvH h (.cells h.ser (Cells.ofL [int64 w.kind, int64 w.area, dv]) 0 0 0 0 false false) = hA at *
  have gA := newK'_agr κ h (c + 4)
  have A1 := a.more oA gA
  have r1 := r.chg (K := fun _ => False) (.of oA) gA (fun q => q)
  have b1 := b.chg (K := fun _ => False) (.of oA) gA (fun q => q)
  generalize newK' κ h (c + 4) = κ1 at *
  have hat : ∀ y ∈ [int64 w.kind, int64 w.area, dv], y.atom = true := fun y hy => by
    simp only [List.mem_cons, List.not_mem_nil, or_false] at hy
    rcases hy with e | e | e <;> subst e
    · rfl
    · rfl
    · exact r.sl.atom.1
  obtain ⟨v', h2, ap, hd, ch⟩ := A1.vw.push Try.prog (bytes := 40) (n2 := 1) (v2 := .sl h.next 0 0 1 1 true 3) (rA.slN rfl) hat (by omega) (okSize_small (by omega) (by omega))
  have g2 := newK'_agr κ1 hA (c + 3)
  generalize newK' κ1 hA (c + 3) = κ2 at *
  have st2 := A1.st.chg ch g2 (by omega)
  have b2 := b1.chg ch g2 (by omega)
  have at1 := hd.hd.sl.atom
  have pu := storeR_arr st2.arr (i := 7) (by simp [cellsD]) v' at1.1 at1.2
  obtain ⟨st3, ch3⟩ := st2.put (i := 7) (by simp [cellsD]) v'
  have b3 := b2.chg ch3 .refl (by omega)
  have ld2 := b2.arr.whole Try.prog (n := 3) rfl
  have ld3 := b3.arr.whole Try.prog (n := 3) rfl
  have hz : ∀ hh : Hp, (⟨hh.heap, hh.next, hh.ser, hh.lim⟩ : Hp) = hh := fun _ => rfl
  obtain ⟨env', acts, lds, e3⟩ : ∃ env' acts lds, runE Try.prog noRec 0 do_3 ⟨[], [], [], h.next, env, ⟨h.heap, h.next.succ, h.ser, h.lim⟩⟩ = some ⟨acts, lds, [], h.next.succ, env', putA h2 p 7 v'⟩ := by
    simp [do_3, runE, stepE, stepD, kindOf, lookBack, lookAgain, actO, insT, putT, remAl, bit, wanted_no, ev_tm, ev_vl, sv_setD, setD_none, qev_mov, opt_some, qev_nilC, nilC_ptr, qev_fld, fldA_ptr, qev_load1, qev_store1, T.get_set, s0, s3, rd, ld, bld, eA, ap, pu, hz, show Nat.testBit 126 6 = true from by decide, show Nat.testBit 126 5 = true from by decide, show Nat.testBit 126 4 = true from by decide]
  have e : runDrawn Try.prog noRec do_3 env h = some (env', putA h2 p 7 v') := by
    refine runDrawn_ofE (rid := h.next.succ) (acts := acts) (lds := lds) ?_
    have hsk : skipIds do_3 h.next = h.next.succ := by simp [do_3, skipIds, isAlloc, kindOf]
    rw [hsk]
    exact e3
  have c1 : Chg κ (Wk c) h hA := .of oA
  refine ⟨κ2, env', _, { V with vw := v' }, Dos.drawn (noRec_sound _) e, gA.trans g2 (by omega), (c1.trans gA (ch.mono fun k q => ⟨by omega, by omega⟩)).trans (gA.trans g2 (by omega)) (ch3.mono fun k q => ⟨by omega, by omega⟩), ?_⟩
  refine ⟨st3, (A1.v0.chg ch g2 (by omega)).chg ch3 .refl (by omega), (A1.v1.chg ch g2 (by omega)).chg ch3 .refl (by omega), ?_, (A1.f0.chg ch g2 (by omega)).chg ch3 .refl (by omega), (A1.f1.chg ch g2 (by omega)).chg ch3 .refl (by omega), fun x hx => ?_, ?_, ⟨a.ok.cap, a.ok.us, a.ok.fr, a.ok.a0, a.ok.a1, a.ok.f0, a.ok.f1⟩⟩
  · have q := hd.chg ch3 .refl (by omega)
    have e1 : recs (ws ++ [(w, dv)]) = recs ws ++ [int64 w.kind, int64 w.area, dv] := by rw [recs_append]; rfl
    rw [e1]
    have e2 : (d.ws ++ [w]).length = d.ws.length + 1 := by simp
    rw [e2]
    exact q
  · rcases List.mem_append.1 hx with hx | hx
    · exact ((A1.dat x hx).chg ch g2 (by omega)).chg ch3 .refl (by omega)
    · simp only [List.mem_singleton] at hx
      subst hx
      have q := (r1.chg ch g2 (by omega)).chg ch3 .refl (by omega)
      rw [hm] at q
      exact q
  · rw [List.map_append, a.eq]; rfl

theorem do_fn (a : DkAt κ c h p d V ws) {w : Wr} (hw : w.Ok d) {dv : AV} {m : Nat} (r : KSl κ (c + 4) h 1 dv m (byt w.data)) (hl : d.ws.length ≤ 100000) :
    ∃ κ' h' V', AmFn Try.prog 65 [.ptr p 0 0, .agg [int64 w.kind, int64 w.area, dv]] h (int64 0) h' ∧ Agr h κ κ' ∧ Chg κ (Wk c) h h' ∧ DkAt κ' c h' p (d.put w) V' (ws ++ [(w, dv)]) := by
  obtain ⟨h1, bx, o1, n1, c1⟩ := boxed κ (c + 4) h [int64 w.kind, int64 w.area, dv]
  have o2 : Only [] h1 (newH h1 fun s => .cells s (Cells.ofL [.nilFn, .nilFn, .nilFn, .nilFn]) 0 0 0 0 false false) := newH_only _ _ _
  have n2 : (newH h1 fun s => .cells s (Cells.ofL [.nilFn, .nilFn, .nilFn, .nilFn]) 0 0 0 0 false false).next.num = h1.next.num + 1 := newH_next _ _
  have b2 := newH_arr h1 [.nilFn, .nilFn, .nilFn, .nilFn]
  have nw := qev_newL Try.prog
  obtain ⟨h3, st, b3, o3, n3⟩ := storeN_arr Try.prog b2 (xs := [.nilFn, .fn (.func 83) [] [], .fn (.func 84) [] [], .fn (.func 85) [] []]) rfl (by simp) (by simp [AV.atom])
  simp only [List.length_cons, List.length_nil] at st
  obtain ⟨env1, e1, s0, s3, s5⟩ : ∃ env', runS Try.prog false do_fu.body [] (setArgs .e 0 [.ptr p 0 0, .agg [int64 w.kind, int64 w.area, dv]]) h = some (.upt [.code (.drawn do_2), .code (.seq (.drawn do_3) (.seq (.region do_4) .ret))], [], env', h3) ∧ sv env' 0 = .ptr p 0 0 ∧ sv env' 3 = .ptr h.next 0 0 ∧ sv env' 5 = .ptr h1.next 0 0 := by
    unfold do_fu
    simp [do_0, do_1, runS, runR, Rs.seq, Rs.block, sv_args, runOps, wanted_no, ev_tm, ev_vl, sv_setD, setD_none, qev_mov, qev_build, fillA, AV.cells, bx, nw, st, show Nat.ble 1 4 = true from rfl, show Nat.ble 2 4 = true from rfl, show Nat.ble 3 4 = true from rfl, show Nat.ble 4 4 = true from rfl]
  have oB : Only [] h1 h3 := ((o2.mono (S' := [h1.next]) (by simp)).trans o3).mono fun id hid => .inr (by simp only [List.mem_singleton] at hid; subst hid; exact Nat.le_refl _)
  have g1 := newK'_agr κ h (c + 4)
  have oC := o1.trans oB
  have A3 := a.more oC g1
  have r3 := r.chg (K := fun _ => False) (.of oC) g1 (fun q => q)
  have c3 := c1.chg (K := fun _ => False) (.of oB) .refl (fun q => q)
  generalize newK' κ h (c + 4) = κ1 at *
  obtain ⟨f, hf, κ4, h4, V4, k4, g4, ch4, A4⟩ := ways_fn A3 hw r3.sl
  have hsound := recG_sound (P := Try.prog) (A := [⟨f, [.ptr p 0 0, .agg [int64 w.kind, int64 w.area, dv]], h3, .tup [], h4⟩]) (by
    intro k hk
    simp only [List.mem_cons, List.not_mem_nil, or_false] at hk
    subst hk
    exact k4)
  have R1 := recG_hit (P := Try.prog) f [.ptr p 0 0, .agg [int64 w.kind, int64 w.area, dv]] h3 (.tup []) h4 []
  have bg := k4.begins.1
  generalize recG Try.prog [⟨f, [.ptr p 0 0, .agg [int64 w.kind, int64 w.area, dv]], h3, .tup [], h4⟩] = R at *
  have hok : okCall Try.prog f = true := by
    rcases hf with ⟨e, _⟩ | ⟨e, _⟩ | ⟨e, _⟩ <;> subst e
    · exact ok83
    · exact ok84
    · exact ok85
  have ld3 := c3.arr.whole Try.prog (n := 3) rfl
  have lk : read1 h3 h.next 0 0 = some (int64 w.kind) := c3.arr.one (i := 0) (by simp)
  have lf : read1 h3 h1.next 0 w.kind.toNat = some (.fn (.func f) [] []) := by
    rcases hf with ⟨e, k⟩ | ⟨e, k⟩ | ⟨e, k⟩ <;> subst e <;> rw [k]
    · exact b3.one (i := 1) (by simp)
    · exact b3.one (i := 2) (by simp)
    · exact b3.one (i := 3) (by simp)
  have hk4 : 0 ≤ w.kind ∧ w.kind < 4 := by have := hw.kind; omega
  have hz : ∀ hh : Hp, (⟨hh.heap, hh.next, hh.ser, hh.lim⟩ : Hp) = hh := fun _ => rfl
  obtain ⟨env2, acts, lds, e2, q0, q3⟩ : ∃ env' acts lds, runD Try.prog R 0 do_2 ⟨[], [], [], h3.next, env1, h3⟩ = some ⟨acts, lds, [], h3.next, env', h4⟩ ∧ sv env' 0 = .ptr p 0 0 ∧ sv env' 3 = .ptr h.next 0 0 := by
    simp [do_2, runD, stepD, actO, kindOf, lookBack, lookAgain, putT, remAl, insT, bit, wanted_no, ev_tm, ev_vl, sv_setD, setD_none, qev_mov, opt_some, qev_load1, qev_fld, fldA_ptr, qev_idxArr, idxA2_ptr, qev_callv, callA_ok hok, s0, s3, s5, lk, lf, hk4, ld3, bg, R1, hz]
  have d2 := runDrawn_of (acts := acts) (lds := lds) (by simp [do_2, skipIds, isAlloc, kindOf]) e2
  have ch4' : ∀ k, c + 4 ≤ k → k ≤ c + 4 → ¬ Wk c k := fun k q1 q2 q => by unfold Wk at q; omega
  obtain ⟨κ5, env3, h5, V5, d3, g5, ch5, A5⟩ := do_list A4 (w := w) (r3.chg ch4 g4 (ch4' _ (by omega) (by omega))) (c3.chg ch4 g4 (ch4' _ (by omega) (by omega))) (by rw [does_ws]; exact hl) q0 q3
  obtain ⟨env4, e4, f4⟩ : ∃ env', runS Try.prog true (.seq (.region do_4) .ret) [] env3 h5 = some (.ret, [], env', h5) ∧ sv env' 4 = int64 0 := by
    simp [do_4, runS, runR, Rs.seq, Rs.block, runOps, wanted_no, wanted_sv, ev_tm, ev_vl, sv_setD, sv_set, setD_none, qev_mov, qev_bin, qev_un, qev_lenI, qev_pick, qev_load1, qev_idxSl, idx2_sl, idxA2_ptr, opt_some, bin_add, bin_sub, bin_mul, bin_lss, bin_leq, bin_gtr, bin_geq, bin_eql, bin_neq, un_not, un_neg, qev_callv, qev_new1, qev_store1, qev_nilC, nilC_ptr, qev_fld, fldA_ptr, qev_extract, nth0, nth1, nth2, qev_eqPtr, sameP_nil, notIf]
  have gE : Agr h κ κ4 := g1.trans g4 oC.next
  refine ⟨κ5, h5, V5, AmFn.dos do_code (by simp) (Dos.run (M := []) [] (by simp) e1 (DosL.more (M := []) (M1 := []) (Dos.drawn hsound d2) (DosL.ret (Dos.seq (M := []) (M1 := []) d3 (Dos.runRet [] (by simp) e4))))) (vs := [sv env4 4]) rfl f4, gE.trans g5 (by have := oC.next; have := ch4.next; omega), ?_, ?_⟩
  · exact ((Chg.of oC).trans g1 ch4).trans gE ch5
  · have e : d.put w = { d.does w with ws := (d.does w).ws ++ [w] } := by unfold Dk.put; rw [does_ws]
    rw [e]
    exact A5
end
end Go.Proofs.Ytmifpiglcphmoaa.DPlays
