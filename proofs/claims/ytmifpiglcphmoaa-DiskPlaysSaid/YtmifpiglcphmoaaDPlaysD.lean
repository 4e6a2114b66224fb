import Derived.Test.YtmifpiglcphmoaaDPlaysC
/- THE WALK'S PARTS, part D: what the functions of the law compute, over the abstract machine that stands beside this text. No condition. -/
set_option linter.unusedSimpArgs false
set_option linter.unusedVariables false
namespace Go.Proofs.Ytmifpiglcphmoaa.DPlays
open Go Go.Proofs.Ytmifpiglcphmoaa.Am Go.Proofs

/-! (some estuary/estuarylaw03.lent) -/

noncomputable def lent_0 : List O := [
    ⟨(some (Pos.ofNat 2)), none, .mov (vl .nilSl), true, 0⟩]

noncomputable def lent_1 : List O := [
    ⟨(some (Pos.ofNat 4)), none, .mov (tm 0), true, 0⟩,
    ⟨(some (Pos.ofNat 5)), none, .append 1 1 (vl .nilSl) (tm 4), true, 0⟩,
    ⟨(some (Pos.ofNat 6)), none, .buildSl 1 1 [(.int .u8 (0))] [(0, 1, (vl (.int .u8 (165))))], true, 0⟩,
    ⟨(some (Pos.ofNat 7)), none, .append 1 1 (tm 5) (tm 6), true, 0⟩,
    ⟨(some (Pos.ofNat 3)), none, .mov (tm 7), true, 0⟩]

noncomputable def lent_2 : List O := [
    ⟨(some (Pos.ofNat 8)), none, .mov (tm 3), true, 0⟩,
    ⟨(some (Pos.ofNat 9)), none, .mov (tm 0), true, 0⟩,
    ⟨(some (Pos.ofNat 10)), none, .lenL (tm 9), true, 0⟩,
    ⟨(some (Pos.ofNat 11)), none, .sliceSl 1 (tm 8) none (some (tm 10)) none, true, 0⟩,
    ⟨(some (Pos.ofNat 2)), none, .mov (tm 11), true, 0⟩]

noncomputable def lent_fu : Fu := ⟨[.tmp (Pos.ofNat 2)], 12, (.seq (.region lent_0) (.seq (.region lent_1) (.seq (.region lent_2) .ret)))⟩

theorem lent_code : compFn Try.prog 43 = some lent_fu := by kernel_rfl

/-! (some estuary/estuaryref03.Of) -/

noncomputable def rof_0 : List O := [
    ⟨(some (Pos.ofNat 8)), none, .mov (vl .nilPtr), true, 0⟩,
    ⟨(some (Pos.ofNat 9)), none, .mov (vl (int64 (0))), true, 0⟩]

noncomputable def rof_1 : List O := [
    ⟨(some (Pos.ofNat 10)), none, .mov (tm 0), true, 0⟩,
    ⟨(some (Pos.ofNat 11)), none, .bin .lss .other true (tm 10) (vl (int64 (1))), true, 0⟩,
    ⟨(some (Pos.ofNat 12)), none, .mov (tm 11), true, 0⟩,
    ⟨(some (Pos.ofNat 13)), (some ((Pos.ofNat 12), false)), .mov (tm 0), true, 0⟩,
    ⟨(some (Pos.ofNat 14)), (some ((Pos.ofNat 12), false)), .bin .gtr .other true (tm 13) (vl (int64 (1048576))), true, 0⟩,
    ⟨(some (Pos.ofNat 15)), none, .pick (tm 12) (vl (.bool true)) (tm 14), true, 0⟩,
    ⟨(some (Pos.ofNat 16)), none, .mov (tm 15), true, 0⟩,
    ⟨(some (Pos.ofNat 17)), (some ((Pos.ofNat 16), false)), .mov (tm 1), true, 0⟩,
    ⟨(some (Pos.ofNat 18)), (some ((Pos.ofNat 16), false)), .bin .lss .other true (tm 17) (vl (int64 (0))), true, 0⟩,
    ⟨(some (Pos.ofNat 19)), none, .pick (tm 16) (vl (.bool true)) (tm 18), true, 0⟩,
    ⟨(some (Pos.ofNat 20)), none, .mov (tm 19), true, 0⟩,
    ⟨(some (Pos.ofNat 21)), (some ((Pos.ofNat 20), false)), .mov (tm 1), true, 0⟩,
    ⟨(some (Pos.ofNat 22)), (some ((Pos.ofNat 20), false)), .bin .gtr .other true (tm 21) (vl (int64 (1))), true, 0⟩,
    ⟨(some (Pos.ofNat 23)), none, .pick (tm 20) (vl (.bool true)) (tm 22), true, 0⟩]

noncomputable def rof_2 : List O := [
    ⟨(some (Pos.ofNat 8)), none, .mov (vl .nilPtr), true, 0⟩,
    ⟨(some (Pos.ofNat 9)), none, .mov (vl (int64 (2))), true, 0⟩]

noncomputable def rof_3 : List O := [
    ⟨(some (Pos.ofNat 24)), none, .mov (tm 2), true, 0⟩,
    ⟨(some (Pos.ofNat 25)), none, .lenL (tm 24), true, 0⟩,
    ⟨(some (Pos.ofNat 26)), none, .mov (tm 0), true, 0⟩,
    ⟨(some (Pos.ofNat 27)), none, .bin .gtr .other false (tm 25) (tm 26), true, 0⟩,
    ⟨(some (Pos.ofNat 28)), none, .mov (tm 27), true, 0⟩,
    ⟨(some (Pos.ofNat 29)), (some ((Pos.ofNat 28), false)), .mov (tm 3), true, 0⟩,
    ⟨(some (Pos.ofNat 30)), (some ((Pos.ofNat 28), false)), .lenL (tm 29), true, 0⟩,
    ⟨(some (Pos.ofNat 31)), (some ((Pos.ofNat 28), false)), .mov (tm 0), true, 0⟩,
    ⟨(some (Pos.ofNat 32)), (some ((Pos.ofNat 28), false)), .bin .gtr .other false (tm 30) (tm 31), true, 0⟩,
    ⟨(some (Pos.ofNat 33)), none, .pick (tm 28) (vl (.bool true)) (tm 32), true, 0⟩]

noncomputable def rof_4 : List O := [
    ⟨(some (Pos.ofNat 8)), none, .mov (vl .nilPtr), true, 0⟩,
    ⟨(some (Pos.ofNat 9)), none, .mov (vl (int64 (8))), true, 0⟩]

noncomputable def rof_5 : List O := [
    ⟨(some (Pos.ofNat 34)), none, .mov (tm 0), true, 0⟩,
    ⟨(some (Pos.ofNat 35)), none, .mov (tm 1), true, 0⟩,
    ⟨(some (Pos.ofNat 36)), none, .mov (tm 1), true, 0⟩,
    ⟨(some (Pos.ofNat 37)), none, .mov (tm 2), true, 0⟩,
    ⟨(some (Pos.ofNat 38)), none, .call (.value (vl (.fn (.func 70) [] []))) [(tm 37)], true, 0⟩,
    ⟨(some (Pos.ofNat 39)), none, .mov (tm 3), true, 0⟩,
    ⟨(some (Pos.ofNat 40)), none, .call (.value (vl (.fn (.func 70) [] []))) [(tm 39)], true, 0⟩,
    ⟨(some (Pos.ofNat 41)), none, .build [.nilSl, .nilSl] [(0, 1, (tm 38)), (1, 1, (tm 40))], true, 0⟩,
    ⟨(some (Pos.ofNat 42)), none, .mov (tm 2), true, 0⟩,
    ⟨(some (Pos.ofNat 43)), none, .call (.value (vl (.fn (.func 70) [] []))) [(tm 42)], true, 0⟩,
    ⟨(some (Pos.ofNat 44)), none, .mov (tm 3), true, 0⟩,
    ⟨(some (Pos.ofNat 45)), none, .call (.value (vl (.fn (.func 70) [] []))) [(tm 44)], true, 0⟩,
    ⟨(some (Pos.ofNat 46)), none, .build [.nilSl, .nilSl] [(0, 1, (tm 43)), (1, 1, (tm 45))], true, 0⟩,
    ⟨(some (Pos.ofNat 47)), none, .build [(int64 (0)), (int64 (0)), (int64 (0)), .nilSl, .nilSl, .nilSl, .nilSl, .nilSl] [(0, 1, (tm 34)), (1, 1, (tm 35)), (2, 1, (tm 36)), (3, 2, (tm 41)), (5, 2, (tm 46))], true, 0⟩,
    ⟨(some (Pos.ofNat 48)), none, .box (tm 47), true, 0⟩,
    ⟨(some (Pos.ofNat 8)), none, .mov (tm 48), true, 0⟩,
    ⟨(some (Pos.ofNat 9)), none, .mov (vl (int64 (0))), true, 0⟩]

noncomputable def rof_fu : Fu := ⟨[.tmp (Pos.ofNat 8), .tmp (Pos.ofNat 9)], 49, (.seq (.region rof_0) (.seq (.seq (.region rof_1) (.cond (tm 23) (.seq (.region rof_2) .ret) .skip)) (.seq (.seq (.region rof_3) (.cond (tm 33) (.seq (.region rof_4) .ret) .skip)) (.seq (.region rof_5) .ret))))⟩

theorem rof_code : compFn Try.prog 44 = some rof_fu := by kernel_rfl

/-! (some estuary/estuarylaw03.left) -/

noncomputable def left_0 : List O := [
    ⟨(some (Pos.ofNat 4)), none, .mov (vl (.bool false)), true, 0⟩]

noncomputable def left_1 : List O := [
    ⟨(some (Pos.ofNat 7)), none, .mov (tm 1), true, 0⟩,
    ⟨(some (Pos.ofNat 8)), none, .lenL (tm 7), true, 0⟩,
    ⟨(some (Pos.ofNat 5)), none, .mov (tm 8), true, 0⟩]

noncomputable def left_2 : List O := [
    ⟨(some (Pos.ofNat 9)), none, .mov (tm 0), true, 0⟩,
    ⟨(some (Pos.ofNat 10)), none, .bytesStr (tm 9), true, 0⟩,
    ⟨(some (Pos.ofNat 11)), none, .mov (tm 1), true, 0⟩,
    ⟨(some (Pos.ofNat 12)), none, .bytesStr (tm 11), true, 0⟩,
    ⟨(some (Pos.ofNat 13)), none, .bin .eql .other false (tm 10) (tm 12), true, 0⟩,
    ⟨(some (Pos.ofNat 14)), none, .mov (tm 13), true, 0⟩,
    ⟨(some (Pos.ofNat 15)), (some ((Pos.ofNat 14), true)), .mov (tm 0), true, 0⟩,
    ⟨(some (Pos.ofNat 16)), (some ((Pos.ofNat 14), true)), .mov (tm 5), true, 0⟩,
    ⟨(some (Pos.ofNat 17)), (some ((Pos.ofNat 14), true)), .bin .add .other true (tm 16) (vl (int64 (1))), true, 0⟩,
    ⟨(some (Pos.ofNat 18)), (some ((Pos.ofNat 14), true)), .sliceSl 1 (tm 15) none (some (tm 17)) none, true, 0⟩,
    ⟨(some (Pos.ofNat 19)), (some ((Pos.ofNat 14), true)), .mov (tm 5), true, 0⟩,
    ⟨(some (Pos.ofNat 20)), (some ((Pos.ofNat 14), true)), .idxAddrSl 1 (tm 18) (tm 19), true, 0⟩,
    ⟨(some (Pos.ofNat 21)), (some ((Pos.ofNat 14), true)), .load1 (tm 20), true, 0⟩,
    ⟨(some (Pos.ofNat 22)), (some ((Pos.ofNat 14), true)), .bin .eql .other true (tm 21) (vl (.int .u8 (165))), true, 0⟩,
    ⟨(some (Pos.ofNat 23)), none, .pick (tm 14) (tm 22) (vl (.bool false)), true, 0⟩,
    ⟨(some (Pos.ofNat 6)), none, .mov (tm 23), true, 0⟩]

noncomputable def left_3 : List O := [
    ⟨(some (Pos.ofNat 24)), none, .mov (tm 0), true, 0⟩,
    ⟨(some (Pos.ofNat 25)), none, .call (.value (vl (.fn (.func 71) [] []))) [(tm 24)], true, 0⟩]

noncomputable def left_4 : List O := [
    ⟨(some (Pos.ofNat 26)), none, .mov (tm 6), true, 0⟩,
    ⟨(some (Pos.ofNat 4)), none, .mov (tm 26), true, 0⟩]

noncomputable def left_fu : Fu := ⟨[.tmp (Pos.ofNat 4)], 27, (.seq (.region left_0) (.seq (.region left_1) (.seq (.region left_2) (.seq (.region left_3) (.seq (.region left_4) .ret)))))⟩

theorem left_code : compFn Try.prog 45 = some left_fu := by kernel_rfl

/-! (some estuary/estuarylaw03.stands) -/

noncomputable def stands_0 : List O := [
    ⟨(some (Pos.ofNat 3)), none, .box (tm 0), true, 0⟩,
    ⟨(some (Pos.ofNat 4)), none, .box (tm 1), true, 0⟩,
    ⟨(some (Pos.ofNat 5)), none, .box (tm 2), true, 0⟩,
    ⟨(some (Pos.ofNat 6)), none, .new [(.bool false)], true, 0⟩]

noncomputable def stands_1 : List O := [
    ⟨(some (Pos.ofNat 7)), none, .mov (vl (int64 (-1))), true, 0⟩]

noncomputable def stands_2 : List O := [
    ⟨(some (Pos.ofNat 17)), none, .mov (tm 7), true, 0⟩,
    ⟨(some (Pos.ofNat 18)), none, .bin .lss .other true (tm 17) (vl (int64 (3))), true, 0⟩]

noncomputable def stands_3 : List O := [
    ⟨(some (Pos.ofNat 22)), none, .load1 (tm 3), true, 0⟩,
    ⟨(some (Pos.ofNat 23)), none, .mov (tm 7), true, 0⟩,
    ⟨(some (Pos.ofNat 24)), none, .call (.value (vl (.fn (.func 62) [] []))) [(tm 22), (tm 23)], true, 0⟩,
    ⟨(some (Pos.ofNat 21)), none, .mov (tm 24), true, 0⟩,
    ⟨(some (Pos.ofNat 25)), none, .extract (tm 21) 0, true, 0⟩,
    ⟨(some (Pos.ofNat 26)), none, .extract (tm 21) 1, true, 0⟩,
    ⟨(some (Pos.ofNat 8)), none, .mov (tm 25), true, 0⟩,
    ⟨(some (Pos.ofNat 9)), none, .mov (tm 26), true, 0⟩]

noncomputable def stands_4 : List O := [
    ⟨(some (Pos.ofNat 57)), none, .load1 (tm 4), true, 0⟩,
    ⟨(some (Pos.ofNat 58)), none, .eqPtr false (tm 57) (vl .nilPtr), true, 0⟩,
    ⟨(some (Pos.ofNat 56)), none, .mov (tm 58), true, 0⟩]

noncomputable def stands_5 : List O := [
    ⟨(some (Pos.ofNat 59)), none, .mov (tm 9), true, 0⟩,
    ⟨(some (Pos.ofNat 60)), none, .bin .neq .other true (tm 59) (vl (int64 (1))), true, 0⟩,
    ⟨(some (Pos.ofNat 61)), none, .mov (tm 60), true, 0⟩,
    ⟨(some (Pos.ofNat 62)), (some ((Pos.ofNat 61), false)), .mov (tm 8), true, 0⟩,
    ⟨(some (Pos.ofNat 63)), (some ((Pos.ofNat 61), false)), .lenL (tm 62), true, 0⟩,
    ⟨(some (Pos.ofNat 64)), (some ((Pos.ofNat 61), false)), .bin .gtr .other true (tm 63) (vl (int64 (0))), true, 0⟩,
    ⟨(some (Pos.ofNat 65)), none, .pick (tm 61) (vl (.bool true)) (tm 64), true, 0⟩,
    ⟨(some (Pos.ofNat 66)), none, .mov (tm 65), true, 0⟩,
    ⟨(some (Pos.ofNat 67)), (some ((Pos.ofNat 66), false)), .load1 (tm 3), true, 0⟩,
    ⟨(some (Pos.ofNat 68)), (some ((Pos.ofNat 66), false)), .mov (tm 7), true, 0⟩,
    ⟨(some (Pos.ofNat 69)), (some ((Pos.ofNat 66), false)), .call (.value (vl (.fn (.func 60) [] []))) [(tm 67), (tm 68)], true, 0⟩,
    ⟨(some (Pos.ofNat 70)), (some ((Pos.ofNat 66), false)), .bin .neq .other true (tm 69) (vl (int64 (0))), true, 0⟩,
    ⟨(some (Pos.ofNat 71)), none, .pick (tm 66) (vl (.bool true)) (tm 70), true, 0⟩]

noncomputable def stands_6 : List O := [
    ⟨none, none, .store 1 (tm 6) (vl (.bool false)), true, 0⟩]

noncomputable def stands_7 : List O := [
    ⟨(some (Pos.ofNat 73)), none, .mov (tm 7), true, 0⟩,
    ⟨(some (Pos.ofNat 74)), none, .bin .lss .other true (tm 73) (vl (int64 (0))), true, 0⟩,
    ⟨(some (Pos.ofNat 75)), none, .mov (tm 74), true, 0⟩,
    ⟨(some (Pos.ofNat 76)), (some ((Pos.ofNat 75), false)), .mov (tm 7), true, 0⟩,
    ⟨(some (Pos.ofNat 77)), (some ((Pos.ofNat 75), false)), .bin .gtr .other true (tm 76) (vl (int64 (1))), true, 0⟩,
    ⟨(some (Pos.ofNat 78)), none, .pick (tm 75) (vl (.bool true)) (tm 77), true, 0⟩,
    ⟨(some (Pos.ofNat 72)), none, .mov (tm 78), true, 0⟩]

noncomputable def stands_8 : List O := [
    ⟨(some (Pos.ofNat 79)), none, .mov (tm 9), true, 0⟩,
    ⟨(some (Pos.ofNat 80)), none, .bin .neq .other true (tm 79) (vl (int64 (2))), true, 0⟩,
    ⟨(some (Pos.ofNat 81)), none, .mov (tm 80), true, 0⟩,
    ⟨(some (Pos.ofNat 82)), (some ((Pos.ofNat 81), false)), .mov (tm 8), true, 0⟩,
    ⟨(some (Pos.ofNat 83)), (some ((Pos.ofNat 81), false)), .lenL (tm 82), true, 0⟩,
    ⟨(some (Pos.ofNat 84)), (some ((Pos.ofNat 81), false)), .bin .gtr .other true (tm 83) (vl (int64 (0))), true, 0⟩,
    ⟨(some (Pos.ofNat 85)), none, .pick (tm 81) (vl (.bool true)) (tm 84), true, 0⟩,
    ⟨(some (Pos.ofNat 86)), none, .mov (tm 85), true, 0⟩,
    ⟨(some (Pos.ofNat 87)), (some ((Pos.ofNat 86), false)), .load1 (tm 3), true, 0⟩,
    ⟨(some (Pos.ofNat 88)), (some ((Pos.ofNat 86), false)), .mov (tm 7), true, 0⟩,
    ⟨(some (Pos.ofNat 89)), (some ((Pos.ofNat 86), false)), .call (.value (vl (.fn (.func 60) [] []))) [(tm 87), (tm 88)], true, 0⟩,
    ⟨(some (Pos.ofNat 90)), (some ((Pos.ofNat 86), false)), .bin .neq .other true (tm 89) (vl (int64 (0))), true, 0⟩,
    ⟨(some (Pos.ofNat 91)), none, .pick (tm 86) (vl (.bool true)) (tm 90), true, 0⟩]

noncomputable def stands_9 : List O := [
    ⟨none, none, .store 1 (tm 6) (vl (.bool false)), true, 0⟩]

noncomputable def stands_10 : List O := [
    ⟨(some (Pos.ofNat 27)), none, .mov (tm 9), true, 0⟩,
    ⟨(some (Pos.ofNat 28)), none, .bin .neq .other true (tm 27) (vl (int64 (0))), true, 1⟩,
    ⟨(some (Pos.ofNat 29)), none, .mov (tm 28), true, 3⟩,
    ⟨(some (Pos.ofNat 30)), (some ((Pos.ofNat 29), false)), .mov (tm 8), true, 7⟩,
    ⟨(some (Pos.ofNat 31)), (some ((Pos.ofNat 29), false)), .bytesStr (tm 30), true, 15⟩,
    ⟨(some (Pos.ofNat 32)), (some ((Pos.ofNat 29), false)), .load1 (tm 4), true, 7⟩,
    ⟨(some (Pos.ofNat 33)), (some ((Pos.ofNat 29), false)), .mov (tm 7), true, 7⟩,
    ⟨(some (Pos.ofNat 34)), (some ((Pos.ofNat 29), false)), .nilCheck (tm 32), true, 39⟩,
    ⟨(some (Pos.ofNat 35)), (some ((Pos.ofNat 29), false)), .fieldAddr 3 (tm 34), true, 167⟩,
    ⟨(some (Pos.ofNat 36)), (some ((Pos.ofNat 29), false)), .idxAddrArr 2 1 (tm 35) (tm 33), true, 487⟩,
    ⟨(some (Pos.ofNat 37)), (some ((Pos.ofNat 29), false)), .load1 (tm 36), true, 999⟩,
    ⟨(some (Pos.ofNat 38)), (some ((Pos.ofNat 29), false)), .bytesStr (tm 37), true, 2023⟩,
    ⟨(some (Pos.ofNat 39)), (some ((Pos.ofNat 29), false)), .bin .neq .other false (tm 31) (tm 38), true, 4095⟩,
    ⟨(some (Pos.ofNat 40)), none, .pick (tm 29) (vl (.bool true)) (tm 39), true, 8191⟩,
    ⟨(some (Pos.ofNat 41)), none, .mov (tm 40), true, 16383⟩,
    ⟨(some (Pos.ofNat 42)), (some ((Pos.ofNat 41), false)), .load1 (tm 3), true, 32767⟩,
    ⟨(some (Pos.ofNat 43)), (some ((Pos.ofNat 41), false)), .mov (tm 7), true, 32767⟩,
    ⟨(some (Pos.ofNat 44)), (some ((Pos.ofNat 41), false)), .call (.value (vl (.fn (.func 60) [] []))) [(tm 42), (tm 43)], true, 131071⟩,
    ⟨(some (Pos.ofNat 45)), (some ((Pos.ofNat 41), false)), .load1 (tm 4), true, 32767⟩,
    ⟨(some (Pos.ofNat 46)), (some ((Pos.ofNat 41), false)), .nilCheck (tm 45), true, 294911⟩,
    ⟨(some (Pos.ofNat 47)), (some ((Pos.ofNat 41), false)), .fieldAddr 0 (tm 46), true, 819199⟩,
    ⟨(some (Pos.ofNat 48)), (some ((Pos.ofNat 41), false)), .load1 (tm 47), true, 1867775⟩,
    ⟨(some (Pos.ofNat 49)), (some ((Pos.ofNat 41), false)), .mov (tm 8), true, 32767⟩,
    ⟨(some (Pos.ofNat 50)), (some ((Pos.ofNat 41), false)), .lenL (tm 49), true, 4227071⟩,
    ⟨(some (Pos.ofNat 51)), (some ((Pos.ofNat 41), false)), .bin .sub .other false (tm 48) (tm 50), true, 16547839⟩,
    ⟨(some (Pos.ofNat 52)), (some ((Pos.ofNat 41), false)), .bin .neq .other false (tm 44) (tm 51), true, 33554431⟩,
    ⟨(some (Pos.ofNat 53)), none, .pick (tm 41) (vl (.bool true)) (tm 52), true, 67108863⟩]

noncomputable def stands_11 : List O := [
    ⟨none, none, .store 1 (tm 6) (vl (.bool false)), true, 0⟩]

noncomputable def stands_12 : List O := [
    ⟨(some (Pos.ofNat 54)), none, .mov (tm 8), true, 0⟩,
    ⟨(some (Pos.ofNat 55)), none, .call (.value (vl (.fn (.func 71) [] []))) [(tm 54)], true, 0⟩]

noncomputable def stands_13 : List O := [
    ⟨(some (Pos.ofNat 19)), none, .mov (tm 7), true, 0⟩,
    ⟨(some (Pos.ofNat 20)), none, .bin .add .other true (tm 19) (vl (int64 (1))), true, 0⟩,
    ⟨(some (Pos.ofNat 7)), none, .mov (tm 20), true, 0⟩]

noncomputable def stands_14 : C := (.seq (.seq (.region stands_2) (.cond (tm 18) .skip (.exit 0))) (.seq (.block 1 (.seq (.region stands_3) (.block 2 (.seq (.region stands_4) (.cond (tm 56) (.seq (.region stands_5) (.cond (tm 71) (.seq (.region stands_6) .ret) .skip)) (.seq (.region stands_7) (.cond (tm 72) (.seq (.region stands_8) (.cond (tm 91) (.seq (.region stands_9) .ret) .skip)) (.seq (.seq (.drawn stands_10) (.cond (tm 53) (.seq (.region stands_11) .ret) .skip)) (.region stands_12))))))))) (.region stands_13)))

noncomputable def stands_15 : List O := [
    ⟨(some (Pos.ofNat 92)), none, .load1 (tm 3), true, 0⟩,
    ⟨(some (Pos.ofNat 93)), none, .call (.value (vl (.fn (.func 39) [] []))) [(tm 92)], true, 0⟩,
    ⟨(some (Pos.ofNat 10)), none, .mov (tm 93), true, 0⟩]

noncomputable def stands_16 : List O := [
    ⟨(some (Pos.ofNat 94)), none, .mov (tm 10), true, 0⟩,
    ⟨(some (Pos.ofNat 95)), none, .bin .eql .fn true (tm 94) (vl .nilFn), true, 0⟩,
    ⟨(some (Pos.ofNat 96)), none, .mov (tm 95), true, 0⟩,
    ⟨(some (Pos.ofNat 97)), (some ((Pos.ofNat 96), false)), .load1 (tm 4), true, 0⟩,
    ⟨(some (Pos.ofNat 98)), (some ((Pos.ofNat 96), false)), .eqPtr false (tm 97) (vl .nilPtr), true, 0⟩,
    ⟨(some (Pos.ofNat 99)), none, .pick (tm 96) (vl (.bool true)) (tm 98), true, 0⟩]

noncomputable def stands_17 : List O := [
    ⟨(some (Pos.ofNat 100)), none, .mov (tm 10), true, 0⟩,
    ⟨(some (Pos.ofNat 101)), none, .bin .neq .fn true (tm 100) (vl .nilFn), true, 0⟩,
    ⟨(some (Pos.ofNat 102)), none, .mov (tm 101), true, 0⟩,
    ⟨(some (Pos.ofNat 103)), (some ((Pos.ofNat 102), true)), .load1 (tm 3), true, 0⟩,
    ⟨(some (Pos.ofNat 104)), (some ((Pos.ofNat 102), true)), .call (.value (vl (.fn (.func 61) [] []))) [(tm 103)], true, 0⟩,
    ⟨(some (Pos.ofNat 105)), (some ((Pos.ofNat 102), true)), .bin .eql .other true (tm 104) (vl (int64 (0))), true, 0⟩,
    ⟨(some (Pos.ofNat 106)), none, .pick (tm 102) (tm 105) (vl (.bool false)), true, 0⟩,
    ⟨(some (Pos.ofNat 107)), none, .mov (tm 106), true, 0⟩,
    ⟨(some (Pos.ofNat 108)), (some ((Pos.ofNat 107), true)), .load1 (tm 3), true, 0⟩,
    ⟨(some (Pos.ofNat 109)), (some ((Pos.ofNat 107), true)), .call (.value (vl (.fn (.func 42) [] []))) [(tm 108)], true, 0⟩,
    ⟨(some (Pos.ofNat 110)), (some ((Pos.ofNat 107), true)), .bin .eql .other true (tm 109) (vl (int64 (0))), true, 0⟩,
    ⟨(some (Pos.ofNat 111)), none, .pick (tm 107) (tm 110) (vl (.bool false)), true, 0⟩,
    ⟨(some (Pos.ofNat 112)), none, .mov (tm 111), true, 0⟩,
    ⟨(some (Pos.ofNat 113)), (some ((Pos.ofNat 112), true)), .load1 (tm 3), true, 0⟩,
    ⟨(some (Pos.ofNat 114)), (some ((Pos.ofNat 112), true)), .call (.value (vl (.fn (.func 72) [] []))) [(tm 113)], true, 0⟩,
    ⟨(some (Pos.ofNat 115)), (some ((Pos.ofNat 112), true)), .eqPtr false (tm 114) (vl .nilPtr), true, 0⟩,
    ⟨(some (Pos.ofNat 116)), none, .pick (tm 112) (tm 115) (vl (.bool false)), true, 0⟩,
    ⟨none, none, .store 1 (tm 6) (tm 116), true, 0⟩]

noncomputable def stands_18 : List O := [
    ⟨(some (Pos.ofNat 117)), none, .load1 (tm 3), true, 0⟩,
    ⟨(some (Pos.ofNat 118)), none, .call (.value (vl (.fn (.func 61) [] []))) [(tm 117)], true, 1⟩,
    ⟨(some (Pos.ofNat 119)), none, .load1 (tm 4), true, 0⟩,
    ⟨(some (Pos.ofNat 120)), none, .nilCheck (tm 119), true, 4⟩,
    ⟨(some (Pos.ofNat 121)), none, .fieldAddr 1 (tm 120), true, 12⟩,
    ⟨(some (Pos.ofNat 122)), none, .load1 (tm 121), true, 28⟩,
    ⟨(some (Pos.ofNat 123)), none, .bin .neq .other false (tm 118) (tm 122), true, 63⟩,
    ⟨(some (Pos.ofNat 124)), none, .mov (tm 123), true, 127⟩,
    ⟨(some (Pos.ofNat 125)), (some ((Pos.ofNat 124), false)), .load1 (tm 3), true, 255⟩,
    ⟨(some (Pos.ofNat 126)), (some ((Pos.ofNat 124), false)), .call (.value (vl (.fn (.func 42) [] []))) [(tm 125)], true, 511⟩,
    ⟨(some (Pos.ofNat 127)), (some ((Pos.ofNat 124), false)), .load1 (tm 4), true, 255⟩,
    ⟨(some (Pos.ofNat 128)), (some ((Pos.ofNat 124), false)), .nilCheck (tm 127), true, 1279⟩,
    ⟨(some (Pos.ofNat 129)), (some ((Pos.ofNat 124), false)), .fieldAddr 7 (tm 128), true, 3327⟩,
    ⟨(some (Pos.ofNat 130)), (some ((Pos.ofNat 124), false)), .load1 (tm 129), true, 7423⟩,
    ⟨(some (Pos.ofNat 131)), (some ((Pos.ofNat 124), false)), .lenL (tm 130), true, 15615⟩,
    ⟨(some (Pos.ofNat 132)), (some ((Pos.ofNat 124), false)), .bin .neq .other false (tm 126) (tm 131), true, 32767⟩,
    ⟨(some (Pos.ofNat 133)), none, .pick (tm 124) (vl (.bool true)) (tm 132), true, 65535⟩]

noncomputable def stands_19 : List O := [
    ⟨none, none, .store 1 (tm 6) (vl (.bool false)), true, 0⟩]

noncomputable def stands_20 : List O := [
    ⟨(some (Pos.ofNat 11)), none, .new [(int64 (0))], true, 0⟩,
    ⟨none, none, .store 1 (tm 11) (vl (int64 (0))), true, 0⟩]

noncomputable def stands_21 : List O := [
    ⟨(some (Pos.ofNat 134)), none, .load1 (tm 11), true, 0⟩,
    ⟨(some (Pos.ofNat 135)), none, .bin .lss .other true (tm 134) (vl (int64 (2))), true, 0⟩]

noncomputable def stands_22 : List O := [
    ⟨(some (Pos.ofNat 12)), none, .new [(int64 (0))], true, 0⟩,
    ⟨none, none, .store 1 (tm 12) (vl (int64 (0))), true, 0⟩]

noncomputable def stands_23 : List O := [
    ⟨(some (Pos.ofNat 138)), none, .mov (tm 10), true, 0⟩]

noncomputable def stands_24 : List O := [
    ⟨(some (Pos.ofNat 13)), none, .mov (tm 139), true, 0⟩]

noncomputable def stands_25 : List O := [
    ⟨(some (Pos.ofNat 14)), none, .new [(int64 (0)), (int64 (0)), .nilSl], true, 0⟩,
    ⟨none, none, .store 3 (tm 14) (tm 140), true, 0⟩]

noncomputable def stands_26 : C := (.seq (.region stands_24) (.region stands_25))

noncomputable def stands_27 : List O := [
    ⟨(some (Pos.ofNat 141)), none, .load1 (tm 12), true, 0⟩,
    ⟨(some (Pos.ofNat 142)), none, .load1 (tm 4), true, 0⟩,
    ⟨(some (Pos.ofNat 143)), none, .nilCheck (tm 142), true, 2⟩,
    ⟨(some (Pos.ofNat 144)), none, .fieldAddr 7 (tm 143), true, 6⟩,
    ⟨(some (Pos.ofNat 145)), none, .load1 (tm 144), true, 14⟩,
    ⟨(some (Pos.ofNat 146)), none, .lenL (tm 145), true, 30⟩,
    ⟨(some (Pos.ofNat 147)), none, .bin .geq .other false (tm 141) (tm 146), true, 63⟩,
    ⟨(some (Pos.ofNat 148)), none, .mov (tm 147), true, 127⟩,
    ⟨(some (Pos.ofNat 149)), (some ((Pos.ofNat 148), false)), .mov (tm 13), true, 255⟩,
    ⟨(some (Pos.ofNat 150)), (some ((Pos.ofNat 148), false)), .load1 (tm 12), true, 255⟩,
    ⟨(some (Pos.ofNat 151)), (some ((Pos.ofNat 148), false)), .bin .neq .other false (tm 149) (tm 150), true, 1023⟩,
    ⟨(some (Pos.ofNat 152)), none, .pick (tm 148) (vl (.bool true)) (tm 151), true, 2047⟩,
    ⟨(some (Pos.ofNat 153)), none, .mov (tm 152), true, 4095⟩,
    ⟨(some (Pos.ofNat 154)), (some ((Pos.ofNat 153), false)), .loadN 3 (tm 14), true, 8191⟩,
    ⟨(some (Pos.ofNat 155)), (some ((Pos.ofNat 153), false)), .load1 (tm 4), true, 8191⟩,
    ⟨(some (Pos.ofNat 156)), (some ((Pos.ofNat 153), false)), .nilCheck (tm 155), true, 24575⟩,
    ⟨(some (Pos.ofNat 157)), (some ((Pos.ofNat 153), false)), .fieldAddr 7 (tm 156), true, 57343⟩,
    ⟨(some (Pos.ofNat 158)), (some ((Pos.ofNat 153), false)), .load1 (tm 157), true, 122879⟩,
    ⟨(some (Pos.ofNat 159)), (some ((Pos.ofNat 153), false)), .load1 (tm 12), true, 8191⟩,
    ⟨(some (Pos.ofNat 160)), (some ((Pos.ofNat 153), false)), .idxAddrSl 3 (tm 158) (tm 159), true, 516095⟩,
    ⟨(some (Pos.ofNat 161)), (some ((Pos.ofNat 153), false)), .loadN 3 (tm 160), true, 1040383⟩,
    ⟨(some (Pos.ofNat 162)), (some ((Pos.ofNat 153), false)), .call (.value (vl (.fn (.func 73) [] []))) [(tm 154), (tm 161)], true, 2097151⟩,
    ⟨(some (Pos.ofNat 163)), (some ((Pos.ofNat 153), false)), .un .not (tm 162), true, 4194303⟩,
    ⟨(some (Pos.ofNat 164)), none, .pick (tm 153) (vl (.bool true)) (tm 163), true, 8388607⟩]

noncomputable def stands_28 : List O := [
    ⟨none, none, .store 1 (tm 6) (vl (.bool false)), true, 0⟩]

noncomputable def stands_29 : List O := [
    ⟨(some (Pos.ofNat 165)), none, .fieldAddr 2 (tm 14), true, 0⟩,
    ⟨(some (Pos.ofNat 166)), none, .load1 (tm 165), true, 0⟩,
    ⟨(some (Pos.ofNat 167)), none, .call (.value (vl (.fn (.func 71) [] []))) [(tm 166)], true, 0⟩]

noncomputable def stands_30 : List O := [
    ⟨(some (Pos.ofNat 169)), none, .load1 (tm 3), true, 0⟩,
    ⟨(some (Pos.ofNat 170)), none, .load1 (tm 12), true, 0⟩,
    ⟨(some (Pos.ofNat 171)), none, .call (.value (vl (.fn (.func 48) [] []))) [(tm 169), (tm 170)], true, 0⟩,
    ⟨(some (Pos.ofNat 168)), none, .mov (tm 171), true, 0⟩,
    ⟨(some (Pos.ofNat 172)), none, .extract (tm 168) 0, true, 0⟩,
    ⟨(some (Pos.ofNat 173)), none, .extract (tm 168) 1, true, 0⟩,
    ⟨(some (Pos.ofNat 15)), none, .new [(int64 (0)), (int64 (0)), .nilSl], true, 0⟩,
    ⟨none, none, .store 3 (tm 15) (tm 172), true, 0⟩,
    ⟨(some (Pos.ofNat 16)), none, .mov (tm 173), true, 0⟩]

noncomputable def stands_31 : List O := [
    ⟨(some (Pos.ofNat 174)), none, .mov (tm 16), true, 0⟩,
    ⟨(some (Pos.ofNat 175)), none, .bin .neq .other true (tm 174) (vl (int64 (0))), true, 1⟩,
    ⟨(some (Pos.ofNat 176)), none, .mov (tm 175), true, 3⟩,
    ⟨(some (Pos.ofNat 177)), (some ((Pos.ofNat 176), false)), .loadN 3 (tm 15), true, 7⟩,
    ⟨(some (Pos.ofNat 178)), (some ((Pos.ofNat 176), false)), .load1 (tm 4), true, 7⟩,
    ⟨(some (Pos.ofNat 179)), (some ((Pos.ofNat 176), false)), .nilCheck (tm 178), true, 23⟩,
    ⟨(some (Pos.ofNat 180)), (some ((Pos.ofNat 176), false)), .fieldAddr 7 (tm 179), true, 55⟩,
    ⟨(some (Pos.ofNat 181)), (some ((Pos.ofNat 176), false)), .load1 (tm 180), true, 119⟩,
    ⟨(some (Pos.ofNat 182)), (some ((Pos.ofNat 176), false)), .load1 (tm 12), true, 7⟩,
    ⟨(some (Pos.ofNat 183)), (some ((Pos.ofNat 176), false)), .idxAddrSl 3 (tm 181) (tm 182), true, 503⟩,
    ⟨(some (Pos.ofNat 184)), (some ((Pos.ofNat 176), false)), .loadN 3 (tm 183), true, 1015⟩,
    ⟨(some (Pos.ofNat 185)), (some ((Pos.ofNat 176), false)), .call (.value (vl (.fn (.func 73) [] []))) [(tm 177), (tm 184)], true, 2047⟩,
    ⟨(some (Pos.ofNat 186)), (some ((Pos.ofNat 176), false)), .un .not (tm 185), true, 4095⟩,
    ⟨(some (Pos.ofNat 187)), none, .pick (tm 176) (vl (.bool true)) (tm 186), true, 8191⟩]

noncomputable def stands_32 : List O := [
    ⟨none, none, .store 1 (tm 6) (vl (.bool false)), true, 0⟩]

noncomputable def stands_33 : List O := [
    ⟨(some (Pos.ofNat 188)), none, .load1 (tm 12), true, 0⟩,
    ⟨(some (Pos.ofNat 189)), none, .bin .add .other true (tm 188) (vl (int64 (1))), true, 0⟩,
    ⟨none, none, .store 1 (tm 12) (tm 189), true, 0⟩]

noncomputable def stands_34 : List O := [
    ⟨(some (Pos.ofNat 190)), none, .load1 (tm 11), true, 0⟩,
    ⟨(some (Pos.ofNat 191)), none, .bin .eql .other true (tm 190) (vl (int64 (0))), true, 0⟩,
    ⟨(some (Pos.ofNat 192)), none, .mov (tm 191), true, 0⟩,
    ⟨(some (Pos.ofNat 193)), (some ((Pos.ofNat 192), true)), .load1 (tm 12), true, 0⟩,
    ⟨(some (Pos.ofNat 194)), (some ((Pos.ofNat 192), true)), .load1 (tm 5), true, 0⟩,
    ⟨(some (Pos.ofNat 195)), (some ((Pos.ofNat 192), true)), .bin .eql .other false (tm 193) (tm 194), true, 0⟩,
    ⟨(some (Pos.ofNat 196)), none, .pick (tm 192) (tm 195) (vl (.bool false)), true, 0⟩]

noncomputable def stands_35 : C := (.block 6 (.seq (.seq (.drawn stands_27) (.cond (tm 164) (.seq (.region stands_28) .ret) .skip)) (.seq (.region stands_29) (.seq (.region stands_30) (.seq (.seq (.drawn stands_31) (.cond (tm 187) (.seq (.region stands_32) .ret) .skip)) (.seq (.region stands_33) (.seq (.region stands_34) (.cond (tm 196) (.exit 5) .skip))))))))

noncomputable def stands_36 : List O := [
    ⟨(some (Pos.ofNat 197)), none, .load1 (tm 12), true, 0⟩,
    ⟨(some (Pos.ofNat 198)), none, .load1 (tm 4), true, 0⟩,
    ⟨(some (Pos.ofNat 199)), none, .nilCheck (tm 198), true, 2⟩,
    ⟨(some (Pos.ofNat 200)), none, .fieldAddr 7 (tm 199), true, 6⟩,
    ⟨(some (Pos.ofNat 201)), none, .load1 (tm 200), true, 14⟩,
    ⟨(some (Pos.ofNat 202)), none, .lenL (tm 201), true, 30⟩,
    ⟨(some (Pos.ofNat 203)), none, .bin .neq .other false (tm 197) (tm 202), true, 63⟩,
    ⟨(some (Pos.ofNat 204)), none, .mov (tm 203), true, 127⟩,
    ⟨(some (Pos.ofNat 205)), (some ((Pos.ofNat 204), true)), .load1 (tm 11), true, 255⟩,
    ⟨(some (Pos.ofNat 206)), (some ((Pos.ofNat 204), true)), .bin .eql .other true (tm 205) (vl (int64 (1))), true, 511⟩,
    ⟨(some (Pos.ofNat 207)), (some ((Pos.ofNat 204), true)), .mov (tm 206), true, 1023⟩,
    ⟨(some (Pos.ofNat 208)), (some ((Pos.ofNat 207), false)), .load1 (tm 12), true, 2047⟩,
    ⟨(some (Pos.ofNat 209)), (some ((Pos.ofNat 207), false)), .load1 (tm 5), true, 2047⟩,
    ⟨(some (Pos.ofNat 210)), (some ((Pos.ofNat 207), false)), .bin .neq .other false (tm 208) (tm 209), true, 8191⟩,
    ⟨(some (Pos.ofNat 211)), (some ((Pos.ofNat 204), true)), .pick (tm 207) (vl (.bool true)) (tm 210), true, 16383⟩,
    ⟨(some (Pos.ofNat 212)), none, .pick (tm 204) (tm 211) (vl (.bool false)), true, 32767⟩]

noncomputable def stands_37 : List O := [
    ⟨none, none, .store 1 (tm 6) (vl (.bool false)), true, 0⟩]

noncomputable def stands_38 : List O := [
    ⟨(some (Pos.ofNat 213)), none, .load1 (tm 11), true, 0⟩]

noncomputable def stands_39 : List O := [
    ⟨(some (Pos.ofNat 11)), none, .new [(int64 (0))], true, 0⟩,
    ⟨none, none, .store 1 (tm 11) (tm 213), true, 0⟩]

noncomputable def stands_40 : List O := [
    ⟨(some (Pos.ofNat 136)), none, .load1 (tm 11), true, 0⟩,
    ⟨(some (Pos.ofNat 137)), none, .bin .add .other true (tm 136) (vl (int64 (1))), true, 0⟩,
    ⟨none, none, .store 1 (tm 11) (tm 137), true, 0⟩]

noncomputable def stands_41 : C := (.seq (.seq (.region stands_21) (.cond (tm 135) .skip (.exit 3))) (.seq (.block 4 (.seq (.region stands_22) (.seq (.seq (.region stands_23) (.block 5 (.rangeFunc (tm 138) [(Pos.ofNat 139), (Pos.ofNat 140)] stands_26 stands_35))) (.seq (.drawn stands_36) (.cond (tm 212) (.seq (.region stands_37) .ret) .skip))))) (.seq (.seq (.region stands_38) (.region stands_39)) (.region stands_40))))

noncomputable def stands_42 : List O := [
    ⟨none, none, .store 1 (tm 6) (vl (.bool true)), true, 0⟩]

noncomputable def stands_fu : Fu := ⟨[.cell1 (Pos.ofNat 6)], 214, (.seq (.region stands_0) (.seq (.seq (.region stands_1) (.block 0 (.loop stands_14))) (.seq (.region stands_15) (.seq (.seq (.region stands_16) (.cond (tm 99) (.seq (.region stands_17) .ret) .skip)) (.seq (.seq (.drawn stands_18) (.cond (tm 133) (.seq (.region stands_19) .ret) .skip)) (.seq (.seq (.region stands_20) (.block 3 (.loop stands_41))) (.seq (.region stands_42) .ret)))))))⟩

theorem stands_code : compFn Try.prog 46 = some stands_fu := by kernel_rfl

/-! (some estuary/estuarylaw03.does) -/

noncomputable def dstep_0 : List O := [
    ⟨(some (Pos.ofNat 5)), none, .box (tm 2), true, 0⟩,
    ⟨(some (Pos.ofNat 6)), none, .mov (vl .nilPtr), true, 0⟩,
    ⟨(some (Pos.ofNat 7)), none, .mov (vl .nilPtr), true, 0⟩,
    ⟨(some (Pos.ofNat 8)), none, .mov (vl (.bool false)), true, 0⟩]

noncomputable def dstep_1 : List O := [
    ⟨(some (Pos.ofNat 16)), none, .fieldAddr 0 (tm 5), true, 0⟩,
    ⟨(some (Pos.ofNat 17)), none, .load1 (tm 16), true, 0⟩]

noncomputable def dstep_2 : List O := [
    ⟨(some (Pos.ofNat 19)), none, .bin .eql .other true (tm 17) (vl (int64 (1))), true, 0⟩,
    ⟨(some (Pos.ofNat 18)), none, .mov (tm 19), true, 0⟩]

noncomputable def dstep_3 : List O := [
    ⟨(some (Pos.ofNat 20)), none, .fieldAddr 2 (tm 5), true, 0⟩,
    ⟨(some (Pos.ofNat 21)), none, .load1 (tm 20), true, 0⟩,
    ⟨(some (Pos.ofNat 22)), none, .call (.value (vl (.fn (.func 43) [] []))) [(tm 21)], true, 0⟩,
    ⟨(some (Pos.ofNat 9)), none, .mov (tm 22), true, 0⟩]

noncomputable def dstep_4 : List O := [
    ⟨(some (Pos.ofNat 23)), none, .mov (tm 0), true, 0⟩,
    ⟨(some (Pos.ofNat 24)), none, .fieldAddr 1 (tm 5), true, 0⟩,
    ⟨(some (Pos.ofNat 25)), none, .load1 (tm 24), true, 2⟩,
    ⟨(some (Pos.ofNat 26)), none, .mov (tm 9), true, 0⟩,
    ⟨(some (Pos.ofNat 27)), none, .call (.value (vl (.fn (.func 36) [] []))) [(tm 23), (tm 25), (tm 26)], true, 15⟩,
    ⟨(some (Pos.ofNat 28)), none, .mov (tm 1), true, 0⟩,
    ⟨(some (Pos.ofNat 29)), none, .fieldAddr 1 (tm 5), true, 0⟩,
    ⟨(some (Pos.ofNat 30)), none, .load1 (tm 29), true, 64⟩,
    ⟨(some (Pos.ofNat 31)), none, .fieldAddr 2 (tm 5), true, 0⟩,
    ⟨(some (Pos.ofNat 32)), none, .load1 (tm 31), true, 256⟩,
    ⟨(some (Pos.ofNat 33)), none, .call (.value (vl (.fn (.func 74) [] []))) [(tm 28), (tm 30), (tm 32)], true, 1023⟩,
    ⟨(some (Pos.ofNat 34)), none, .bin .eql .other false (tm 27) (tm 33), true, 2047⟩,
    ⟨(some (Pos.ofNat 10)), none, .mov (tm 34), true, 4095⟩]

noncomputable def dstep_5 : List O := [
    ⟨(some (Pos.ofNat 35)), none, .mov (tm 0), true, 0⟩,
    ⟨(some (Pos.ofNat 36)), none, .mov (tm 1), true, 0⟩,
    ⟨(some (Pos.ofNat 37)), none, .mov (tm 9), true, 0⟩,
    ⟨(some (Pos.ofNat 38)), none, .fieldAddr 2 (tm 5), true, 0⟩,
    ⟨(some (Pos.ofNat 39)), none, .load1 (tm 38), true, 0⟩,
    ⟨(some (Pos.ofNat 40)), none, .call (.value (vl (.fn (.func 45) [] []))) [(tm 37), (tm 39)], true, 0⟩,
    ⟨(some (Pos.ofNat 41)), none, .mov (tm 40), true, 0⟩,
    ⟨(some (Pos.ofNat 42)), (some ((Pos.ofNat 41), true)), .mov (tm 10), true, 0⟩,
    ⟨(some (Pos.ofNat 43)), none, .pick (tm 41) (tm 42) (vl (.bool false)), true, 0⟩,
    ⟨(some (Pos.ofNat 6)), none, .mov (tm 35), true, 0⟩,
    ⟨(some (Pos.ofNat 7)), none, .mov (tm 36), true, 0⟩,
    ⟨(some (Pos.ofNat 8)), none, .mov (tm 43), true, 0⟩]

noncomputable def dstep_6 : List O := [
    ⟨(some (Pos.ofNat 45)), none, .bin .eql .other true (tm 17) (vl (int64 (2))), true, 0⟩,
    ⟨(some (Pos.ofNat 44)), none, .mov (tm 45), true, 0⟩]

noncomputable def dstep_7 : List O := [
    ⟨(some (Pos.ofNat 46)), none, .mov (tm 0), true, 0⟩,
    ⟨(some (Pos.ofNat 47)), none, .mov (tm 1), true, 0⟩,
    ⟨(some (Pos.ofNat 48)), none, .mov (tm 0), true, 0⟩,
    ⟨(some (Pos.ofNat 49)), none, .fieldAddr 1 (tm 5), true, 0⟩,
    ⟨(some (Pos.ofNat 50)), none, .load1 (tm 49), true, 8⟩,
    ⟨(some (Pos.ofNat 51)), none, .call (.value (vl (.fn (.func 37) [] []))) [(tm 48), (tm 50)], true, 28⟩,
    ⟨(some (Pos.ofNat 52)), none, .mov (tm 1), true, 0⟩,
    ⟨(some (Pos.ofNat 53)), none, .fieldAddr 1 (tm 5), true, 0⟩,
    ⟨(some (Pos.ofNat 54)), none, .load1 (tm 53), true, 128⟩,
    ⟨(some (Pos.ofNat 55)), none, .call (.value (vl (.fn (.func 75) [] []))) [(tm 52), (tm 54)], true, 508⟩,
    ⟨(some (Pos.ofNat 56)), none, .bin .eql .other false (tm 51) (tm 55), true, 1020⟩,
    ⟨(some (Pos.ofNat 6)), none, .mov (tm 46), true, 1021⟩,
    ⟨(some (Pos.ofNat 7)), none, .mov (tm 47), true, 3071⟩,
    ⟨(some (Pos.ofNat 8)), none, .mov (tm 56), true, 8191⟩]

noncomputable def dstep_8 : List O := [
    ⟨(some (Pos.ofNat 58)), none, .bin .eql .other true (tm 17) (vl (int64 (3))), true, 0⟩,
    ⟨(some (Pos.ofNat 57)), none, .mov (tm 58), true, 0⟩]

noncomputable def dstep_9 : List O := [
    ⟨(some (Pos.ofNat 59)), none, .mov (tm 0), true, 0⟩,
    ⟨(some (Pos.ofNat 60)), none, .mov (tm 1), true, 0⟩,
    ⟨(some (Pos.ofNat 61)), none, .mov (tm 0), true, 0⟩,
    ⟨(some (Pos.ofNat 62)), none, .call (.value (vl (.fn (.func 38) [] []))) [(tm 61)], true, 0⟩,
    ⟨(some (Pos.ofNat 63)), none, .mov (tm 1), true, 0⟩,
    ⟨(some (Pos.ofNat 64)), none, .call (.value (vl (.fn (.func 76) [] []))) [(tm 63)], true, 0⟩,
    ⟨(some (Pos.ofNat 65)), none, .bin .eql .other false (tm 62) (tm 64), true, 0⟩,
    ⟨(some (Pos.ofNat 6)), none, .mov (tm 59), true, 0⟩,
    ⟨(some (Pos.ofNat 7)), none, .mov (tm 60), true, 0⟩,
    ⟨(some (Pos.ofNat 8)), none, .mov (tm 65), true, 0⟩]

noncomputable def dstep_10 : List O := [
    ⟨(some (Pos.ofNat 67)), none, .bin .eql .other true (tm 17) (vl (int64 (4))), true, 0⟩,
    ⟨(some (Pos.ofNat 66)), none, .mov (tm 67), true, 0⟩]

noncomputable def dstep_11 : List O := [
    ⟨(some (Pos.ofNat 69)), none, .mov (tm 0), true, 0⟩,
    ⟨(some (Pos.ofNat 70)), none, .fieldAddr 1 (tm 5), true, 0⟩,
    ⟨(some (Pos.ofNat 71)), none, .load1 (tm 70), true, 0⟩,
    ⟨(some (Pos.ofNat 72)), none, .call (.value (vl (.fn (.func 40) [] []))) [(tm 69), (tm 71)], true, 0⟩,
    ⟨(some (Pos.ofNat 68)), none, .mov (tm 72), true, 0⟩,
    ⟨(some (Pos.ofNat 73)), none, .extract (tm 68) 0, true, 0⟩,
    ⟨(some (Pos.ofNat 74)), none, .extract (tm 68) 1, true, 0⟩,
    ⟨(some (Pos.ofNat 11)), none, .mov (tm 73), true, 0⟩,
    ⟨(some (Pos.ofNat 12)), none, .mov (tm 74), true, 0⟩]

noncomputable def dstep_12 : List O := [
    ⟨(some (Pos.ofNat 76)), none, .mov (tm 1), true, 0⟩,
    ⟨(some (Pos.ofNat 77)), none, .fieldAddr 1 (tm 5), true, 0⟩,
    ⟨(some (Pos.ofNat 78)), none, .load1 (tm 77), true, 0⟩,
    ⟨(some (Pos.ofNat 79)), none, .call (.value (vl (.fn (.func 77) [] []))) [(tm 76), (tm 78)], true, 0⟩,
    ⟨(some (Pos.ofNat 75)), none, .mov (tm 79), true, 0⟩,
    ⟨(some (Pos.ofNat 80)), none, .extract (tm 75) 0, true, 0⟩,
    ⟨(some (Pos.ofNat 81)), none, .extract (tm 75) 1, true, 0⟩,
    ⟨(some (Pos.ofNat 13)), none, .mov (tm 80), true, 0⟩,
    ⟨(some (Pos.ofNat 14)), none, .mov (tm 81), true, 0⟩]

noncomputable def dstep_13 : List O := [
    ⟨(some (Pos.ofNat 82)), none, .mov (tm 12), true, 0⟩,
    ⟨(some (Pos.ofNat 83)), none, .mov (tm 14), true, 0⟩,
    ⟨(some (Pos.ofNat 84)), none, .bin .neq .other false (tm 82) (tm 83), true, 0⟩,
    ⟨(some (Pos.ofNat 85)), none, .mov (tm 84), true, 0⟩,
    ⟨(some (Pos.ofNat 86)), (some ((Pos.ofNat 85), false)), .mov (tm 11), true, 0⟩,
    ⟨(some (Pos.ofNat 87)), (some ((Pos.ofNat 85), false)), .eqPtr false (tm 86) (vl .nilPtr), true, 0⟩,
    ⟨(some (Pos.ofNat 88)), (some ((Pos.ofNat 85), false)), .mov (tm 13), true, 0⟩,
    ⟨(some (Pos.ofNat 89)), (some ((Pos.ofNat 85), false)), .eqPtr false (tm 88) (vl .nilPtr), true, 0⟩,
    ⟨(some (Pos.ofNat 90)), (some ((Pos.ofNat 85), false)), .bin .neq .bool false (tm 87) (tm 89), true, 0⟩,
    ⟨(some (Pos.ofNat 91)), none, .pick (tm 85) (vl (.bool true)) (tm 90), true, 0⟩]

noncomputable def dstep_14 : List O := [
    ⟨(some (Pos.ofNat 92)), none, .mov (tm 0), true, 0⟩,
    ⟨(some (Pos.ofNat 93)), none, .mov (tm 1), true, 0⟩,
    ⟨(some (Pos.ofNat 6)), none, .mov (tm 92), true, 0⟩,
    ⟨(some (Pos.ofNat 7)), none, .mov (tm 93), true, 0⟩,
    ⟨(some (Pos.ofNat 8)), none, .mov (vl (.bool false)), true, 0⟩]

noncomputable def dstep_15 : List O := [
    ⟨(some (Pos.ofNat 94)), none, .mov (tm 13), true, 0⟩,
    ⟨(some (Pos.ofNat 95)), none, .eqPtr false (tm 94) (vl .nilPtr), true, 0⟩]

noncomputable def dstep_16 : List O := [
    ⟨(some (Pos.ofNat 96)), none, .mov (tm 0), true, 0⟩,
    ⟨(some (Pos.ofNat 97)), none, .mov (tm 1), true, 0⟩,
    ⟨(some (Pos.ofNat 6)), none, .mov (tm 96), true, 0⟩,
    ⟨(some (Pos.ofNat 7)), none, .mov (tm 97), true, 0⟩,
    ⟨(some (Pos.ofNat 8)), none, .mov (vl (.bool true)), true, 0⟩]

noncomputable def dstep_17 : List O := [
    ⟨(some (Pos.ofNat 98)), none, .mov (tm 0), true, 0⟩,
    ⟨(some (Pos.ofNat 99)), none, .buildSl 1 1 [(.int .u8 (0))] [(0, 1, (vl (.int .u8 (1))))], true, 0⟩,
    ⟨(some (Pos.ofNat 100)), none, .call (.value (vl (.fn (.func 36) [] []))) [(tm 98), (vl (int64 (0))), (tm 99)], true, 0⟩]

noncomputable def dstep_18 : List O := [
    ⟨(some (Pos.ofNat 101)), none, .mov (tm 11), true, 0⟩,
    ⟨(some (Pos.ofNat 102)), none, .mov (tm 13), true, 0⟩,
    ⟨(some (Pos.ofNat 6)), none, .mov (tm 101), true, 0⟩,
    ⟨(some (Pos.ofNat 7)), none, .mov (tm 102), true, 0⟩,
    ⟨(some (Pos.ofNat 8)), none, .mov (vl (.bool true)), true, 0⟩]

noncomputable def dstep_19 : List O := [
    ⟨(some (Pos.ofNat 104)), none, .bin .eql .other true (tm 17) (vl (int64 (5))), true, 0⟩,
    ⟨(some (Pos.ofNat 103)), none, .mov (tm 104), true, 0⟩]

noncomputable def dstep_20 : List O := [
    ⟨(some (Pos.ofNat 105)), none, .mov (tm 0), true, 0⟩,
    ⟨(some (Pos.ofNat 106)), none, .call (.value (vl (.fn (.func 72) [] []))) [(tm 105)], true, 0⟩,
    ⟨(some (Pos.ofNat 15)), none, .mov (tm 106), true, 0⟩]

noncomputable def dstep_21 : List O := [
    ⟨(some (Pos.ofNat 107)), none, .mov (tm 15), true, 0⟩,
    ⟨(some (Pos.ofNat 108)), none, .eqPtr false (tm 107) (vl .nilPtr), true, 0⟩,
    ⟨(some (Pos.ofNat 109)), none, .mov (tm 1), true, 0⟩,
    ⟨(some (Pos.ofNat 110)), none, .eqPtr false (tm 109) (vl .nilPtr), true, 0⟩,
    ⟨(some (Pos.ofNat 111)), none, .bin .neq .bool false (tm 108) (tm 110), true, 0⟩,
    ⟨(some (Pos.ofNat 112)), none, .mov (tm 111), true, 0⟩,
    ⟨(some (Pos.ofNat 113)), (some ((Pos.ofNat 112), false)), .mov (tm 15), true, 0⟩,
    ⟨(some (Pos.ofNat 114)), (some ((Pos.ofNat 112), false)), .mov (tm 0), true, 0⟩,
    ⟨(some (Pos.ofNat 115)), (some ((Pos.ofNat 112), false)), .call (.value (vl (.fn (.func 41) [] []))) [(tm 113), (tm 114)], true, 0⟩,
    ⟨(some (Pos.ofNat 116)), (some ((Pos.ofNat 112), false)), .un .not (tm 115), true, 0⟩,
    ⟨(some (Pos.ofNat 117)), none, .pick (tm 112) (vl (.bool true)) (tm 116), true, 0⟩]

noncomputable def dstep_22 : List O := [
    ⟨(some (Pos.ofNat 118)), none, .mov (tm 0), true, 0⟩,
    ⟨(some (Pos.ofNat 119)), none, .mov (tm 1), true, 0⟩,
    ⟨(some (Pos.ofNat 6)), none, .mov (tm 118), true, 0⟩,
    ⟨(some (Pos.ofNat 7)), none, .mov (tm 119), true, 0⟩,
    ⟨(some (Pos.ofNat 8)), none, .mov (vl (.bool false)), true, 0⟩]

noncomputable def dstep_23 : List O := [
    ⟨(some (Pos.ofNat 120)), none, .mov (tm 0), true, 0⟩,
    ⟨(some (Pos.ofNat 121)), none, .call (.value (vl (.fn (.func 38) [] []))) [(tm 120)], true, 0⟩]

noncomputable def dstep_24 : List O := [
    ⟨(some (Pos.ofNat 122)), none, .mov (tm 15), true, 0⟩,
    ⟨(some (Pos.ofNat 123)), none, .mov (tm 1), true, 0⟩,
    ⟨(some (Pos.ofNat 6)), none, .mov (tm 122), true, 0⟩,
    ⟨(some (Pos.ofNat 7)), none, .mov (tm 123), true, 0⟩,
    ⟨(some (Pos.ofNat 8)), none, .mov (vl (.bool true)), true, 0⟩]

noncomputable def dstep_25 : List O := [
    ⟨(some (Pos.ofNat 124)), none, .mov (tm 0), true, 0⟩,
    ⟨(some (Pos.ofNat 125)), none, .mov (tm 1), true, 0⟩,
    ⟨(some (Pos.ofNat 6)), none, .mov (tm 124), true, 0⟩,
    ⟨(some (Pos.ofNat 7)), none, .mov (tm 125), true, 0⟩,
    ⟨(some (Pos.ofNat 8)), none, .mov (vl (.bool true)), true, 0⟩]

noncomputable def dstep_fu : Fu := ⟨[.tmp (Pos.ofNat 6), .tmp (Pos.ofNat 7), .tmp (Pos.ofNat 8)], 126, (.seq (.region dstep_0) (.seq (.seq (.region dstep_1) (.block 0 (.seq (.region dstep_2) (.cond (tm 18) (.seq (.region dstep_3) (.seq (.drawn dstep_4) (.seq (.region dstep_5) .ret))) (.seq (.region dstep_6) (.cond (tm 44) (.seq (.drawn dstep_7) .ret) (.seq (.region dstep_8) (.cond (tm 57) (.seq (.region dstep_9) .ret) (.seq (.region dstep_10) (.cond (tm 66) (.seq (.region dstep_11) (.seq (.region dstep_12) (.seq (.seq (.region dstep_13) (.cond (tm 91) (.seq (.region dstep_14) .ret) .skip)) (.seq (.seq (.region dstep_15) (.cond (tm 95) (.seq (.region dstep_16) .ret) .skip)) (.seq (.region dstep_17) (.seq (.region dstep_18) .ret)))))) (.seq (.region dstep_19) (.cond (tm 103) (.seq (.region dstep_20) (.seq (.seq (.region dstep_21) (.cond (tm 117) (.seq (.region dstep_22) .ret) .skip)) (.seq (.region dstep_23) (.seq (.region dstep_24) .ret)))) .skip)))))))))))) (.seq (.region dstep_25) .ret)))⟩

theorem dstep_code : compFn Try.prog 47 = some dstep_fu := by kernel_rfl

/-! (some (*estuary/disk.Disk).Write) -/

noncomputable def dwrite_0 : List O := [
    ⟨(some (Pos.ofNat 4)), none, .new [(int64 (0)), (int64 (0)), .nilSl], true, 0⟩,
    ⟨(some (Pos.ofNat 5)), none, .mov (vl (int64 (0))), true, 0⟩]

noncomputable def dwrite_1 : List O := [
    ⟨(some (Pos.ofNat 8)), none, .mov (tm 0), true, 0⟩,
    ⟨(some (Pos.ofNat 9)), none, .call (.value (vl (.fn (.func 63) [] []))) [(tm 8)], true, 0⟩,
    ⟨(some (Pos.ofNat 10)), none, .un .not (tm 9), true, 0⟩,
    ⟨(some (Pos.ofNat 7)), none, .mov (tm 10), true, 0⟩]

noncomputable def dwrite_2 : List O := [
    ⟨(some (Pos.ofNat 11)), none, .build [(int64 (0)), (int64 (0)), .nilSl] [], true, 0⟩,
    ⟨none, none, .store 3 (tm 4) (tm 11), true, 0⟩,
    ⟨(some (Pos.ofNat 5)), none, .mov (vl (int64 (1))), true, 0⟩]

noncomputable def dwrite_3 : List O := [
    ⟨(some (Pos.ofNat 13)), none, .mov (tm 1), true, 0⟩,
    ⟨(some (Pos.ofNat 14)), none, .bin .lss .other true (tm 13) (vl (int64 (0))), true, 0⟩,
    ⟨(some (Pos.ofNat 15)), none, .mov (tm 14), true, 0⟩,
    ⟨(some (Pos.ofNat 16)), (some ((Pos.ofNat 15), false)), .mov (tm 1), true, 0⟩,
    ⟨(some (Pos.ofNat 17)), (some ((Pos.ofNat 15), false)), .mov (tm 0), true, 0⟩,
    ⟨(some (Pos.ofNat 18)), (some ((Pos.ofNat 15), false)), .nilCheck (tm 17), true, 0⟩,
    ⟨(some (Pos.ofNat 19)), (some ((Pos.ofNat 15), false)), .fieldAddr 7 (tm 18), true, 0⟩,
    ⟨(some (Pos.ofNat 20)), (some ((Pos.ofNat 15), false)), .load1 (tm 19), true, 0⟩,
    ⟨(some (Pos.ofNat 21)), (some ((Pos.ofNat 15), false)), .lenL (tm 20), true, 0⟩,
    ⟨(some (Pos.ofNat 22)), (some ((Pos.ofNat 15), false)), .bin .geq .other false (tm 16) (tm 21), true, 0⟩,
    ⟨(some (Pos.ofNat 23)), none, .pick (tm 15) (vl (.bool true)) (tm 22), true, 0⟩,
    ⟨(some (Pos.ofNat 12)), none, .mov (tm 23), true, 0⟩]

noncomputable def dwrite_4 : List O := [
    ⟨(some (Pos.ofNat 24)), none, .build [(int64 (0)), (int64 (0)), .nilSl] [], true, 0⟩,
    ⟨none, none, .store 3 (tm 4) (tm 24), true, 0⟩,
    ⟨(some (Pos.ofNat 5)), none, .mov (vl (int64 (2))), true, 0⟩]

noncomputable def dwrite_5 : List O := [
    ⟨(some (Pos.ofNat 25)), none, .mov (tm 0), true, 0⟩,
    ⟨(some (Pos.ofNat 26)), none, .nilCheck (tm 25), true, 0⟩,
    ⟨(some (Pos.ofNat 27)), none, .fieldAddr 7 (tm 26), true, 0⟩,
    ⟨(some (Pos.ofNat 28)), none, .load1 (tm 27), true, 0⟩,
    ⟨(some (Pos.ofNat 29)), none, .mov (tm 1), true, 0⟩,
    ⟨(some (Pos.ofNat 30)), none, .idxAddrSl 3 (tm 28) (tm 29), true, 0⟩,
    ⟨(some (Pos.ofNat 31)), none, .loadN 3 (tm 30), true, 0⟩,
    ⟨(some (Pos.ofNat 6)), none, .new [(int64 (0)), (int64 (0)), .nilSl], true, 0⟩,
    ⟨none, none, .store 3 (tm 6) (tm 31), true, 0⟩]

noncomputable def dwrite_6 : List O := [
    ⟨(some (Pos.ofNat 32)), none, .fieldAddr 2 (tm 6), true, 0⟩,
    ⟨(some (Pos.ofNat 33)), none, .load1 (tm 32), true, 0⟩,
    ⟨(some (Pos.ofNat 34)), none, .call (.value (vl (.fn (.func 58) [] []))) [(tm 33)], true, 0⟩,
    ⟨(some (Pos.ofNat 35)), none, .fieldAddr 2 (tm 6), true, 0⟩,
    ⟨none, none, .store 1 (tm 35) (tm 34), true, 0⟩]

noncomputable def dwrite_7 : List O := [
    ⟨(some (Pos.ofNat 36)), none, .loadN 3 (tm 6), true, 0⟩,
    ⟨none, none, .store 3 (tm 4) (tm 36), true, 0⟩,
    ⟨(some (Pos.ofNat 5)), none, .mov (vl (int64 (0))), true, 0⟩]

noncomputable def dwrite_fu : Fu := ⟨[.cellN (Pos.ofNat 4) 3, .tmp (Pos.ofNat 5)], 37, (.seq (.region dwrite_0) (.seq (.block 0 (.seq (.region dwrite_1) (.cond (tm 7) (.seq (.region dwrite_2) .ret) (.seq (.region dwrite_3) (.cond (tm 12) (.seq (.region dwrite_4) .ret) .skip))))) (.seq (.region dwrite_5) (.seq (.region dwrite_6) (.seq (.region dwrite_7) .ret)))))⟩

theorem dwrite_code : compFn Try.prog 48 = some dwrite_fu := by kernel_rfl

/-! (some (*estuary/disk.Disk).Room) -/

noncomputable def room_0 : List O := [
    ⟨(some (Pos.ofNat 4)), none, .mov (vl (int64 (0))), true, 0⟩]

noncomputable def room_1 : List O := [
    ⟨(some (Pos.ofNat 5)), none, .mov (tm 0), true, 0⟩,
    ⟨(some (Pos.ofNat 6)), none, .call (.value (vl (.fn (.func 63) [] []))) [(tm 5)], true, 0⟩,
    ⟨(some (Pos.ofNat 7)), none, .un .not (tm 6), true, 0⟩,
    ⟨(some (Pos.ofNat 8)), none, .mov (tm 7), true, 0⟩,
    ⟨(some (Pos.ofNat 9)), (some ((Pos.ofNat 8), false)), .mov (tm 1), true, 0⟩,
    ⟨(some (Pos.ofNat 10)), (some ((Pos.ofNat 8), false)), .call (.value (vl (.fn (.func 64) [] []))) [(tm 9)], true, 0⟩,
    ⟨(some (Pos.ofNat 11)), (some ((Pos.ofNat 8), false)), .un .not (tm 10), true, 0⟩,
    ⟨(some (Pos.ofNat 12)), none, .pick (tm 8) (vl (.bool true)) (tm 11), true, 0⟩]

noncomputable def room_2 : List O := [
    ⟨(some (Pos.ofNat 4)), none, .mov (vl (int64 (0))), true, 0⟩]

noncomputable def room_3 : List O := [
    ⟨(some (Pos.ofNat 13)), none, .mov (tm 0), true, 0⟩,
    ⟨(some (Pos.ofNat 14)), none, .nilCheck (tm 13), true, 1⟩,
    ⟨(some (Pos.ofNat 15)), none, .fieldAddr 0 (tm 14), true, 3⟩,
    ⟨(some (Pos.ofNat 16)), none, .load1 (tm 15), true, 7⟩,
    ⟨(some (Pos.ofNat 17)), none, .mov (tm 0), true, 0⟩,
    ⟨(some (Pos.ofNat 18)), none, .mov (tm 1), true, 0⟩,
    ⟨(some (Pos.ofNat 19)), none, .nilCheck (tm 17), true, 16⟩,
    ⟨(some (Pos.ofNat 20)), none, .fieldAddr 2 (tm 19), true, 80⟩,
    ⟨(some (Pos.ofNat 21)), none, .idxAddrArr 2 1 (tm 20) (tm 18), true, 240⟩,
    ⟨(some (Pos.ofNat 22)), none, .load1 (tm 21), true, 496⟩,
    ⟨(some (Pos.ofNat 23)), none, .lenL (tm 22), true, 1008⟩,
    ⟨(some (Pos.ofNat 24)), none, .bin .sub .other false (tm 16) (tm 23), true, 2047⟩,
    ⟨(some (Pos.ofNat 4)), none, .mov (tm 24), true, 4095⟩]

noncomputable def room_fu : Fu := ⟨[.tmp (Pos.ofNat 4)], 25, (.seq (.region room_0) (.seq (.seq (.region room_1) (.cond (tm 12) (.seq (.region room_2) .ret) .skip)) (.seq (.drawn room_3) .ret)))⟩

theorem room_code : compFn Try.prog 60 = some room_fu := by kernel_rfl

/-! (some (*estuary/disk.Disk).Used) -/

noncomputable def dused_0 : List O := [
    ⟨(some (Pos.ofNat 2)), none, .mov (vl (int64 (0))), true, 0⟩]

noncomputable def dused_1 : List O := [
    ⟨(some (Pos.ofNat 3)), none, .mov (tm 0), true, 0⟩,
    ⟨(some (Pos.ofNat 4)), none, .call (.value (vl (.fn (.func 63) [] []))) [(tm 3)], true, 0⟩,
    ⟨(some (Pos.ofNat 5)), none, .un .not (tm 4), true, 0⟩]

noncomputable def dused_2 : List O := [
    ⟨(some (Pos.ofNat 2)), none, .mov (vl (int64 (0))), true, 0⟩]

noncomputable def dused_3 : List O := [
    ⟨(some (Pos.ofNat 6)), none, .mov (tm 0), true, 0⟩,
    ⟨(some (Pos.ofNat 7)), none, .nilCheck (tm 6), true, 0⟩,
    ⟨(some (Pos.ofNat 8)), none, .fieldAddr 1 (tm 7), true, 0⟩,
    ⟨(some (Pos.ofNat 9)), none, .load1 (tm 8), true, 0⟩,
    ⟨(some (Pos.ofNat 2)), none, .mov (tm 9), true, 0⟩]

noncomputable def dused_fu : Fu := ⟨[.tmp (Pos.ofNat 2)], 10, (.seq (.region dused_0) (.seq (.seq (.region dused_1) (.cond (tm 5) (.seq (.region dused_2) .ret) .skip)) (.seq (.region dused_3) .ret)))⟩

theorem dused_code : compFn Try.prog 61 = some dused_fu := by kernel_rfl

/-! (some (*estuary/disk.Disk).Area) -/

noncomputable def darea_0 : List O := [
    ⟨(some (Pos.ofNat 4)), none, .mov (vl .nilSl), true, 0⟩,
    ⟨(some (Pos.ofNat 5)), none, .mov (vl (int64 (0))), true, 0⟩]

noncomputable def darea_1 : List O := [
    ⟨(some (Pos.ofNat 7)), none, .mov (tm 0), true, 0⟩,
    ⟨(some (Pos.ofNat 8)), none, .call (.value (vl (.fn (.func 63) [] []))) [(tm 7)], true, 0⟩,
    ⟨(some (Pos.ofNat 9)), none, .un .not (tm 8), true, 0⟩,
    ⟨(some (Pos.ofNat 6)), none, .mov (tm 9), true, 0⟩]

noncomputable def darea_2 : List O := [
    ⟨(some (Pos.ofNat 4)), none, .mov (vl .nilSl), true, 0⟩,
    ⟨(some (Pos.ofNat 5)), none, .mov (vl (int64 (1))), true, 0⟩]

noncomputable def darea_3 : List O := [
    ⟨(some (Pos.ofNat 11)), none, .mov (tm 1), true, 0⟩,
    ⟨(some (Pos.ofNat 12)), none, .call (.value (vl (.fn (.func 64) [] []))) [(tm 11)], true, 0⟩,
    ⟨(some (Pos.ofNat 13)), none, .un .not (tm 12), true, 0⟩,
    ⟨(some (Pos.ofNat 10)), none, .mov (tm 13), true, 0⟩]

noncomputable def darea_4 : List O := [
    ⟨(some (Pos.ofNat 4)), none, .mov (vl .nilSl), true, 0⟩,
    ⟨(some (Pos.ofNat 5)), none, .mov (vl (int64 (2))), true, 0⟩]

noncomputable def darea_5 : List O := [
    ⟨(some (Pos.ofNat 14)), none, .mov (tm 0), true, 0⟩,
    ⟨(some (Pos.ofNat 15)), none, .mov (tm 1), true, 0⟩,
    ⟨(some (Pos.ofNat 16)), none, .nilCheck (tm 14), true, 0⟩,
    ⟨(some (Pos.ofNat 17)), none, .fieldAddr 2 (tm 16), true, 0⟩,
    ⟨(some (Pos.ofNat 18)), none, .idxAddrArr 2 1 (tm 17) (tm 15), true, 0⟩,
    ⟨(some (Pos.ofNat 19)), none, .load1 (tm 18), true, 0⟩,
    ⟨(some (Pos.ofNat 20)), none, .call (.value (vl (.fn (.func 58) [] []))) [(tm 19)], true, 0⟩,
    ⟨(some (Pos.ofNat 4)), none, .mov (tm 20), true, 0⟩,
    ⟨(some (Pos.ofNat 5)), none, .mov (vl (int64 (0))), true, 0⟩]

noncomputable def darea_fu : Fu := ⟨[.tmp (Pos.ofNat 4), .tmp (Pos.ofNat 5)], 21, (.seq (.region darea_0) (.seq (.block 0 (.seq (.region darea_1) (.cond (tm 6) (.seq (.region darea_2) .ret) (.seq (.region darea_3) (.cond (tm 10) (.seq (.region darea_4) .ret) .skip))))) (.seq (.region darea_5) .ret)))⟩

theorem darea_code : compFn Try.prog 62 = some darea_fu := by kernel_rfl

/-! (some estuary/estuaryref03.Copy) -/

noncomputable def rcopy_0 : List O := [
    ⟨(some (Pos.ofNat 2)), none, .mov (vl .nilSl), true, 0⟩]

noncomputable def rcopy_1 : List O := [
    ⟨(some (Pos.ofNat 3)), none, .mov (tm 0), true, 0⟩,
    ⟨(some (Pos.ofNat 4)), none, .append 1 1 (vl .nilSl) (tm 3), true, 0⟩,
    ⟨(some (Pos.ofNat 2)), none, .mov (tm 4), true, 0⟩]

noncomputable def rcopy_fu : Fu := ⟨[.tmp (Pos.ofNat 2)], 5, (.seq (.region rcopy_0) (.seq (.region rcopy_1) .ret))⟩

theorem rcopy_code : compFn Try.prog 70 = some rcopy_fu := by kernel_rfl

/-! (some estuary/estuarylaw03.over) -/

noncomputable def over_0 : List O := [
    ⟨(some (Pos.ofNat 2)), none, .mov (vl (int64 (0))), true, 0⟩]

noncomputable def over_1 : List O := [
    ⟨(some (Pos.ofNat 3)), none, .mov (tm 2), true, 0⟩,
    ⟨(some (Pos.ofNat 4)), none, .mov (tm 0), true, 0⟩,
    ⟨(some (Pos.ofNat 5)), none, .lenL (tm 4), true, 0⟩,
    ⟨(some (Pos.ofNat 6)), none, .bin .lss .other false (tm 3) (tm 5), true, 0⟩]

noncomputable def over_2 : List O := [
    ⟨(some (Pos.ofNat 9)), none, .mov (tm 0), true, 0⟩,
    ⟨(some (Pos.ofNat 10)), none, .mov (tm 2), true, 0⟩,
    ⟨(some (Pos.ofNat 11)), none, .idxAddrSl 1 (tm 9) (tm 10), true, 0⟩,
    ⟨none, none, .store 1 (tm 11) (vl (.int .u8 (99))), true, 0⟩]

noncomputable def over_3 : List O := [
    ⟨(some (Pos.ofNat 7)), none, .mov (tm 2), true, 0⟩,
    ⟨(some (Pos.ofNat 8)), none, .bin .add .other true (tm 7) (vl (int64 (1))), true, 0⟩,
    ⟨(some (Pos.ofNat 2)), none, .mov (tm 8), true, 0⟩]

noncomputable def over_4 : C := (.seq (.seq (.region over_1) (.cond (tm 6) .skip (.exit 0))) (.seq (.block 1 (.region over_2)) (.region over_3)))

noncomputable def over_fu : Fu := ⟨[], 12, (.seq (.region over_0) (.block 0 (.loop over_4)))⟩

theorem over_code : compFn Try.prog 71 = some over_fu := by kernel_rfl

/-! (some (*estuary/disk.Disk).Copy) -/

noncomputable def dcopy_0 : List O := [
    ⟨(some (Pos.ofNat 2)), none, .mov (vl .nilPtr), true, 0⟩]

noncomputable def dcopy_1 : List O := [
    ⟨(some (Pos.ofNat 6)), none, .mov (tm 0), true, 0⟩,
    ⟨(some (Pos.ofNat 7)), none, .mov (tm 0), true, 0⟩,
    ⟨(some (Pos.ofNat 8)), none, .call (.value (vl (.fn (.func 42) [] []))) [(tm 7)], true, 0⟩,
    ⟨(some (Pos.ofNat 9)), none, .call (.value (vl (.fn (.func 40) [] []))) [(tm 6), (tm 8)], true, 0⟩,
    ⟨(some (Pos.ofNat 5)), none, .mov (tm 9), true, 0⟩,
    ⟨(some (Pos.ofNat 10)), none, .extract (tm 5) 0, true, 0⟩,
    ⟨(some (Pos.ofNat 11)), none, .extract (tm 5) 1, true, 0⟩,
    ⟨(some (Pos.ofNat 3)), none, .mov (tm 10), true, 0⟩,
    ⟨(some (Pos.ofNat 4)), none, .mov (tm 11), true, 0⟩]

noncomputable def dcopy_2 : List O := [
    ⟨(some (Pos.ofNat 12)), none, .mov (tm 3), true, 0⟩,
    ⟨(some (Pos.ofNat 2)), none, .mov (tm 12), true, 0⟩]

noncomputable def dcopy_fu : Fu := ⟨[.tmp (Pos.ofNat 2)], 13, (.seq (.region dcopy_0) (.seq (.region dcopy_1) (.seq (.region dcopy_2) .ret)))⟩

theorem dcopy_code : compFn Try.prog 72 = some dcopy_fu := by kernel_rfl

/-! (some estuary/estuaryref03.SameWrite) -/

noncomputable def samew_0 : List O := [
    ⟨(some (Pos.ofNat 2)), none, .box (tm 0), true, 0⟩,
    ⟨(some (Pos.ofNat 3)), none, .box (tm 1), true, 0⟩,
    ⟨(some (Pos.ofNat 4)), none, .mov (vl (.bool false)), true, 0⟩]

noncomputable def samew_1 : List O := [
    ⟨(some (Pos.ofNat 5)), none, .fieldAddr 0 (tm 2), true, 0⟩,
    ⟨(some (Pos.ofNat 6)), none, .load1 (tm 5), true, 0⟩,
    ⟨(some (Pos.ofNat 7)), none, .fieldAddr 0 (tm 3), true, 0⟩,
    ⟨(some (Pos.ofNat 8)), none, .load1 (tm 7), true, 0⟩,
    ⟨(some (Pos.ofNat 9)), none, .bin .eql .other false (tm 6) (tm 8), true, 0⟩,
    ⟨(some (Pos.ofNat 10)), none, .mov (tm 9), true, 0⟩,
    ⟨(some (Pos.ofNat 11)), (some ((Pos.ofNat 10), true)), .fieldAddr 1 (tm 2), true, 0⟩,
    ⟨(some (Pos.ofNat 12)), (some ((Pos.ofNat 10), true)), .load1 (tm 11), true, 0⟩,
    ⟨(some (Pos.ofNat 13)), (some ((Pos.ofNat 10), true)), .fieldAddr 1 (tm 3), true, 0⟩,
    ⟨(some (Pos.ofNat 14)), (some ((Pos.ofNat 10), true)), .load1 (tm 13), true, 0⟩,
    ⟨(some (Pos.ofNat 15)), (some ((Pos.ofNat 10), true)), .bin .eql .other false (tm 12) (tm 14), true, 0⟩,
    ⟨(some (Pos.ofNat 16)), none, .pick (tm 10) (tm 15) (vl (.bool false)), true, 0⟩,
    ⟨(some (Pos.ofNat 17)), none, .mov (tm 16), true, 0⟩,
    ⟨(some (Pos.ofNat 18)), (some ((Pos.ofNat 17), true)), .fieldAddr 2 (tm 2), true, 0⟩,
    ⟨(some (Pos.ofNat 19)), (some ((Pos.ofNat 17), true)), .load1 (tm 18), true, 0⟩,
    ⟨(some (Pos.ofNat 20)), (some ((Pos.ofNat 17), true)), .bytesStr (tm 19), true, 0⟩,
    ⟨(some (Pos.ofNat 21)), (some ((Pos.ofNat 17), true)), .fieldAddr 2 (tm 3), true, 0⟩,
    ⟨(some (Pos.ofNat 22)), (some ((Pos.ofNat 17), true)), .load1 (tm 21), true, 0⟩,
    ⟨(some (Pos.ofNat 23)), (some ((Pos.ofNat 17), true)), .bytesStr (tm 22), true, 0⟩,
    ⟨(some (Pos.ofNat 24)), (some ((Pos.ofNat 17), true)), .bin .eql .other false (tm 20) (tm 23), true, 0⟩,
    ⟨(some (Pos.ofNat 25)), none, .pick (tm 17) (tm 24) (vl (.bool false)), true, 0⟩,
    ⟨(some (Pos.ofNat 4)), none, .mov (tm 25), true, 0⟩]

noncomputable def samew_fu : Fu := ⟨[.tmp (Pos.ofNat 4)], 26, (.seq (.region samew_0) (.seq (.region samew_1) .ret))⟩

theorem samew_code : compFn Try.prog 73 = some samew_fu := by kernel_rfl

/-! (some (*estuary/estuaryref03.Disk).Lay) -/

noncomputable def rlay_0 : List O := [
    ⟨(some (Pos.ofNat 6)), none, .mov (vl (int64 (0))), true, 0⟩]

noncomputable def rlay_1 : List O := [
    ⟨(some (Pos.ofNat 7)), none, .mov (tm 0), true, 0⟩,
    ⟨(some (Pos.ofNat 8)), none, .eqPtr false (tm 7) (vl .nilPtr), true, 0⟩]

noncomputable def rlay_2 : List O := [
    ⟨(some (Pos.ofNat 6)), none, .mov (vl (int64 (1))), true, 0⟩]

noncomputable def rlay_3 : List O := [
    ⟨(some (Pos.ofNat 9)), none, .mov (tm 1), true, 0⟩,
    ⟨(some (Pos.ofNat 10)), none, .bin .lss .other true (tm 9) (vl (int64 (0))), true, 0⟩,
    ⟨(some (Pos.ofNat 11)), none, .mov (tm 10), true, 0⟩,
    ⟨(some (Pos.ofNat 12)), (some ((Pos.ofNat 11), false)), .mov (tm 1), true, 0⟩,
    ⟨(some (Pos.ofNat 13)), (some ((Pos.ofNat 11), false)), .bin .gtr .other true (tm 12) (vl (int64 (1))), true, 0⟩,
    ⟨(some (Pos.ofNat 14)), none, .pick (tm 11) (vl (.bool true)) (tm 13), true, 0⟩]

noncomputable def rlay_4 : List O := [
    ⟨(some (Pos.ofNat 6)), none, .mov (vl (int64 (2))), true, 0⟩]

noncomputable def rlay_5 : List O := [
    ⟨(some (Pos.ofNat 15)), none, .mov (tm 2), true, 0⟩,
    ⟨(some (Pos.ofNat 16)), none, .lenL (tm 15), true, 1⟩,
    ⟨(some (Pos.ofNat 17)), none, .mov (tm 0), true, 0⟩,
    ⟨(some (Pos.ofNat 18)), none, .nilCheck (tm 17), true, 4⟩,
    ⟨(some (Pos.ofNat 19)), none, .fieldAddr 0 (tm 18), true, 12⟩,
    ⟨(some (Pos.ofNat 20)), none, .load1 (tm 19), true, 28⟩,
    ⟨(some (Pos.ofNat 21)), none, .mov (tm 0), true, 0⟩,
    ⟨(some (Pos.ofNat 22)), none, .mov (tm 1), true, 0⟩,
    ⟨(some (Pos.ofNat 23)), none, .nilCheck (tm 21), true, 64⟩,
    ⟨(some (Pos.ofNat 24)), none, .fieldAddr 3 (tm 23), true, 320⟩,
    ⟨(some (Pos.ofNat 25)), none, .idxAddrArr 2 1 (tm 24) (tm 22), true, 960⟩,
    ⟨(some (Pos.ofNat 26)), none, .load1 (tm 25), true, 1984⟩,
    ⟨(some (Pos.ofNat 27)), none, .lenL (tm 26), true, 4032⟩,
    ⟨(some (Pos.ofNat 28)), none, .bin .sub .other false (tm 20) (tm 27), true, 8188⟩,
    ⟨(some (Pos.ofNat 29)), none, .bin .gtr .other false (tm 16) (tm 28), true, 16383⟩]

noncomputable def rlay_6 : List O := [
    ⟨(some (Pos.ofNat 6)), none, .mov (vl (int64 (8))), true, 0⟩]

noncomputable def rlay_7 : List O := [
    ⟨(some (Pos.ofNat 30)), none, .mov (tm 0), true, 0⟩,
    ⟨(some (Pos.ofNat 31)), none, .mov (tm 1), true, 0⟩,
    ⟨(some (Pos.ofNat 32)), none, .mov (tm 2), true, 0⟩,
    ⟨(some (Pos.ofNat 33)), none, .call (.value (vl (.fn (.func 70) [] []))) [(tm 32)], true, 0⟩,
    ⟨(some (Pos.ofNat 34)), none, .build [(int64 (0)), (int64 (0)), .nilSl] [(0, 1, (vl (int64 (1)))), (1, 1, (tm 31)), (2, 1, (tm 33))], true, 0⟩,
    ⟨(some (Pos.ofNat 35)), none, .call (.value (vl (.fn (.func 87) [] []))) [(tm 30), (tm 34)], true, 0⟩]

noncomputable def rlay_8 : List O := [
    ⟨(some (Pos.ofNat 6)), none, .mov (vl (int64 (0))), true, 0⟩]

noncomputable def rlay_fu : Fu := ⟨[.tmp (Pos.ofNat 6)], 36, (.seq (.region rlay_0) (.seq (.seq (.region rlay_1) (.cond (tm 8) (.seq (.region rlay_2) .ret) .skip)) (.seq (.seq (.region rlay_3) (.cond (tm 14) (.seq (.region rlay_4) .ret) .skip)) (.seq (.seq (.drawn rlay_5) (.cond (tm 29) (.seq (.region rlay_6) .ret) .skip)) (.seq (.region rlay_7) (.seq (.region rlay_8) .ret))))))⟩

theorem rlay_code : compFn Try.prog 74 = some rlay_fu := by kernel_rfl

/-! (some (*estuary/estuaryref03.Disk).Clear) -/

noncomputable def rclear_0 : List O := [
    ⟨(some (Pos.ofNat 4)), none, .mov (vl (int64 (0))), true, 0⟩]

noncomputable def rclear_1 : List O := [
    ⟨(some (Pos.ofNat 5)), none, .mov (tm 0), true, 0⟩,
    ⟨(some (Pos.ofNat 6)), none, .eqPtr false (tm 5) (vl .nilPtr), true, 0⟩]

noncomputable def rclear_2 : List O := [
    ⟨(some (Pos.ofNat 4)), none, .mov (vl (int64 (1))), true, 0⟩]

noncomputable def rclear_3 : List O := [
    ⟨(some (Pos.ofNat 7)), none, .mov (tm 1), true, 0⟩,
    ⟨(some (Pos.ofNat 8)), none, .bin .lss .other true (tm 7) (vl (int64 (0))), true, 0⟩,
    ⟨(some (Pos.ofNat 9)), none, .mov (tm 8), true, 0⟩,
    ⟨(some (Pos.ofNat 10)), (some ((Pos.ofNat 9), false)), .mov (tm 1), true, 0⟩,
    ⟨(some (Pos.ofNat 11)), (some ((Pos.ofNat 9), false)), .bin .gtr .other true (tm 10) (vl (int64 (1))), true, 0⟩,
    ⟨(some (Pos.ofNat 12)), none, .pick (tm 9) (vl (.bool true)) (tm 11), true, 0⟩]

noncomputable def rclear_4 : List O := [
    ⟨(some (Pos.ofNat 4)), none, .mov (vl (int64 (2))), true, 0⟩]

noncomputable def rclear_5 : List O := [
    ⟨(some (Pos.ofNat 13)), none, .mov (tm 0), true, 0⟩,
    ⟨(some (Pos.ofNat 14)), none, .mov (tm 1), true, 0⟩,
    ⟨(some (Pos.ofNat 15)), none, .build [(int64 (0)), (int64 (0)), .nilSl] [(0, 1, (vl (int64 (2)))), (1, 1, (tm 14))], true, 0⟩,
    ⟨(some (Pos.ofNat 16)), none, .call (.value (vl (.fn (.func 87) [] []))) [(tm 13), (tm 15)], true, 0⟩]

noncomputable def rclear_6 : List O := [
    ⟨(some (Pos.ofNat 4)), none, .mov (vl (int64 (0))), true, 0⟩]

noncomputable def rclear_fu : Fu := ⟨[.tmp (Pos.ofNat 4)], 17, (.seq (.region rclear_0) (.seq (.seq (.region rclear_1) (.cond (tm 6) (.seq (.region rclear_2) .ret) .skip)) (.seq (.seq (.region rclear_3) (.cond (tm 12) (.seq (.region rclear_4) .ret) .skip)) (.seq (.region rclear_5) (.seq (.region rclear_6) .ret)))))⟩

theorem rclear_code : compFn Try.prog 75 = some rclear_fu := by kernel_rfl

/-! (some (*estuary/estuaryref03.Disk).Turn) -/

noncomputable def rturn_0 : List O := [
    ⟨(some (Pos.ofNat 2)), none, .mov (vl (int64 (0))), true, 0⟩]

noncomputable def rturn_1 : List O := [
    ⟨(some (Pos.ofNat 3)), none, .mov (tm 0), true, 0⟩,
    ⟨(some (Pos.ofNat 4)), none, .eqPtr false (tm 3) (vl .nilPtr), true, 0⟩]

noncomputable def rturn_2 : List O := [
    ⟨(some (Pos.ofNat 2)), none, .mov (vl (int64 (1))), true, 0⟩]

noncomputable def rturn_3 : List O := [
    ⟨(some (Pos.ofNat 5)), none, .mov (tm 0), true, 0⟩,
    ⟨(some (Pos.ofNat 6)), none, .build [(int64 (0)), (int64 (0)), .nilSl] [(0, 1, (vl (int64 (3))))], true, 0⟩,
    ⟨(some (Pos.ofNat 7)), none, .call (.value (vl (.fn (.func 87) [] []))) [(tm 5), (tm 6)], true, 0⟩]

noncomputable def rturn_4 : List O := [
    ⟨(some (Pos.ofNat 2)), none, .mov (vl (int64 (0))), true, 0⟩]

noncomputable def rturn_fu : Fu := ⟨[.tmp (Pos.ofNat 2)], 8, (.seq (.region rturn_0) (.seq (.seq (.region rturn_1) (.cond (tm 4) (.seq (.region rturn_2) .ret) .skip)) (.seq (.region rturn_3) (.seq (.region rturn_4) .ret))))⟩

theorem rturn_code : compFn Try.prog 76 = some rturn_fu := by kernel_rfl

/-! (some (*estuary/estuaryref03.Disk).Cut) -/

noncomputable def rcut_0 : List O := [
    ⟨(some (Pos.ofNat 4)), none, .mov (vl .nilPtr), true, 0⟩,
    ⟨(some (Pos.ofNat 5)), none, .mov (vl (int64 (0))), true, 0⟩]

noncomputable def rcut_1 : List O := [
    ⟨(some (Pos.ofNat 10)), none, .mov (tm 0), true, 0⟩,
    ⟨(some (Pos.ofNat 11)), none, .eqPtr false (tm 10) (vl .nilPtr), true, 0⟩]

noncomputable def rcut_2 : List O := [
    ⟨(some (Pos.ofNat 4)), none, .mov (vl .nilPtr), true, 0⟩,
    ⟨(some (Pos.ofNat 5)), none, .mov (vl (int64 (1))), true, 0⟩]

noncomputable def rcut_3 : List O := [
    ⟨(some (Pos.ofNat 12)), none, .mov (tm 1), true, 0⟩,
    ⟨(some (Pos.ofNat 13)), none, .bin .lss .other true (tm 12) (vl (int64 (0))), true, 0⟩,
    ⟨(some (Pos.ofNat 14)), none, .mov (tm 13), true, 0⟩,
    ⟨(some (Pos.ofNat 15)), (some ((Pos.ofNat 14), false)), .mov (tm 1), true, 0⟩,
    ⟨(some (Pos.ofNat 16)), (some ((Pos.ofNat 14), false)), .mov (tm 0), true, 0⟩,
    ⟨(some (Pos.ofNat 17)), (some ((Pos.ofNat 14), false)), .nilCheck (tm 16), true, 0⟩,
    ⟨(some (Pos.ofNat 18)), (some ((Pos.ofNat 14), false)), .fieldAddr 7 (tm 17), true, 0⟩,
    ⟨(some (Pos.ofNat 19)), (some ((Pos.ofNat 14), false)), .load1 (tm 18), true, 0⟩,
    ⟨(some (Pos.ofNat 20)), (some ((Pos.ofNat 14), false)), .lenL (tm 19), true, 0⟩,
    ⟨(some (Pos.ofNat 21)), (some ((Pos.ofNat 14), false)), .bin .gtr .other false (tm 15) (tm 20), true, 0⟩,
    ⟨(some (Pos.ofNat 22)), none, .pick (tm 14) (vl (.bool true)) (tm 21), true, 0⟩]

noncomputable def rcut_4 : List O := [
    ⟨(some (Pos.ofNat 4)), none, .mov (vl .nilPtr), true, 0⟩,
    ⟨(some (Pos.ofNat 5)), none, .mov (vl (int64 (2))), true, 0⟩]

noncomputable def rcut_5 : List O := [
    ⟨(some (Pos.ofNat 24)), none, .mov (tm 0), true, 0⟩,
    ⟨(some (Pos.ofNat 25)), none, .nilCheck (tm 24), true, 1⟩,
    ⟨(some (Pos.ofNat 26)), none, .fieldAddr 0 (tm 25), true, 3⟩,
    ⟨(some (Pos.ofNat 27)), none, .load1 (tm 26), true, 7⟩,
    ⟨(some (Pos.ofNat 28)), none, .mov (tm 0), true, 0⟩,
    ⟨(some (Pos.ofNat 29)), none, .nilCheck (tm 28), true, 16⟩,
    ⟨(some (Pos.ofNat 30)), none, .fieldAddr 2 (tm 29), true, 48⟩,
    ⟨(some (Pos.ofNat 31)), none, .load1 (tm 30), true, 112⟩,
    ⟨(some (Pos.ofNat 32)), none, .mov (tm 0), true, 0⟩,
    ⟨(some (Pos.ofNat 33)), none, .nilCheck (tm 32), true, 256⟩,
    ⟨(some (Pos.ofNat 34)), none, .fieldAddr 5 (tm 33), true, 768⟩,
    ⟨(some (Pos.ofNat 35)), none, .idxAddrArr 2 1 (tm 34) (vl (int64 (0))), true, 1792⟩,
    ⟨(some (Pos.ofNat 36)), none, .load1 (tm 35), true, 3840⟩,
    ⟨(some (Pos.ofNat 37)), none, .mov (tm 0), true, 0⟩,
    ⟨(some (Pos.ofNat 38)), none, .nilCheck (tm 37), true, 8192⟩,
    ⟨(some (Pos.ofNat 39)), none, .fieldAddr 5 (tm 38), true, 24576⟩,
    ⟨(some (Pos.ofNat 40)), none, .idxAddrArr 2 1 (tm 39) (vl (int64 (1))), true, 57344⟩,
    ⟨(some (Pos.ofNat 41)), none, .load1 (tm 40), true, 122880⟩,
    ⟨(some (Pos.ofNat 42)), none, .call (.value (vl (.fn (.func 44) [] []))) [(tm 27), (tm 31), (tm 36), (tm 41)], true, 262143⟩,
    ⟨(some (Pos.ofNat 23)), none, .mov (tm 42), true, 524287⟩,
    ⟨(some (Pos.ofNat 43)), none, .extract (tm 23) 0, true, 1048575⟩,
    ⟨(some (Pos.ofNat 44)), none, .extract (tm 23) 1, true, 1048575⟩,
    ⟨(some (Pos.ofNat 6)), none, .mov (tm 43), true, 2097151⟩,
    ⟨(some (Pos.ofNat 7)), none, .mov (tm 44), true, 8388607⟩]

noncomputable def rcut_6 : List O := [
    ⟨(some (Pos.ofNat 8)), none, .mov (vl (int64 (0))), true, 0⟩]

noncomputable def rcut_7 : List O := [
    ⟨(some (Pos.ofNat 45)), none, .mov (tm 8), true, 0⟩,
    ⟨(some (Pos.ofNat 46)), none, .mov (tm 1), true, 0⟩,
    ⟨(some (Pos.ofNat 47)), none, .bin .lss .other false (tm 45) (tm 46), true, 0⟩]

noncomputable def rcut_8 : List O := [
    ⟨(some (Pos.ofNat 50)), none, .mov (tm 0), true, 0⟩,
    ⟨(some (Pos.ofNat 51)), none, .nilCheck (tm 50), true, 0⟩,
    ⟨(some (Pos.ofNat 52)), none, .fieldAddr 7 (tm 51), true, 0⟩,
    ⟨(some (Pos.ofNat 53)), none, .load1 (tm 52), true, 0⟩,
    ⟨(some (Pos.ofNat 54)), none, .mov (tm 8), true, 0⟩,
    ⟨(some (Pos.ofNat 55)), none, .idxAddrSl 3 (tm 53) (tm 54), true, 0⟩,
    ⟨(some (Pos.ofNat 56)), none, .loadN 3 (tm 55), true, 0⟩,
    ⟨(some (Pos.ofNat 9)), none, .new [(int64 (0)), (int64 (0)), .nilSl], true, 0⟩,
    ⟨none, none, .store 3 (tm 9) (tm 56), true, 0⟩]

noncomputable def rcut_9 : List O := [
    ⟨(some (Pos.ofNat 57)), none, .fieldAddr 2 (tm 9), true, 0⟩,
    ⟨(some (Pos.ofNat 58)), none, .load1 (tm 57), true, 0⟩,
    ⟨(some (Pos.ofNat 59)), none, .call (.value (vl (.fn (.func 70) [] []))) [(tm 58)], true, 0⟩,
    ⟨(some (Pos.ofNat 60)), none, .fieldAddr 2 (tm 9), true, 0⟩,
    ⟨none, none, .store 1 (tm 60) (tm 59), true, 0⟩]

noncomputable def rcut_10 : List O := [
    ⟨(some (Pos.ofNat 61)), none, .mov (tm 6), true, 0⟩,
    ⟨(some (Pos.ofNat 62)), none, .loadN 3 (tm 9), true, 0⟩,
    ⟨(some (Pos.ofNat 63)), none, .call (.value (vl (.fn (.func 87) [] []))) [(tm 61), (tm 62)], true, 0⟩]

noncomputable def rcut_11 : List O := [
    ⟨(some (Pos.ofNat 48)), none, .mov (tm 8), true, 0⟩,
    ⟨(some (Pos.ofNat 49)), none, .bin .add .other true (tm 48) (vl (int64 (1))), true, 0⟩,
    ⟨(some (Pos.ofNat 8)), none, .mov (tm 49), true, 0⟩]

noncomputable def rcut_12 : C := (.seq (.seq (.region rcut_7) (.cond (tm 47) .skip (.exit 0))) (.seq (.block 1 (.seq (.region rcut_8) (.seq (.region rcut_9) (.region rcut_10)))) (.region rcut_11)))

noncomputable def rcut_13 : List O := [
    ⟨(some (Pos.ofNat 64)), none, .mov (tm 6), true, 0⟩,
    ⟨(some (Pos.ofNat 4)), none, .mov (tm 64), true, 0⟩,
    ⟨(some (Pos.ofNat 5)), none, .mov (vl (int64 (0))), true, 0⟩]

noncomputable def rcut_fu : Fu := ⟨[.tmp (Pos.ofNat 4), .tmp (Pos.ofNat 5)], 65, (.seq (.region rcut_0) (.seq (.seq (.region rcut_1) (.cond (tm 11) (.seq (.region rcut_2) .ret) .skip)) (.seq (.seq (.region rcut_3) (.cond (tm 22) (.seq (.region rcut_4) .ret) .skip)) (.seq (.drawn rcut_5) (.seq (.seq (.region rcut_6) (.block 0 (.loop rcut_12))) (.seq (.region rcut_13) .ret))))))⟩

theorem rcut_code : compFn Try.prog 77 = some rcut_fu := by kernel_rfl

/-! (some (*estuary/estuaryref03.Disk).do) -/

noncomputable def rdo_0 : List O := [
    ⟨(some (Pos.ofNat 3)), none, .box (tm 1), true, 0⟩]

noncomputable def rdo_1 : List O := [
    ⟨(some (Pos.ofNat 4)), none, .fieldAddr 0 (tm 3), true, 0⟩,
    ⟨(some (Pos.ofNat 5)), none, .load1 (tm 4), true, 0⟩]

noncomputable def rdo_2 : List O := [
    ⟨(some (Pos.ofNat 7)), none, .bin .eql .other true (tm 5) (vl (int64 (1))), true, 0⟩,
    ⟨(some (Pos.ofNat 6)), none, .mov (tm 7), true, 0⟩]

noncomputable def rdo_3 : List O := [
    ⟨(some (Pos.ofNat 8)), none, .mov (tm 0), true, 0⟩,
    ⟨(some (Pos.ofNat 9)), none, .fieldAddr 1 (tm 3), true, 0⟩,
    ⟨(some (Pos.ofNat 10)), none, .load1 (tm 9), true, 2⟩,
    ⟨(some (Pos.ofNat 11)), none, .mov (tm 0), true, 0⟩,
    ⟨(some (Pos.ofNat 12)), none, .fieldAddr 1 (tm 3), true, 0⟩,
    ⟨(some (Pos.ofNat 13)), none, .load1 (tm 12), true, 16⟩,
    ⟨(some (Pos.ofNat 14)), none, .nilCheck (tm 11), true, 8⟩,
    ⟨(some (Pos.ofNat 15)), none, .fieldAddr 3 (tm 14), true, 72⟩,
    ⟨(some (Pos.ofNat 16)), none, .idxAddrArr 2 1 (tm 15) (tm 13), true, 248⟩,
    ⟨(some (Pos.ofNat 17)), none, .load1 (tm 16), true, 504⟩,
    ⟨(some (Pos.ofNat 18)), none, .fieldAddr 2 (tm 3), true, 0⟩,
    ⟨(some (Pos.ofNat 19)), none, .load1 (tm 18), true, 1024⟩,
    ⟨(some (Pos.ofNat 20)), none, .append 1 1 (tm 17) (tm 19), true, 4088⟩,
    ⟨(some (Pos.ofNat 21)), none, .nilCheck (tm 8), true, 1⟩,
    ⟨(some (Pos.ofNat 22)), none, .fieldAddr 3 (tm 21), true, 8193⟩,
    ⟨(some (Pos.ofNat 23)), none, .idxAddrArr 2 1 (tm 22) (tm 10), true, 32767⟩,
    ⟨none, none, .store 1 (tm 23) (tm 20), true, 65535⟩]

noncomputable def rdo_4 : List O := [
    ⟨(some (Pos.ofNat 25)), none, .bin .eql .other true (tm 5) (vl (int64 (2))), true, 0⟩,
    ⟨(some (Pos.ofNat 24)), none, .mov (tm 25), true, 0⟩]

noncomputable def rdo_5 : List O := [
    ⟨(some (Pos.ofNat 26)), none, .mov (tm 0), true, 0⟩,
    ⟨(some (Pos.ofNat 27)), none, .fieldAddr 1 (tm 3), true, 0⟩,
    ⟨(some (Pos.ofNat 28)), none, .load1 (tm 27), true, 2⟩,
    ⟨(some (Pos.ofNat 29)), none, .nilCheck (tm 26), true, 1⟩,
    ⟨(some (Pos.ofNat 30)), none, .fieldAddr 3 (tm 29), true, 9⟩,
    ⟨(some (Pos.ofNat 31)), none, .idxAddrArr 2 1 (tm 30) (tm 28), true, 31⟩,
    ⟨none, none, .store 1 (tm 31) (vl .nilSl), true, 63⟩]

noncomputable def rdo_6 : List O := [
    ⟨(some (Pos.ofNat 33)), none, .bin .eql .other true (tm 5) (vl (int64 (3))), true, 0⟩,
    ⟨(some (Pos.ofNat 32)), none, .mov (tm 33), true, 0⟩]

noncomputable def rdo_7 : List O := [
    ⟨(some (Pos.ofNat 34)), none, .mov (tm 0), true, 0⟩,
    ⟨(some (Pos.ofNat 35)), none, .mov (tm 0), true, 0⟩,
    ⟨(some (Pos.ofNat 36)), none, .nilCheck (tm 35), true, 0⟩,
    ⟨(some (Pos.ofNat 37)), none, .fieldAddr 1 (tm 36), true, 0⟩,
    ⟨(some (Pos.ofNat 38)), none, .load1 (tm 37), true, 0⟩,
    ⟨(some (Pos.ofNat 39)), none, .bin .sub .other true (vl (int64 (1))) (tm 38), true, 0⟩,
    ⟨(some (Pos.ofNat 40)), none, .nilCheck (tm 34), true, 0⟩,
    ⟨(some (Pos.ofNat 41)), none, .fieldAddr 1 (tm 40), true, 0⟩,
    ⟨none, none, .store 1 (tm 41) (tm 39), true, 0⟩]

noncomputable def rdo_8 : List O := [
    ⟨(some (Pos.ofNat 42)), none, .mov (tm 0), true, 0⟩,
    ⟨(some (Pos.ofNat 43)), none, .mov (tm 0), true, 0⟩,
    ⟨(some (Pos.ofNat 44)), none, .nilCheck (tm 43), true, 2⟩,
    ⟨(some (Pos.ofNat 45)), none, .fieldAddr 7 (tm 44), true, 6⟩,
    ⟨(some (Pos.ofNat 46)), none, .load1 (tm 45), true, 14⟩,
    ⟨(some (Pos.ofNat 47)), none, .loadN 3 (tm 3), true, 0⟩,
    ⟨(some (Pos.ofNat 48)), none, .buildSl 1 3 [(int64 (0)), (int64 (0)), .nilSl] [(0, 3, (tm 47))], true, 32⟩,
    ⟨(some (Pos.ofNat 49)), none, .append 3 40 (tm 46) (tm 48), true, 126⟩,
    ⟨(some (Pos.ofNat 50)), none, .nilCheck (tm 42), true, 255⟩,
    ⟨(some (Pos.ofNat 51)), none, .fieldAddr 7 (tm 50), true, 511⟩,
    ⟨none, none, .store 1 (tm 51) (tm 49), true, 1023⟩]

noncomputable def rdo_fu : Fu := ⟨[], 52, (.seq (.region rdo_0) (.seq (.seq (.region rdo_1) (.block 0 (.seq (.region rdo_2) (.cond (tm 6) (.drawn rdo_3) (.seq (.region rdo_4) (.cond (tm 24) (.drawn rdo_5) (.seq (.region rdo_6) (.cond (tm 32) (.region rdo_7) .skip)))))))) (.drawn rdo_8)))⟩

theorem rdo_code : compFn Try.prog 87 = some rdo_fu := by kernel_rfl

/-! (some estuary/estuarylaw03.DiskPlays) -/

noncomputable def plays_0 : List O := [
    ⟨(some (Pos.ofNat 3)), none, .box (tm 0), true, 0⟩,
    ⟨(some (Pos.ofNat 6)), none, .mov (vl (.bool false)), true, 0⟩]

noncomputable def plays_1 : List O := [
    ⟨(some (Pos.ofNat 15)), none, .mov (tm 1), true, 0⟩,
    ⟨(some (Pos.ofNat 16)), none, .lenL (tm 15), true, 0⟩,
    ⟨(some (Pos.ofNat 17)), none, .bin .gtr .other true (tm 16) (vl (int64 (60))), true, 0⟩]

noncomputable def plays_2 : List O := [
    ⟨(some (Pos.ofNat 18)), none, .call (.value (vl (.fn (.func 35) [] []))) [], true, 0⟩,
    ⟨(some (Pos.ofNat 6)), none, .mov (tm 18), true, 0⟩]

noncomputable def plays_3 : List O := [
    ⟨(some (Pos.ofNat 19)), none, .fieldAddr 2 (tm 3), true, 0⟩,
    ⟨(some (Pos.ofNat 20)), none, .load1 (tm 19), true, 1⟩,
    ⟨(some (Pos.ofNat 21)), none, .call (.value (vl (.fn (.func 43) [] []))) [(tm 20)], true, 3⟩,
    ⟨(some (Pos.ofNat 22)), none, .fieldAddr 3 (tm 3), true, 0⟩,
    ⟨(some (Pos.ofNat 23)), none, .load1 (tm 22), true, 8⟩,
    ⟨(some (Pos.ofNat 24)), none, .call (.value (vl (.fn (.func 43) [] []))) [(tm 23)], true, 31⟩,
    ⟨(some (Pos.ofNat 7)), none, .mov (tm 21), true, 63⟩,
    ⟨(some (Pos.ofNat 8)), none, .mov (tm 24), true, 127⟩]

noncomputable def plays_4 : List O := [
    ⟨(some (Pos.ofNat 26)), none, .fieldAddr 0 (tm 3), true, 0⟩,
    ⟨(some (Pos.ofNat 27)), none, .load1 (tm 26), true, 0⟩,
    ⟨(some (Pos.ofNat 28)), none, .fieldAddr 1 (tm 3), true, 0⟩,
    ⟨(some (Pos.ofNat 29)), none, .load1 (tm 28), true, 0⟩,
    ⟨(some (Pos.ofNat 30)), none, .mov (tm 7), true, 0⟩,
    ⟨(some (Pos.ofNat 31)), none, .mov (tm 8), true, 0⟩,
    ⟨(some (Pos.ofNat 32)), none, .call (.value (vl (.fn (.func 34) [] []))) [(tm 27), (tm 29), (tm 30), (tm 31)], true, 0⟩,
    ⟨(some (Pos.ofNat 25)), none, .mov (tm 32), true, 0⟩,
    ⟨(some (Pos.ofNat 33)), none, .extract (tm 25) 0, true, 0⟩,
    ⟨(some (Pos.ofNat 34)), none, .extract (tm 25) 1, true, 0⟩,
    ⟨(some (Pos.ofNat 9)), none, .mov (tm 33), true, 0⟩,
    ⟨(some (Pos.ofNat 10)), none, .mov (tm 34), true, 0⟩]

noncomputable def plays_5 : List O := [
    ⟨(some (Pos.ofNat 36)), none, .fieldAddr 0 (tm 3), true, 0⟩,
    ⟨(some (Pos.ofNat 37)), none, .load1 (tm 36), true, 0⟩,
    ⟨(some (Pos.ofNat 38)), none, .fieldAddr 1 (tm 3), true, 0⟩,
    ⟨(some (Pos.ofNat 39)), none, .load1 (tm 38), true, 0⟩,
    ⟨(some (Pos.ofNat 40)), none, .fieldAddr 2 (tm 3), true, 0⟩,
    ⟨(some (Pos.ofNat 41)), none, .load1 (tm 40), true, 0⟩,
    ⟨(some (Pos.ofNat 42)), none, .fieldAddr 3 (tm 3), true, 0⟩,
    ⟨(some (Pos.ofNat 43)), none, .load1 (tm 42), true, 0⟩,
    ⟨(some (Pos.ofNat 44)), none, .call (.value (vl (.fn (.func 44) [] []))) [(tm 37), (tm 39), (tm 41), (tm 43)], true, 0⟩,
    ⟨(some (Pos.ofNat 35)), none, .mov (tm 44), true, 0⟩,
    ⟨(some (Pos.ofNat 45)), none, .extract (tm 35) 0, true, 0⟩,
    ⟨(some (Pos.ofNat 46)), none, .extract (tm 35) 1, true, 0⟩,
    ⟨(some (Pos.ofNat 11)), none, .mov (tm 45), true, 0⟩,
    ⟨(some (Pos.ofNat 12)), none, .mov (tm 46), true, 0⟩]

noncomputable def plays_6 : List O := [
    ⟨(some (Pos.ofNat 47)), none, .mov (tm 7), true, 0⟩,
    ⟨(some (Pos.ofNat 48)), none, .fieldAddr 2 (tm 3), true, 0⟩,
    ⟨(some (Pos.ofNat 49)), none, .load1 (tm 48), true, 0⟩,
    ⟨(some (Pos.ofNat 50)), none, .call (.value (vl (.fn (.func 45) [] []))) [(tm 47), (tm 49)], true, 0⟩,
    ⟨(some (Pos.ofNat 51)), none, .un .not (tm 50), true, 0⟩,
    ⟨(some (Pos.ofNat 52)), none, .mov (tm 51), true, 0⟩,
    ⟨(some (Pos.ofNat 53)), (some ((Pos.ofNat 52), false)), .mov (tm 8), true, 0⟩,
    ⟨(some (Pos.ofNat 54)), (some ((Pos.ofNat 52), false)), .fieldAddr 3 (tm 3), true, 0⟩,
    ⟨(some (Pos.ofNat 55)), (some ((Pos.ofNat 52), false)), .load1 (tm 54), true, 0⟩,
    ⟨(some (Pos.ofNat 56)), (some ((Pos.ofNat 52), false)), .call (.value (vl (.fn (.func 45) [] []))) [(tm 53), (tm 55)], true, 0⟩,
    ⟨(some (Pos.ofNat 57)), (some ((Pos.ofNat 52), false)), .un .not (tm 56), true, 0⟩,
    ⟨(some (Pos.ofNat 58)), none, .pick (tm 52) (vl (.bool true)) (tm 57), true, 0⟩,
    ⟨(some (Pos.ofNat 59)), none, .mov (tm 58), true, 0⟩,
    ⟨(some (Pos.ofNat 60)), (some ((Pos.ofNat 59), false)), .mov (tm 10), true, 0⟩,
    ⟨(some (Pos.ofNat 61)), (some ((Pos.ofNat 59), false)), .mov (tm 12), true, 0⟩,
    ⟨(some (Pos.ofNat 62)), (some ((Pos.ofNat 59), false)), .bin .neq .other false (tm 60) (tm 61), true, 0⟩,
    ⟨(some (Pos.ofNat 63)), none, .pick (tm 59) (vl (.bool true)) (tm 62), true, 0⟩,
    ⟨(some (Pos.ofNat 64)), none, .mov (tm 63), true, 0⟩,
    ⟨(some (Pos.ofNat 65)), (some ((Pos.ofNat 64), false)), .mov (tm 9), true, 0⟩,
    ⟨(some (Pos.ofNat 66)), (some ((Pos.ofNat 64), false)), .eqPtr false (tm 65) (vl .nilPtr), true, 0⟩,
    ⟨(some (Pos.ofNat 67)), (some ((Pos.ofNat 64), false)), .mov (tm 11), true, 0⟩,
    ⟨(some (Pos.ofNat 68)), (some ((Pos.ofNat 64), false)), .eqPtr false (tm 67) (vl .nilPtr), true, 0⟩,
    ⟨(some (Pos.ofNat 69)), (some ((Pos.ofNat 64), false)), .bin .neq .bool false (tm 66) (tm 68), true, 0⟩,
    ⟨(some (Pos.ofNat 70)), none, .pick (tm 64) (vl (.bool true)) (tm 69), true, 0⟩,
    ⟨(some (Pos.ofNat 71)), none, .mov (tm 70), true, 0⟩,
    ⟨(some (Pos.ofNat 72)), (some ((Pos.ofNat 71), false)), .mov (tm 9), true, 0⟩,
    ⟨(some (Pos.ofNat 73)), (some ((Pos.ofNat 71), false)), .mov (tm 11), true, 0⟩,
    ⟨(some (Pos.ofNat 74)), (some ((Pos.ofNat 71), false)), .mov (tm 2), true, 0⟩,
    ⟨(some (Pos.ofNat 75)), (some ((Pos.ofNat 71), false)), .call (.value (vl (.fn (.func 46) [] []))) [(tm 72), (tm 73), (tm 74)], true, 0⟩,
    ⟨(some (Pos.ofNat 76)), (some ((Pos.ofNat 71), false)), .un .not (tm 75), true, 0⟩,
    ⟨(some (Pos.ofNat 77)), none, .pick (tm 71) (vl (.bool true)) (tm 76), true, 0⟩]

noncomputable def plays_7 : List O := [
    ⟨(some (Pos.ofNat 6)), none, .mov (vl (.bool false)), true, 0⟩]

noncomputable def plays_8 : List O := [
    ⟨(some (Pos.ofNat 13)), none, .mov (vl (int64 (0))), true, 0⟩]

noncomputable def plays_9 : List O := [
    ⟨(some (Pos.ofNat 78)), none, .mov (tm 13), true, 0⟩,
    ⟨(some (Pos.ofNat 79)), none, .mov (tm 1), true, 0⟩,
    ⟨(some (Pos.ofNat 80)), none, .lenL (tm 79), true, 0⟩,
    ⟨(some (Pos.ofNat 81)), none, .bin .lss .other false (tm 78) (tm 80), true, 0⟩]

noncomputable def plays_10 : List O := [
    ⟨(some (Pos.ofNat 14)), none, .mov (vl (.bool true)), true, 0⟩]

noncomputable def plays_11 : List O := [
    ⟨(some (Pos.ofNat 85)), none, .mov (tm 9), true, 0⟩,
    ⟨(some (Pos.ofNat 86)), none, .mov (tm 11), true, 0⟩,
    ⟨(some (Pos.ofNat 87)), none, .mov (tm 1), true, 0⟩,
    ⟨(some (Pos.ofNat 88)), none, .mov (tm 13), true, 0⟩,
    ⟨(some (Pos.ofNat 89)), none, .idxAddrSl 3 (tm 87) (tm 88), true, 0⟩,
    ⟨(some (Pos.ofNat 90)), none, .loadN 3 (tm 89), true, 0⟩,
    ⟨(some (Pos.ofNat 91)), none, .call (.value (vl (.fn (.func 47) [] []))) [(tm 85), (tm 86), (tm 90)], true, 0⟩,
    ⟨(some (Pos.ofNat 84)), none, .mov (tm 91), true, 0⟩,
    ⟨(some (Pos.ofNat 92)), none, .extract (tm 84) 0, true, 0⟩,
    ⟨(some (Pos.ofNat 93)), none, .extract (tm 84) 1, true, 0⟩,
    ⟨(some (Pos.ofNat 94)), none, .extract (tm 84) 2, true, 0⟩,
    ⟨(some (Pos.ofNat 9)), none, .mov (tm 92), true, 0⟩,
    ⟨(some (Pos.ofNat 11)), none, .mov (tm 93), true, 0⟩,
    ⟨(some (Pos.ofNat 14)), none, .mov (tm 94), true, 0⟩]

noncomputable def plays_12 : List O := [
    ⟨(some (Pos.ofNat 95)), none, .mov (tm 14), true, 0⟩,
    ⟨(some (Pos.ofNat 96)), none, .un .not (tm 95), true, 0⟩,
    ⟨(some (Pos.ofNat 97)), none, .mov (tm 96), true, 0⟩,
    ⟨(some (Pos.ofNat 98)), (some ((Pos.ofNat 97), false)), .mov (tm 9), true, 0⟩,
    ⟨(some (Pos.ofNat 99)), (some ((Pos.ofNat 97), false)), .mov (tm 11), true, 0⟩,
    ⟨(some (Pos.ofNat 100)), (some ((Pos.ofNat 97), false)), .mov (tm 2), true, 0⟩,
    ⟨(some (Pos.ofNat 101)), (some ((Pos.ofNat 97), false)), .call (.value (vl (.fn (.func 46) [] []))) [(tm 98), (tm 99), (tm 100)], true, 0⟩,
    ⟨(some (Pos.ofNat 102)), (some ((Pos.ofNat 97), false)), .un .not (tm 101), true, 0⟩,
    ⟨(some (Pos.ofNat 103)), none, .pick (tm 97) (vl (.bool true)) (tm 102), true, 0⟩]

noncomputable def plays_13 : List O := [
    ⟨(some (Pos.ofNat 6)), none, .mov (vl (.bool false)), true, 0⟩]

noncomputable def plays_14 : List O := [
    ⟨(some (Pos.ofNat 82)), none, .mov (tm 13), true, 0⟩,
    ⟨(some (Pos.ofNat 83)), none, .bin .add .other true (tm 82) (vl (int64 (1))), true, 0⟩,
    ⟨(some (Pos.ofNat 13)), none, .mov (tm 83), true, 0⟩]

noncomputable def plays_15 : C := (.seq (.seq (.region plays_9) (.cond (tm 81) .skip (.exit 0))) (.seq (.block 1 (.seq (.region plays_10) (.seq (.region plays_11) (.seq (.region plays_12) (.cond (tm 103) (.seq (.region plays_13) .ret) .skip))))) (.region plays_14)))

noncomputable def plays_16 : List O := [
    ⟨(some (Pos.ofNat 104)), none, .call (.value (vl (.fn (.func 35) [] []))) [], true, 0⟩,
    ⟨(some (Pos.ofNat 6)), none, .mov (tm 104), true, 0⟩]

noncomputable def plays_fu : Fu := ⟨[.tmp (Pos.ofNat 6)], 105, (.seq (.region plays_0) (.seq (.seq (.region plays_1) (.cond (tm 17) (.seq (.region plays_2) .ret) .skip)) (.seq (.drawn plays_3) (.seq (.region plays_4) (.seq (.region plays_5) (.seq (.seq (.region plays_6) (.cond (tm 77) (.seq (.region plays_7) .ret) .skip)) (.seq (.seq (.region plays_8) (.block 0 (.loop plays_15))) (.seq (.region plays_16) .ret))))))))⟩

theorem plays_code : compFn Try.prog 7 = some plays_fu := by kernel_rfl

end Go.Proofs.Ytmifpiglcphmoaa.DPlays

namespace Go.Proofs.Ytmifpiglcphmoaa.DPlays
open Go Go.Proofs.Ytmifpiglcphmoaa.Am Go.Proofs

theorem ok43 : okCall Try.prog 43 = true := by kernel_rfl
theorem ok44 : okCall Try.prog 44 = true := by kernel_rfl
theorem ok45 : okCall Try.prog 45 = true := by kernel_rfl
theorem ok46 : okCall Try.prog 46 = true := by kernel_rfl
theorem ok47 : okCall Try.prog 47 = true := by kernel_rfl
theorem ok48 : okCall Try.prog 48 = true := by kernel_rfl
theorem ok60 : okCall Try.prog 60 = true := by kernel_rfl
theorem ok61 : okCall Try.prog 61 = true := by kernel_rfl
theorem ok62 : okCall Try.prog 62 = true := by kernel_rfl
theorem ok70 : okCall Try.prog 70 = true := by kernel_rfl
theorem ok71 : okCall Try.prog 71 = true := by kernel_rfl
theorem ok72 : okCall Try.prog 72 = true := by kernel_rfl
theorem ok73 : okCall Try.prog 73 = true := by kernel_rfl
theorem ok74 : okCall Try.prog 74 = true := by kernel_rfl
theorem ok75 : okCall Try.prog 75 = true := by kernel_rfl
theorem ok76 : okCall Try.prog 76 = true := by kernel_rfl
theorem ok77 : okCall Try.prog 77 = true := by kernel_rfl
theorem ok87 : okCall Try.prog 87 = true := by kernel_rfl

noncomputable def cellsR (d : Dk) (V : Vs) : List AV := [int64 d.cap, int64 d.used, int64 d.fr, V.v0, V.v1, V.f0, V.f1, V.vw]

/-- The document's disk, as it lies in memory of the kinds c to c + 4. -/
structure RkAt (κ : Pos → Nat) (c : Nat) (h : Hp) (p : Pos) (d : Dk) (V : Vs) (ws : List (Wr × AV)) : Prop where
  st : KArr κ c h p (cellsR d V)
  v0 : KHd κ (c + 1) h 1 V.v0 d.a0.length (byt d.a0)
  v1 : KHd κ (c + 2) h 1 V.v1 d.a1.length (byt d.a1)
  vw : KHd κ (c + 3) h 3 V.vw d.ws.length (recs ws)
  f0 : KSl κ (c + 4) h 1 V.f0 d.f0.length (byt d.f0)
  f1 : KSl κ (c + 4) h 1 V.f1 d.f1.length (byt d.f1)
  dat : ∀ x ∈ ws, KSl κ (c + 4) h 1 x.2 x.1.data.length (byt x.1.data)
  eq : ws.map Prod.fst = d.ws
  ok : d.Ok

section
variable {κ κ' : Pos → Nat} {c : Nat} {K : Nat → Prop} {h h' : Hp} {p : Pos} {d : Dk} {V : Vs} {ws : List (Wr × AV)}

theorem RkAt.chg (a : RkAt κ c h p d V ws) (q : Chg κ K h h') (g : Agr h κ κ') (hk : ∀ k, c ≤ k → k ≤ c + 4 → ¬ K k) : RkAt κ' c h' p d V ws :=
  ⟨a.st.chg q g (hk _ (by omega) (by omega)), a.v0.chg q g (hk _ (by omega) (by omega)), a.v1.chg q g (hk _ (by omega) (by omega)), a.vw.chg q g (hk _ (by omega) (by omega)), a.f0.chg q g (hk _ (by omega) (by omega)), a.f1.chg q g (hk _ (by omega) (by omega)),
    fun x hx => (a.dat x hx).chg q g (hk _ (by omega) (by omega)), a.eq, a.ok⟩

theorem RkAt.more (a : RkAt κ c h p d V ws) (o : Only [] h h') (g : Agr h κ κ') : RkAt κ' c h' p d V ws := a.chg (K := fun _ => False) (.of o) g fun _ _ _ q => q

theorem RkAt.l0 (a : RkAt κ c h p d V ws) : read1 h p 0 0 = some (int64 d.cap) := a.st.arr.one (i := 0) (by simp [cellsR])
theorem RkAt.l1 (a : RkAt κ c h p d V ws) : read1 h p 0 1 = some (int64 d.used) := a.st.arr.one (i := 1) (by simp [cellsR])
theorem RkAt.l2 (a : RkAt κ c h p d V ws) : read1 h p 0 2 = some (int64 d.fr) := a.st.arr.one (i := 2) (by simp [cellsR])
theorem RkAt.l3 (a : RkAt κ c h p d V ws) : read1 h p 0 3 = some V.v0 := a.st.arr.one (i := 3) (by simp [cellsR])
theorem RkAt.l4 (a : RkAt κ c h p d V ws) : read1 h p 0 4 = some V.v1 := a.st.arr.one (i := 4) (by simp [cellsR])
theorem RkAt.l5 (a : RkAt κ c h p d V ws) : read1 h p 0 5 = some V.f0 := a.st.arr.one (i := 5) (by simp [cellsR])
theorem RkAt.l6 (a : RkAt κ c h p d V ws) : read1 h p 0 6 = some V.f1 := a.st.arr.one (i := 6) (by simp [cellsR])
theorem RkAt.l7 (a : RkAt κ c h p d V ws) : read1 h p 0 7 = some V.vw := a.st.arr.one (i := 7) (by simp [cellsR])

theorem RkAt.larea (a : RkAt κ c h p d V ws) {n : Int} (hn : n = 0 ∨ n = 1) : ∃ v, read1 h p 0 (3 + n.toNat) = some v ∧ SlN h 1 v (d.area n).length (byt (d.area n)) := by
  rcases hn with e | e <;> subst e
  · exact ⟨V.v0, a.l3, a.v0.hd.sl⟩
  · exact ⟨V.v1, a.l4, a.v1.hd.sl⟩

theorem RkAt.rekind {κ κ' : Pos → Nat} {c c' : Nat} {h : Hp} {p : Pos} {d : Dk} {V : Vs} {ws : List (Wr × AV)} (a : RkAt κ c h p d V ws) (f : ∀ id k, κ id = c + k → k ≤ 4 → id.num < h.next.num → κ' id = c' + k) : RkAt κ' c' h p d V ws :=
  ⟨⟨a.st.arr, f p 0 a.st.k (by omega) a.st.arr.old⟩, ⟨a.v0.hd, fun id q => f id 1 (a.v0.k id q) (by omega) (a.v0.hd.old q).2⟩, ⟨a.v1.hd, fun id q => f id 2 (a.v1.k id q) (by omega) (a.v1.hd.old q).2⟩, ⟨a.vw.hd, fun id q => f id 3 (a.vw.k id q) (by omega) (a.vw.hd.old q).2⟩,
    ⟨a.f0.sl, fun id q => ⟨f id 4 (a.f0.k id q).1 (by omega) (a.f0.k id q).2, (a.f0.k id q).2⟩⟩, ⟨a.f1.sl, fun id q => ⟨f id 4 (a.f1.k id q).1 (by omega) (a.f1.k id q).2, (a.f1.k id q).2⟩⟩,
    fun x hx => ⟨(a.dat x hx).sl, fun id q => ⟨f id 4 ((a.dat x hx).k id q).1 (by omega) ((a.dat x hx).k id q).2, ((a.dat x hx).k id q).2⟩⟩, a.eq, a.ok⟩
end

/-- The document's copy of bytes. -/
theorem rcopy_fn {h : Hp} {v : AV} {n : Nat} {b : List UInt8} (r : SlN h 1 v n (byt b)) (ok : okSize n 1 = true) : ∃ v' h', AmFn Try.prog 70 [v] h v' h' ∧ Held h.next.num h' 1 v' n (byt b) ∧ Only [] h h' := by
  obtain ⟨v', h2, S, ap, hd, o, hS, _⟩ := (Held.nil (N := h.next.num) (h := h) (es := 1)).push Try.prog (bytes := 1) r (byt_atom b) (by omega) (by simpa using ok) (Nat.le_refl _)
  have ap0 := fun env x => ap env (vl .nilSl) x rfl
  obtain ⟨env', e, f⟩ : ∃ env', runS Try.prog true rcopy_fu.body [] (setArgs .e 0 [v]) h = some (.ret, [], env', h2) ∧ sv env' 2 = v' := by
    unfold rcopy_fu
    simp [rcopy_0, rcopy_1, runS, runR, Rs.seq, Rs.block, sv_args, runOps, wanted_no, ev_tm, ev_vl, sv_setD, qev_mov, opt_some, ap0]
  refine ⟨v', h2, AmFn.dos rcopy_code (by simp) (Dos.runRet [] (by simp) e) (vs := [sv env' 2]) rfl f, by simpa using hd, o.mono fun id q => ?_⟩
  obtain ⟨g, off, m, cap, ex, e⟩ := hS id q
  cases e

section
variable {κ : Pos → Nat} {c : Nat} {h : Hp} {p q : Pos} {d : Dk} {V : Vs} {ws : List (Wr × AV)} {w : Wr} {dv : AV} {m : Nat} {env : T AV}

/-- What a part of the document's raw write does. -/
def RDid (κ : Pos → Nat) (c : Nat) (h : Hp) (p q : Pos) (d : Dk) (ws : List (Wr × AV)) (x : C) (env : T AV) : Prop :=
  ∃ κ' env' h' V', Dos Try.prog 87 x env h .go [] env' h' ∧ Agr h κ κ' ∧ Chg κ (Wk c) h h' ∧ RkAt κ' c h' p d V' ws ∧ sv env' 0 = .ptr p 0 0 ∧ sv env' 3 = .ptr q 0 0

theorem rdo_lay {k n : Int} {bb : List UInt8} (a : RkAt κ c h p d V ws) (r : KSl κ (c + 4) h 1 dv m (byt bb)) (b : KArr κ (c + 4) h q [int64 k, int64 n, dv]) (hn : n = 0 ∨ n = 1) (room : ((d.area n).length : Int) + m ≤ d.cap) (s0 : sv env 0 = .ptr p 0 0) (s3 : sv env 3 = .ptr q 0 0) :
    RDid κ c h p q (d.lay n bb) ws (.drawn rdo_3) env := by
  have hm : m = bb.length := by have := r.sl.length; rw [byt_length] at this; omega
  have la1 : read1 h q 0 1 = some (int64 n) := b.arr.one (i := 1) (by simp)
  have la2 : read1 h q 0 2 = some dv := b.arr.one (i := 2) (by simp)
  have hcap := a.ok.cap.2
  have hz : ∀ hh : Hp, (⟨hh.heap, hh.next, hh.ser, hh.lim⟩ : Hp) = hh := fun _ => rfl
  have okl := a.ok.lay room hm
  rcases hn with hn | hn
  · subst hn
    have room' : (d.a0.length : Int) + m ≤ d.cap := room
    obtain ⟨v', h2, ap, hd, ch⟩ := a.v0.push Try.prog (bytes := 1) r.sl (byt_atom bb) (by omega) (okSize_small' (by omega) (by omega))
    have g2 := newK'_agr κ h (c + 1)
    generalize newK' κ h (c + 1) = κ2 at *
    have st2 := a.st.chg ch g2 (by omega)
    have c2 := b.chg ch g2 (by omega)
    have at1 := hd.hd.sl.atom
    have pu := storeR_arr st2.arr (i := 3) (by simp [cellsR]) v' at1.1 at1.2
    obtain ⟨st3, ch3⟩ := st2.put (i := 3) (by simp [cellsR]) v'
    have lb1 : read1 h2 q 0 1 = some (int64 0) := c2.arr.one (i := 1) (by simp)
    have l2 := a.l3
    obtain ⟨env2, acts, lds, e2, f0, f3⟩ : ∃ env' acts lds, runD Try.prog noRec 0 rdo_3 ⟨[], [], [], h.next, env, h⟩ = some ⟨acts, lds, [], h.next, env', putA h2 p 3 v'⟩ ∧ sv env' 0 = .ptr p 0 0 ∧ sv env' 3 = .ptr q 0 0 := by
      simp [rdo_3, runD, stepD, actO, kindOf, lookBack, lookAgain, putT, remAl, insT, bit, eqAV_int8, wanted_no, ev_tm, ev_vl, sv_setD, setD_none, qev_mov, opt_some, qev_load1, qev_nilC, nilC_ptr, qev_fld, fld0, fldN, qev_idxArr, idxA2_ptr, qev_store1, s0, s3, la1, la2, lb1, l2, ap, pu, hz]
    have d2 := runDrawn_of (acts := acts) (lds := lds) (by simp [rdo_3, skipIds, isAlloc, kindOf]) e2
    refine ⟨κ2, env2, putA h2 p 3 v', { V with v0 := v' }, Dos.drawn (noRec_sound _) d2, g2, (ch.mono (K' := Wk c) fun k q => ⟨by omega, by omega⟩).trans g2 (ch3.mono fun k q => ⟨by omega, by omega⟩), ?_, f0, f3⟩
    have hv1 := (a.v1.chg ch g2 (by omega)).chg ch3 .refl (by omega)
    have hvw := (a.vw.chg ch g2 (by omega)).chg ch3 .refl (by omega)
    refine ⟨?_, ?_, hv1, hvw, (a.f0.chg ch g2 (by omega)).chg ch3 .refl (by omega), (a.f1.chg ch g2 (by omega)).chg ch3 .refl (by omega), fun x hx => ((a.dat x hx).chg ch g2 (by omega)).chg ch3 .refl (by omega), a.eq, okl⟩
    · exact st3
    · have := hd.chg ch3 .refl (by omega)
      rw [← byt_append, hm, ← List.length_append] at this
      exact this
  · subst hn
    have room' : (d.a1.length : Int) + m ≤ d.cap := room
    obtain ⟨v', h2, ap, hd, ch⟩ := a.v1.push Try.prog (bytes := 1) r.sl (byt_atom bb) (by omega) (okSize_small' (by omega) (by omega))
    have g2 := newK'_agr κ h (c + 2)
    generalize newK' κ h (c + 2) = κ2 at *
    have st2 := a.st.chg ch g2 (by omega)
    have c2 := b.chg ch g2 (by omega)
    have at1 := hd.hd.sl.atom
    have pu := storeR_arr st2.arr (i := 4) (by simp [cellsR]) v' at1.1 at1.2
    obtain ⟨st3, ch3⟩ := st2.put (i := 4) (by simp [cellsR]) v'
    have lb1 : read1 h2 q 0 1 = some (int64 1) := c2.arr.one (i := 1) (by simp)
    have l2 := a.l4
    obtain ⟨env2, acts, lds, e2, f0, f3⟩ : ∃ env' acts lds, runD Try.prog noRec 0 rdo_3 ⟨[], [], [], h.next, env, h⟩ = some ⟨acts, lds, [], h.next, env', putA h2 p 4 v'⟩ ∧ sv env' 0 = .ptr p 0 0 ∧ sv env' 3 = .ptr q 0 0 := by
      simp [rdo_3, runD, stepD, actO, kindOf, lookBack, lookAgain, putT, remAl, insT, bit, eqAV_int8, wanted_no, ev_tm, ev_vl, sv_setD, setD_none, qev_mov, opt_some, qev_load1, qev_nilC, nilC_ptr, qev_fld, fld0, fldN, qev_idxArr, idxA2_ptr, qev_store1, s0, s3, la1, la2, lb1, l2, ap, pu, hz]
    have d2 := runDrawn_of (acts := acts) (lds := lds) (by simp [rdo_3, skipIds, isAlloc, kindOf]) e2
    refine ⟨κ2, env2, putA h2 p 4 v', { V with v1 := v' }, Dos.drawn (noRec_sound _) d2, g2, (ch.mono (K' := Wk c) fun k q => ⟨by omega, by omega⟩).trans g2 (ch3.mono fun k q => ⟨by omega, by omega⟩), ?_, f0, f3⟩
    have hv0 := (a.v0.chg ch g2 (by omega)).chg ch3 .refl (by omega)
    have hvw := (a.vw.chg ch g2 (by omega)).chg ch3 .refl (by omega)
    refine ⟨?_, hv0, ?_, hvw, (a.f0.chg ch g2 (by omega)).chg ch3 .refl (by omega), (a.f1.chg ch g2 (by omega)).chg ch3 .refl (by omega), fun x hx => ((a.dat x hx).chg ch g2 (by omega)).chg ch3 .refl (by omega), a.eq, okl⟩
    · exact st3
    · have := hd.chg ch3 .refl (by omega)
      rw [← byt_append, hm, ← List.length_append] at this
      exact this

theorem rdo_emp {k n : Int} (a : RkAt κ c h p d V ws) (b : KArr κ (c + 4) h q [int64 k, int64 n, dv]) (hn : n = 0 ∨ n = 1) (s0 : sv env 0 = .ptr p 0 0) (s3 : sv env 3 = .ptr q 0 0) :
    RDid κ c h p q (d.emp n) ws (.drawn rdo_5) env := by
  have la1 : read1 h q 0 1 = some (int64 n) := b.arr.one (i := 1) (by simp)
  have hz : ∀ hh : Hp, (⟨hh.heap, hh.next, hh.ser, hh.lim⟩ : Hp) = hh := fun _ => rfl
  rcases hn with hn | hn
  · subst hn
    have pu := storeR_arr a.st.arr (i := 3) (by simp [cellsR]) .nilSl rfl rfl
    obtain ⟨st3, ch3⟩ := a.st.put (i := 3) (by simp [cellsR]) .nilSl
    have lb1 : read1 (putA h p 3 .nilSl) q 0 1 = some (int64 0) := (b.chg ch3 .refl (by omega)).arr.one (i := 1) (by simp)
    obtain ⟨env2, acts, lds, e2, f0, f3⟩ : ∃ env' acts lds, runD Try.prog noRec 0 rdo_5 ⟨[], [], [], h.next, env, h⟩ = some ⟨acts, lds, [], h.next, env', putA h p 3 .nilSl⟩ ∧ sv env' 0 = .ptr p 0 0 ∧ sv env' 3 = .ptr q 0 0 := by
      simp [rdo_5, runD, stepD, actO, kindOf, lookBack, lookAgain, putT, remAl, insT, bit, eqAV_int8, wanted_no, ev_tm, ev_vl, sv_setD, setD_none, qev_mov, opt_some, qev_load1, qev_nilC, nilC_ptr, qev_fld, fld0, fldN, qev_idxArr, idxA2_ptr, qev_store1, s0, s3, la1, lb1, pu, hz]
    have d2 := runDrawn_of (acts := acts) (lds := lds) (by simp [rdo_5, skipIds, isAlloc, kindOf]) e2
    refine ⟨κ, env2, _, { V with v0 := .nilSl }, Dos.drawn (noRec_sound _) d2, .refl, ch3.mono fun k q => ⟨by omega, by omega⟩, ?_, f0, f3⟩
    exact ⟨st3, .nil, a.v1.chg ch3 .refl (by omega), a.vw.chg ch3 .refl (by omega), a.f0.chg ch3 .refl (by omega), a.f1.chg ch3 .refl (by omega), fun x hx => (a.dat x hx).chg ch3 .refl (by omega), a.eq, a.ok.emp 0⟩
  · subst hn
    have pu := storeR_arr a.st.arr (i := 4) (by simp [cellsR]) .nilSl rfl rfl
    obtain ⟨st3, ch3⟩ := a.st.put (i := 4) (by simp [cellsR]) .nilSl
    have lb1 : read1 (putA h p 4 .nilSl) q 0 1 = some (int64 1) := (b.chg ch3 .refl (by omega)).arr.one (i := 1) (by simp)
    obtain ⟨env2, acts, lds, e2, f0, f3⟩ : ∃ env' acts lds, runD Try.prog noRec 0 rdo_5 ⟨[], [], [], h.next, env, h⟩ = some ⟨acts, lds, [], h.next, env', putA h p 4 .nilSl⟩ ∧ sv env' 0 = .ptr p 0 0 ∧ sv env' 3 = .ptr q 0 0 := by
      simp [rdo_5, runD, stepD, actO, kindOf, lookBack, lookAgain, putT, remAl, insT, bit, eqAV_int8, wanted_no, ev_tm, ev_vl, sv_setD, setD_none, qev_mov, opt_some, qev_load1, qev_nilC, nilC_ptr, qev_fld, fld0, fldN, qev_idxArr, idxA2_ptr, qev_store1, s0, s3, la1, lb1, pu, hz]
    have d2 := runDrawn_of (acts := acts) (lds := lds) (by simp [rdo_5, skipIds, isAlloc, kindOf]) e2
    refine ⟨κ, env2, _, { V with v1 := .nilSl }, Dos.drawn (noRec_sound _) d2, .refl, ch3.mono fun k q => ⟨by omega, by omega⟩, ?_, f0, f3⟩
    exact ⟨st3, a.v0.chg ch3 .refl (by omega), .nil, a.vw.chg ch3 .refl (by omega), a.f0.chg ch3 .refl (by omega), a.f1.chg ch3 .refl (by omega), fun x hx => (a.dat x hx).chg ch3 .refl (by omega), a.eq, a.ok.emp 1⟩

theorem rdo_turn (a : RkAt κ c h p d V ws) (s0 : sv env 0 = .ptr p 0 0) (s3 : sv env 3 = .ptr q 0 0) : RDid κ c h p q d.turn ws (.region rdo_7) env := by
  have l1 := a.l1
  have us := a.ok.us
  have w1 : wrapA .i64 (1 - d.used) = 1 - d.used := wrap64 (by omega) (by omega)
  have pu := storeR_arr a.st.arr (i := 1) (by simp [cellsR]) (int64 (1 - d.used)) rfl rfl
  obtain ⟨st3, ch3⟩ := a.st.put (i := 1) (by simp [cellsR]) (int64 (1 - d.used))
  obtain ⟨env1, e1, f0, f3⟩ : ∃ env', runOps Try.prog rdo_7 env h = some (env', putA h p 1 (int64 (1 - d.used))) ∧ sv env' 0 = .ptr p 0 0 ∧ sv env' 3 = .ptr q 0 0 := by
    simp [rdo_7, runOps, wanted_no, ev_tm, ev_vl, sv_setD, setD_none, qev_mov, qev_bin, bin_sub, opt_some, qev_load1, qev_nilC, nilC_ptr, qev_fld, fld0, fldN, qev_store1, s0, s3, l1, w1, pu]
  exact ⟨κ, env1, _, V, Dos.region e1, .refl, ch3.mono fun k q => ⟨by omega, by omega⟩,
    ⟨st3, a.v0.chg ch3 .refl (by omega), a.v1.chg ch3 .refl (by omega), a.vw.chg ch3 .refl (by omega), a.f0.chg ch3 .refl (by omega), a.f1.chg ch3 .refl (by omega), fun x hx => (a.dat x hx).chg ch3 .refl (by omega), a.eq, a.ok.turn⟩, f0, f3⟩

theorem RDid.pre {x y : C} {env1 : T AV} (e : Dos Try.prog 87 x env h .go [] env1 h) (r : RDid κ c h p q d ws y env1) : RDid κ c h p q d ws (.seq x y) env := by
  obtain ⟨κ', env', h', V', dd, r1, r2, r3, r4, r5⟩ := r
  exact ⟨κ', env', h', V', Dos.seq (M := []) (M1 := []) e dd, r1, r2, r3, r4, r5⟩

theorem RDid.cond {t : Opd} {x y : C} {v : Bool} (ht : ev env t = .bool v) (r : RDid κ c h p q d ws (if v = true then x else y) env) : RDid κ c h p q d ws (.cond t x y) env := by
  obtain ⟨κ', env', h', V', dd, r1, r2, r3, r4, r5⟩ := r
  exact ⟨κ', env', h', V', Dos.cond ht dd, r1, r2, r3, r4, r5⟩

/-- The three ways of the document's raw write. -/
theorem rdo_ways (a : RkAt κ c h p d V ws) (hw : w.Ok d) (r : KSl κ (c + 4) h 1 dv m (byt w.data)) (b : KArr κ (c + 4) h q [int64 w.kind, int64 w.area, dv]) (s0 : sv env 0 = .ptr p 0 0) (s3 : sv env 3 = .ptr q 0 0) :
    RDid κ c h p q (d.does w) ws (.seq (.region rdo_1) (.block 0 (.seq (.region rdo_2) (.cond (tm 6) (.drawn rdo_3) (.seq (.region rdo_4) (.cond (tm 24) (.drawn rdo_5) (.seq (.region rdo_6) (.cond (tm 32) (.region rdo_7) .skip)))))))) env := by
  have hm : m = w.data.length := by have := r.sl.length; rw [byt_length] at this; omega
  have la0 : read1 h q 0 0 = some (int64 w.kind) := b.arr.one (i := 0) (by simp)
  obtain ⟨env1, e1, f0, f3, f5⟩ : ∃ env', runOps Try.prog rdo_1 env h = some (env', h) ∧ sv env' 0 = .ptr p 0 0 ∧ sv env' 3 = .ptr q 0 0 ∧ sv env' 5 = int64 w.kind := by
    simp [rdo_1, runOps, wanted_no, wanted_sv, ev_tm, ev_vl, sv_setD, sv_set, setD_none, qev_mov, qev_bin, qev_un, qev_lenI, qev_pick, qev_load1, qev_idxSl, idx2_sl, idxA2_ptr, opt_some, bin_add, bin_sub, bin_mul, bin_lss, bin_leq, bin_gtr, bin_geq, bin_eql, bin_neq, un_not, un_neg, qev_callv, qev_new1, qev_store1, qev_nilC, nilC_ptr, qev_fld, fld0, fldN, qev_extract, nth0, nth1, nth2, qev_eqPtr, sameP_nil, notIf, s0, s3, la0]
  refine RDid.pre (Dos.region e1) ?_
  suffices hh : RDid κ c h p q (d.does w) ws (.seq (.region rdo_2) (.cond (tm 6) (.drawn rdo_3) (.seq (.region rdo_4) (.cond (tm 24) (.drawn rdo_5) (.seq (.region rdo_6) (.cond (tm 32) (.region rdo_7) .skip)))))) env1 by
    obtain ⟨κ', env', h', V', dd, r1, r2, r3, r4, r5⟩ := hh
    exact ⟨κ', env', h', V', Dos.block (i := 0) (o := .go) dd, r1, r2, r3, r4, r5⟩
  unfold Dk.does
  obtain ⟨env2, e2, g0, g3, g5, g6⟩ : ∃ env', runOps Try.prog rdo_2 env1 h = some (env', h) ∧ sv env' 0 = .ptr p 0 0 ∧ sv env' 3 = .ptr q 0 0 ∧ sv env' 5 = int64 w.kind ∧ sv env' 6 = .bool (decide (w.kind = 1)) := by
    simp [rdo_2, runOps, wanted_no, wanted_sv, ev_tm, ev_vl, sv_setD, sv_set, setD_none, qev_mov, qev_bin, qev_un, qev_lenI, qev_pick, qev_load1, qev_idxSl, idx2_sl, idxA2_ptr, opt_some, bin_add, bin_sub, bin_mul, bin_lss, bin_leq, bin_gtr, bin_geq, bin_eql, bin_neq, un_not, un_neg, qev_callv, qev_new1, qev_store1, qev_nilC, nilC_ptr, qev_fld, fld0, fldN, qev_extract, nth0, nth1, nth2, qev_eqPtr, sameP_nil, notIf, f0, f3, f5]
  refine RDid.pre (Dos.region e2) (RDid.cond (by rw [ev_tm]; exact g6) ?_)
  by_cases k1 : w.kind = 1
  · rw [if_pos k1, if_pos (show decide (w.kind = 1) = true by simpa using k1)]
    have := hw.room k1
    exact rdo_lay a r b hw.area (by omega) g0 g3
  · rw [if_neg k1, if_neg (show ¬ (decide (w.kind = 1) = true) by simpa using k1)]
    obtain ⟨env3, e3, i0, i3, i5, i24⟩ : ∃ env', runOps Try.prog rdo_4 env2 h = some (env', h) ∧ sv env' 0 = .ptr p 0 0 ∧ sv env' 3 = .ptr q 0 0 ∧ sv env' 5 = int64 w.kind ∧ sv env' 24 = .bool (decide (w.kind = 2)) := by
      simp [rdo_4, runOps, wanted_no, wanted_sv, ev_tm, ev_vl, sv_setD, sv_set, setD_none, qev_mov, qev_bin, qev_un, qev_lenI, qev_pick, qev_load1, qev_idxSl, idx2_sl, idxA2_ptr, opt_some, bin_add, bin_sub, bin_mul, bin_lss, bin_leq, bin_gtr, bin_geq, bin_eql, bin_neq, un_not, un_neg, qev_callv, qev_new1, qev_store1, qev_nilC, nilC_ptr, qev_fld, fld0, fldN, qev_extract, nth0, nth1, nth2, qev_eqPtr, sameP_nil, notIf, g0, g3, g5]
    refine RDid.pre (Dos.region e3) (RDid.cond (by rw [ev_tm]; exact i24) ?_)
    by_cases k2 : w.kind = 2
    · rw [if_pos k2, if_pos (show decide (w.kind = 2) = true by simpa using k2)]
      exact rdo_emp a b hw.area i0 i3
    · rw [if_neg k2, if_neg (show ¬ (decide (w.kind = 2) = true) by simpa using k2)]
      have k3 : w.kind = 3 := by have := hw.kind; omega
      obtain ⟨env4, e4, j0, j3, j32⟩ : ∃ env', runOps Try.prog rdo_6 env3 h = some (env', h) ∧ sv env' 0 = .ptr p 0 0 ∧ sv env' 3 = .ptr q 0 0 ∧ sv env' 32 = .bool (decide (w.kind = 3)) := by
        simp [rdo_6, runOps, wanted_no, wanted_sv, ev_tm, ev_vl, sv_setD, sv_set, setD_none, qev_mov, qev_bin, qev_un, qev_lenI, qev_pick, qev_load1, qev_idxSl, idx2_sl, idxA2_ptr, opt_some, bin_add, bin_sub, bin_mul, bin_lss, bin_leq, bin_gtr, bin_geq, bin_eql, bin_neq, un_not, un_neg, qev_callv, qev_new1, qev_store1, qev_nilC, nilC_ptr, qev_fld, fld0, fldN, qev_extract, nth0, nth1, nth2, qev_eqPtr, sameP_nil, notIf, i0, i3, i5]
      refine RDid.pre (Dos.region e4) (RDid.cond (by rw [ev_tm]; exact j32) ?_)
      rw [if_pos (show decide (w.kind = 3) = true by simpa using k3)]
      exact rdo_turn a j0 j3
end
end Go.Proofs.Ytmifpiglcphmoaa.DPlays
