import Derived.Test.YtpcddenijmhbfaaProg
import Derived.KernelRfl
import Derived.Test.YtpcddenijmhbfaaAmO
/- THE WALK'S PARTS, part A: what the functions of the law compute, over the abstract machine that stands beside this text. No condition. -/
set_option linter.unusedSimpArgs false
set_option linter.unusedVariables false
namespace Go.Proofs.Ytpcddenijmhbfaa.Tog
open Go Go.Proofs.Ytpcddenijmhbfaa.Am Go.Proofs

/-! (some estuary/counter.Add) -/

noncomputable def add_0 : List O := [
    ⟨(some (Pos.ofNat 4)), none, .mov (vl (int64 (0))), true, 0⟩]

noncomputable def add_1 : List O := [
    ⟨(some (Pos.ofNat 5)), none, .mov (tm 0), true, 0⟩,
    ⟨(some (Pos.ofNat 6)), none, .mov (tm 1), true, 0⟩,
    ⟨(some (Pos.ofNat 7)), none, .bin .add .other false (tm 5) (tm 6), true, 0⟩,
    ⟨(some (Pos.ofNat 4)), none, .mov (tm 7), true, 0⟩]

noncomputable def add_fu : Fu := ⟨[.tmp (Pos.ofNat 4)], 8, (.seq (.region add_0) (.seq (.region add_1) .ret))⟩

theorem add_code : compFn Try.prog 12 = some add_fu := by kernel_rfl

/-! (some estuary/counter.Delta) -/

noncomputable def delta_0 : List O := [
    ⟨(some (Pos.ofNat 4)), none, .mov (vl (int64 (0))), true, 0⟩]

noncomputable def delta_1 : List O := [
    ⟨(some (Pos.ofNat 5)), none, .mov (tm 1), true, 0⟩,
    ⟨(some (Pos.ofNat 6)), none, .mov (tm 0), true, 0⟩,
    ⟨(some (Pos.ofNat 7)), none, .bin .sub .other false (tm 5) (tm 6), true, 0⟩,
    ⟨(some (Pos.ofNat 4)), none, .mov (tm 7), true, 0⟩]

noncomputable def delta_fu : Fu := ⟨[.tmp (Pos.ofNat 4)], 8, (.seq (.region delta_0) (.seq (.region delta_1) .ret))⟩

theorem delta_code : compFn Try.prog 13 = some delta_fu := by kernel_rfl

/-! (some estuary/counter.Three) -/

noncomputable def three_0 : List O := [
    ⟨(some (Pos.ofNat 6)), none, .mov (vl (int64 (0))), true, 0⟩]

noncomputable def three_1 : List O := [
    ⟨(some (Pos.ofNat 7)), none, .mov (tm 1), true, 0⟩,
    ⟨(some (Pos.ofNat 8)), none, .mov (tm 0), true, 0⟩,
    ⟨(some (Pos.ofNat 9)), none, .mov (tm 2), true, 0⟩,
    ⟨(some (Pos.ofNat 10)), none, .call (.value (vl (.fn (.func 13) [] []))) [(tm 8), (tm 9)], true, 0⟩,
    ⟨(some (Pos.ofNat 11)), none, .bin .add .other false (tm 7) (tm 10), true, 0⟩,
    ⟨(some (Pos.ofNat 6)), none, .mov (tm 11), true, 0⟩]

noncomputable def three_fu : Fu := ⟨[.tmp (Pos.ofNat 6)], 12, (.seq (.region three_0) (.seq (.region three_1) .ret))⟩

theorem three_code : compFn Try.prog 14 = some three_fu := by kernel_rfl

/-! (some estuary/counter.Many) -/

noncomputable def many_0 : List O := [
    ⟨(some (Pos.ofNat 4)), none, .mov (vl (int64 (0))), true, 0⟩]

noncomputable def many_1 : List O := [
    ⟨(some (Pos.ofNat 8)), none, .mov (tm 0), true, 0⟩,
    ⟨(some (Pos.ofNat 5)), none, .mov (tm 8), true, 0⟩]

noncomputable def many_2 : List O := [
    ⟨(some (Pos.ofNat 9)), none, .mov (tm 1), true, 0⟩,
    ⟨(some (Pos.ofNat 10)), none, .lenL (tm 9), true, 0⟩,
    ⟨(some (Pos.ofNat 11)), none, .mov (vl (int64 (0))), true, 0⟩]

noncomputable def many_3 : List O := [
    ⟨(some (Pos.ofNat 12)), none, .bin .lss .other false (tm 11) (tm 10), true, 0⟩]

noncomputable def many_4 : List O := [
    ⟨(some (Pos.ofNat 13)), none, .idxAddrSl 1 (tm 9) (tm 11), true, 0⟩,
    ⟨(some (Pos.ofNat 14)), none, .load1 (tm 13), true, 0⟩,
    ⟨(some (Pos.ofNat 7)), none, .mov (tm 14), true, 0⟩]

noncomputable def many_5 : List O := [
    ⟨(some (Pos.ofNat 15)), none, .mov (tm 5), true, 0⟩,
    ⟨(some (Pos.ofNat 16)), none, .mov (tm 0), true, 0⟩,
    ⟨(some (Pos.ofNat 17)), none, .mov (tm 7), true, 0⟩,
    ⟨(some (Pos.ofNat 18)), none, .call (.value (vl (.fn (.func 13) [] []))) [(tm 16), (tm 17)], true, 0⟩,
    ⟨(some (Pos.ofNat 19)), none, .bin .add .other false (tm 15) (tm 18), true, 0⟩,
    ⟨(some (Pos.ofNat 5)), none, .mov (tm 19), true, 0⟩]

noncomputable def many_6 : List O := [
    ⟨(some (Pos.ofNat 20)), none, .bin .add .other true (tm 11) (vl (int64 (1))), true, 0⟩,
    ⟨(some (Pos.ofNat 11)), none, .mov (tm 20), true, 0⟩]

noncomputable def many_7 : C := (.seq (.region many_3) (.seq (.cond (tm 12) .skip (.exit 0)) (.seq (.block 1 (.seq (.region many_4) (.region many_5))) (.region many_6))))

noncomputable def many_8 : List O := [
    ⟨(some (Pos.ofNat 21)), none, .mov (tm 5), true, 0⟩,
    ⟨(some (Pos.ofNat 4)), none, .mov (tm 21), true, 0⟩]

noncomputable def many_fu : Fu := ⟨[.tmp (Pos.ofNat 4)], 22, (.seq (.region many_0) (.seq (.region many_1) (.seq (.seq (.region many_2) (.block 0 (.loop many_7))) (.seq (.region many_8) .ret))))⟩

theorem many_code : compFn Try.prog 8 = some many_fu := by kernel_rfl

/-! (some estuary/estuaryref10.Sum) -/

noncomputable def rsum_0 : List O := [
    ⟨(some (Pos.ofNat 2)), none, .mov (vl (int64 (0))), true, 0⟩]

noncomputable def rsum_1 : List O := [
    ⟨(some (Pos.ofNat 3)), none, .mov (vl (int64 (0))), true, 0⟩]

noncomputable def rsum_2 : List O := [
    ⟨(some (Pos.ofNat 4)), none, .mov (vl (int64 (0))), true, 0⟩]

noncomputable def rsum_3 : List O := [
    ⟨(some (Pos.ofNat 5)), none, .mov (tm 4), true, 0⟩,
    ⟨(some (Pos.ofNat 6)), none, .mov (tm 0), true, 0⟩,
    ⟨(some (Pos.ofNat 7)), none, .lenL (tm 6), true, 0⟩,
    ⟨(some (Pos.ofNat 8)), none, .bin .lss .other false (tm 5) (tm 7), true, 0⟩]

noncomputable def rsum_4 : List O := [
    ⟨(some (Pos.ofNat 11)), none, .mov (tm 3), true, 0⟩,
    ⟨(some (Pos.ofNat 12)), none, .mov (tm 0), true, 0⟩,
    ⟨(some (Pos.ofNat 13)), none, .mov (tm 4), true, 0⟩,
    ⟨(some (Pos.ofNat 14)), none, .idxAddrSl 1 (tm 12) (tm 13), true, 0⟩,
    ⟨(some (Pos.ofNat 15)), none, .load1 (tm 14), true, 0⟩,
    ⟨(some (Pos.ofNat 16)), none, .bin .add .other false (tm 11) (tm 15), true, 0⟩,
    ⟨(some (Pos.ofNat 3)), none, .mov (tm 16), true, 0⟩]

noncomputable def rsum_5 : List O := [
    ⟨(some (Pos.ofNat 9)), none, .mov (tm 4), true, 0⟩,
    ⟨(some (Pos.ofNat 10)), none, .bin .add .other true (tm 9) (vl (int64 (1))), true, 0⟩,
    ⟨(some (Pos.ofNat 4)), none, .mov (tm 10), true, 0⟩]

noncomputable def rsum_6 : C := (.seq (.seq (.region rsum_3) (.cond (tm 8) .skip (.exit 0))) (.seq (.block 1 (.region rsum_4)) (.region rsum_5)))

noncomputable def rsum_7 : List O := [
    ⟨(some (Pos.ofNat 17)), none, .mov (tm 3), true, 0⟩,
    ⟨(some (Pos.ofNat 2)), none, .mov (tm 17), true, 0⟩]

noncomputable def rsum_fu : Fu := ⟨[.tmp (Pos.ofNat 2)], 18, (.seq (.region rsum_0) (.seq (.region rsum_1) (.seq (.seq (.region rsum_2) (.block 0 (.loop rsum_6))) (.seq (.region rsum_7) .ret))))⟩

theorem rsum_code : compFn Try.prog 10 = some rsum_fu := by kernel_rfl

/-! (some estuary/estuaryref10.Many) -/

noncomputable def rmany_0 : List O := [
    ⟨(some (Pos.ofNat 4)), none, .mov (vl (int64 (0))), true, 0⟩]

noncomputable def rmany_1 : List O := [
    ⟨(some (Pos.ofNat 7)), none, .mov (tm 0), true, 0⟩,
    ⟨(some (Pos.ofNat 5)), none, .mov (tm 7), true, 0⟩]

noncomputable def rmany_2 : List O := [
    ⟨(some (Pos.ofNat 6)), none, .mov (vl (int64 (0))), true, 0⟩]

noncomputable def rmany_3 : List O := [
    ⟨(some (Pos.ofNat 8)), none, .mov (tm 6), true, 0⟩,
    ⟨(some (Pos.ofNat 9)), none, .mov (tm 1), true, 0⟩,
    ⟨(some (Pos.ofNat 10)), none, .lenL (tm 9), true, 0⟩,
    ⟨(some (Pos.ofNat 11)), none, .bin .lss .other false (tm 8) (tm 10), true, 0⟩]

noncomputable def rmany_4 : List O := [
    ⟨(some (Pos.ofNat 14)), none, .mov (tm 5), true, 0⟩,
    ⟨(some (Pos.ofNat 15)), none, .mov (tm 1), true, 0⟩,
    ⟨(some (Pos.ofNat 16)), none, .mov (tm 6), true, 0⟩,
    ⟨(some (Pos.ofNat 17)), none, .idxAddrSl 1 (tm 15) (tm 16), true, 0⟩,
    ⟨(some (Pos.ofNat 18)), none, .load1 (tm 17), true, 0⟩,
    ⟨(some (Pos.ofNat 19)), none, .mov (tm 0), true, 0⟩,
    ⟨(some (Pos.ofNat 20)), none, .bin .sub .other false (tm 18) (tm 19), true, 0⟩,
    ⟨(some (Pos.ofNat 21)), none, .bin .add .other false (tm 14) (tm 20), true, 0⟩,
    ⟨(some (Pos.ofNat 5)), none, .mov (tm 21), true, 0⟩]

noncomputable def rmany_5 : List O := [
    ⟨(some (Pos.ofNat 12)), none, .mov (tm 6), true, 0⟩,
    ⟨(some (Pos.ofNat 13)), none, .bin .add .other true (tm 12) (vl (int64 (1))), true, 0⟩,
    ⟨(some (Pos.ofNat 6)), none, .mov (tm 13), true, 0⟩]

noncomputable def rmany_6 : C := (.seq (.seq (.region rmany_3) (.cond (tm 11) .skip (.exit 0))) (.seq (.block 1 (.region rmany_4)) (.region rmany_5)))

noncomputable def rmany_7 : List O := [
    ⟨(some (Pos.ofNat 22)), none, .mov (tm 5), true, 0⟩,
    ⟨(some (Pos.ofNat 4)), none, .mov (tm 22), true, 0⟩]

noncomputable def rmany_fu : Fu := ⟨[.tmp (Pos.ofNat 4)], 23, (.seq (.region rmany_0) (.seq (.region rmany_1) (.seq (.seq (.region rmany_2) (.block 0 (.loop rmany_6))) (.seq (.region rmany_7) .ret))))⟩

theorem rmany_code : compFn Try.prog 11 = some rmany_fu := by kernel_rfl

/-! (some estuary/estuaryref10.Same) -/

noncomputable def same_0 : List O := [
    ⟨(some (Pos.ofNat 4)), none, .mov (vl (.bool false)), true, 0⟩]

noncomputable def same_1 : List O := [
    ⟨(some (Pos.ofNat 6)), none, .mov (tm 0), true, 0⟩,
    ⟨(some (Pos.ofNat 7)), none, .lenL (tm 6), true, 0⟩,
    ⟨(some (Pos.ofNat 8)), none, .mov (tm 1), true, 0⟩,
    ⟨(some (Pos.ofNat 9)), none, .lenL (tm 8), true, 0⟩,
    ⟨(some (Pos.ofNat 10)), none, .bin .neq .other false (tm 7) (tm 9), true, 0⟩]

noncomputable def same_2 : List O := [
    ⟨(some (Pos.ofNat 4)), none, .mov (vl (.bool false)), true, 0⟩]

noncomputable def same_3 : List O := [
    ⟨(some (Pos.ofNat 5)), none, .mov (vl (int64 (0))), true, 0⟩]

noncomputable def same_4 : List O := [
    ⟨(some (Pos.ofNat 11)), none, .mov (tm 5), true, 0⟩,
    ⟨(some (Pos.ofNat 12)), none, .mov (tm 0), true, 0⟩,
    ⟨(some (Pos.ofNat 13)), none, .lenL (tm 12), true, 0⟩,
    ⟨(some (Pos.ofNat 14)), none, .bin .lss .other false (tm 11) (tm 13), true, 0⟩]

noncomputable def same_5 : List O := [
    ⟨(some (Pos.ofNat 17)), none, .mov (tm 0), true, 0⟩,
    ⟨(some (Pos.ofNat 18)), none, .mov (tm 5), true, 0⟩,
    ⟨(some (Pos.ofNat 19)), none, .idxAddrSl 1 (tm 17) (tm 18), true, 3⟩,
    ⟨(some (Pos.ofNat 20)), none, .load1 (tm 19), true, 7⟩,
    ⟨(some (Pos.ofNat 21)), none, .mov (tm 1), true, 0⟩,
    ⟨(some (Pos.ofNat 22)), none, .mov (tm 5), true, 0⟩,
    ⟨(some (Pos.ofNat 23)), none, .idxAddrSl 1 (tm 21) (tm 22), true, 48⟩,
    ⟨(some (Pos.ofNat 24)), none, .load1 (tm 23), true, 112⟩,
    ⟨(some (Pos.ofNat 25)), none, .bin .neq .other false (tm 20) (tm 24), true, 255⟩]

noncomputable def same_6 : List O := [
    ⟨(some (Pos.ofNat 4)), none, .mov (vl (.bool false)), true, 0⟩]

noncomputable def same_7 : List O := [
    ⟨(some (Pos.ofNat 15)), none, .mov (tm 5), true, 0⟩,
    ⟨(some (Pos.ofNat 16)), none, .bin .add .other true (tm 15) (vl (int64 (1))), true, 0⟩,
    ⟨(some (Pos.ofNat 5)), none, .mov (tm 16), true, 0⟩]

noncomputable def same_8 : C := (.seq (.seq (.region same_4) (.cond (tm 14) .skip (.exit 0))) (.seq (.block 1 (.seq (.drawn same_5) (.cond (tm 25) (.seq (.region same_6) .ret) .skip))) (.region same_7)))

noncomputable def same_9 : List O := [
    ⟨(some (Pos.ofNat 4)), none, .mov (vl (.bool true)), true, 0⟩]

noncomputable def same_fu : Fu := ⟨[.tmp (Pos.ofNat 4)], 26, (.seq (.region same_0) (.seq (.seq (.region same_1) (.cond (tm 10) (.seq (.region same_2) .ret) .skip)) (.seq (.seq (.region same_3) (.block 0 (.loop same_8))) (.seq (.region same_9) .ret))))⟩

theorem same_code : compFn Try.prog 9 = some same_fu := by kernel_rfl

/-! (some estuary/counter.Sum) -/

noncomputable def sum_0 : List O := [
    ⟨(some (Pos.ofNat 2)), none, .mov (vl (int64 (0))), true, 0⟩]

noncomputable def sum_1 : List O := [
    ⟨(some (Pos.ofNat 3)), none, .new [(int64 (0))], true, 0⟩,
    ⟨none, none, .store 1 (tm 3) (vl (int64 (0))), true, 0⟩]

noncomputable def sum_2 : List O := [
    ⟨(some (Pos.ofNat 6)), none, .mov (tm 0), true, 0⟩,
    ⟨(some (Pos.ofNat 7)), none, .call (.value (vl (.fn (.func 15) [] []))) [(vl (int64 (0))), (tm 6)], true, 0⟩]

noncomputable def sum_3 : List O := [
    ⟨(some (Pos.ofNat 5)), none, .mov (tm 9), true, 0⟩]

noncomputable def sum_4 : C := (.region sum_3)

noncomputable def sum_5 : List O := [
    ⟨(some (Pos.ofNat 10)), none, .mov (tm 5), true, 0⟩,
    ⟨none, none, .store 1 (tm 3) (tm 10), true, 0⟩]

noncomputable def sum_6 : C := (.block 1 (.region sum_5))

noncomputable def sum_7 : List O := [
    ⟨(some (Pos.ofNat 11)), none, .load1 (tm 3), true, 0⟩,
    ⟨(some (Pos.ofNat 2)), none, .mov (tm 11), true, 0⟩]

noncomputable def sum_fu : Fu := ⟨[.tmp (Pos.ofNat 2)], 12, (.seq (.region sum_0) (.seq (.region sum_1) (.seq (.seq (.region sum_2) (.block 0 (.rangeFunc (tm 7) [(Pos.ofNat 8), (Pos.ofNat 9)] sum_4 sum_6))) (.seq (.region sum_7) .ret))))⟩

theorem sum_code : compFn Try.prog 7 = some sum_fu := by kernel_rfl

/-! (some estuary/counter.Steps) -/

noncomputable def steps_0 : List O := [
    ⟨(some (Pos.ofNat 2)), none, .box (tm 0), true, 0⟩,
    ⟨(some (Pos.ofNat 4)), none, .mov (vl .nilFn), true, 0⟩]

noncomputable def steps_1 : List O := [
    ⟨(some (Pos.ofNat 6)), none, .buildSl 0 1 [(int64 (0))] [], true, 0⟩,
    ⟨(some (Pos.ofNat 7)), none, .mov (tm 1), true, 0⟩,
    ⟨(some (Pos.ofNat 8)), none, .append 1 8 (tm 6) (tm 7), true, 0⟩,
    ⟨(some (Pos.ofNat 5)), none, .new [.nilSl], true, 0⟩,
    ⟨none, none, .store 1 (tm 5) (tm 8), true, 0⟩]

noncomputable def steps_2 : List O := [
    ⟨(some (Pos.ofNat 9)), none, .mkFn (.func 19) [] [(tm 2), (tm 5)], true, 0⟩,
    ⟨(some (Pos.ofNat 4)), none, .mov (tm 9), true, 0⟩]

noncomputable def steps_fu : Fu := ⟨[.tmp (Pos.ofNat 4)], 10, (.seq (.region steps_0) (.seq (.region steps_1) (.seq (.region steps_2) .ret)))⟩

theorem steps_code : compFn Try.prog 15 = some steps_fu := by kernel_rfl

/-! (some estuary/counter.Steps$1) -/

noncomputable def stepsA_0 : List O := [
    ⟨(some (Pos.ofNat 8)), none, .load1 (tm 1), true, 0⟩,
    ⟨(some (Pos.ofNat 4)), none, .new [(int64 (0))], true, 0⟩,
    ⟨none, none, .store 1 (tm 4) (tm 8), true, 0⟩]

noncomputable def stepsA_1 : List O := [
    ⟨(some (Pos.ofNat 9)), none, .mkFn (.func 20) [] [(tm 4)], true, 0⟩,
    ⟨(some (Pos.ofNat 5)), none, .mov (tm 9), true, 0⟩]

noncomputable def stepsA_2 : List O := [
    ⟨(some (Pos.ofNat 10)), none, .load1 (tm 2), true, 0⟩,
    ⟨(some (Pos.ofNat 11)), none, .lenL (tm 10), true, 0⟩,
    ⟨(some (Pos.ofNat 12)), none, .mov (vl (int64 (0))), true, 0⟩]

noncomputable def stepsA_3 : List O := [
    ⟨(some (Pos.ofNat 13)), none, .bin .lss .other false (tm 12) (tm 11), true, 0⟩]

noncomputable def stepsA_4 : List O := [
    ⟨(some (Pos.ofNat 14)), none, .mov (tm 12), true, 0⟩,
    ⟨(some (Pos.ofNat 15)), none, .idxAddrSl 1 (tm 10) (tm 12), true, 0⟩,
    ⟨(some (Pos.ofNat 16)), none, .load1 (tm 15), true, 0⟩,
    ⟨(some (Pos.ofNat 6)), none, .mov (tm 14), true, 0⟩,
    ⟨(some (Pos.ofNat 7)), none, .mov (tm 16), true, 0⟩]

noncomputable def stepsA_5 : List O := [
    ⟨(some (Pos.ofNat 17)), none, .mov (tm 0), true, 0⟩,
    ⟨(some (Pos.ofNat 18)), none, .mov (tm 6), true, 0⟩,
    ⟨(some (Pos.ofNat 19)), none, .mov (tm 5), true, 0⟩,
    ⟨(some (Pos.ofNat 20)), none, .mov (tm 7), true, 0⟩,
    ⟨(some (Pos.ofNat 21)), none, .call (.value (tm 19)) [(tm 20)], true, 0⟩,
    ⟨(some (Pos.ofNat 22)), none, .call (.value (tm 17)) [(tm 18), (tm 21)], true, 0⟩,
    ⟨(some (Pos.ofNat 23)), none, .un .not (tm 22), true, 0⟩]

noncomputable def stepsA_6 : List O := [
    ⟨(some (Pos.ofNat 24)), none, .bin .add .other true (tm 12) (vl (int64 (1))), true, 0⟩,
    ⟨(some (Pos.ofNat 12)), none, .mov (tm 24), true, 0⟩]

noncomputable def stepsA_7 : C := (.seq (.region stepsA_3) (.seq (.cond (tm 13) .skip (.exit 0)) (.seq (.block 1 (.seq (.region stepsA_4) (.seq (.region stepsA_5) (.cond (tm 23) .ret .skip)))) (.region stepsA_6))))

noncomputable def stepsA_fu : Fu := ⟨[], 25, (.seq (.region stepsA_0) (.seq (.region stepsA_1) (.seq (.region stepsA_2) (.block 0 (.loop stepsA_7)))))⟩

theorem stepsA_code : compFn Try.prog 19 = some stepsA_fu := by kernel_rfl

/-! (some estuary/counter.Steps$1$1) -/

noncomputable def stepsB_0 : List O := [
    ⟨(some (Pos.ofNat 3)), none, .mov (vl (int64 (0))), true, 0⟩]

noncomputable def stepsB_1 : List O := [
    ⟨(some (Pos.ofNat 4)), none, .load1 (tm 1), true, 0⟩,
    ⟨(some (Pos.ofNat 5)), none, .mov (tm 0), true, 0⟩,
    ⟨(some (Pos.ofNat 6)), none, .bin .add .other false (tm 4) (tm 5), true, 0⟩,
    ⟨none, none, .store 1 (tm 1) (tm 6), true, 0⟩]

noncomputable def stepsB_2 : List O := [
    ⟨(some (Pos.ofNat 7)), none, .load1 (tm 1), true, 0⟩,
    ⟨(some (Pos.ofNat 3)), none, .mov (tm 7), true, 0⟩]

noncomputable def stepsB_fu : Fu := ⟨[.tmp (Pos.ofNat 3)], 8, (.seq (.region stepsB_0) (.seq (.region stepsB_1) (.seq (.region stepsB_2) .ret)))⟩

theorem stepsB_code : compFn Try.prog 20 = some stepsB_fu := by kernel_rfl

/-! (some estuary/counter.Split) -/

noncomputable def split_0 : List O := [
    ⟨(some (Pos.ofNat 4)), none, .mov (vl .nilSl), true, 0⟩]

noncomputable def split_1 : List O := [
    ⟨(some (Pos.ofNat 9)), none, .mov (tm 1), true, 0⟩,
    ⟨(some (Pos.ofNat 10)), none, .bin .lss .other true (tm 9) (vl (int64 (1))), true, 0⟩,
    ⟨(some (Pos.ofNat 11)), none, .mov (tm 10), true, 0⟩,
    ⟨(some (Pos.ofNat 12)), (some ((Pos.ofNat 11), false)), .mov (tm 1), true, 0⟩,
    ⟨(some (Pos.ofNat 13)), (some ((Pos.ofNat 11), false)), .bin .gtr .other true (tm 12) (vl (int64 (64))), true, 0⟩,
    ⟨(some (Pos.ofNat 14)), none, .pick (tm 11) (vl (.bool true)) (tm 13), true, 0⟩]

noncomputable def split_2 : List O := [
    ⟨(some (Pos.ofNat 4)), none, .mov (vl .nilSl), true, 0⟩]

noncomputable def split_3 : List O := [
    ⟨(some (Pos.ofNat 15)), none, .mov (tm 1), true, 0⟩,
    ⟨(some (Pos.ofNat 5)), none, .mov (tm 15), true, 0⟩]

noncomputable def split_4 : List O := [
    ⟨(some (Pos.ofNat 16)), none, .mov (tm 1), true, 0⟩,
    ⟨(some (Pos.ofNat 17)), none, .mkSl 1 8 [(int64 (0))] (tm 16) (tm 16), true, 0⟩,
    ⟨(some (Pos.ofNat 6)), none, .mov (tm 17), true, 0⟩]

noncomputable def split_5 : List O := [
    ⟨(some (Pos.ofNat 18)), none, .mov (tm 6), true, 0⟩,
    ⟨(some (Pos.ofNat 19)), none, .lenL (tm 18), true, 0⟩,
    ⟨(some (Pos.ofNat 20)), none, .mov (vl (int64 (0))), true, 0⟩]

noncomputable def split_6 : List O := [
    ⟨(some (Pos.ofNat 21)), none, .bin .lss .other false (tm 20) (tm 19), true, 0⟩]

noncomputable def split_7 : List O := [
    ⟨(some (Pos.ofNat 22)), none, .mov (tm 20), true, 0⟩,
    ⟨(some (Pos.ofNat 7)), none, .mov (tm 22), true, 0⟩]

noncomputable def split_8 : List O := [
    ⟨(some (Pos.ofNat 23)), none, .mov (tm 6), true, 0⟩,
    ⟨(some (Pos.ofNat 24)), none, .mov (tm 7), true, 0⟩,
    ⟨(some (Pos.ofNat 25)), none, .mov (tm 0), true, 0⟩,
    ⟨(some (Pos.ofNat 26)), none, .mov (tm 5), true, 0⟩,
    ⟨(some (Pos.ofNat 27)), none, .bin .quo .other false (tm 25) (tm 26), true, 0⟩,
    ⟨(some (Pos.ofNat 28)), none, .idxAddrSl 1 (tm 23) (tm 24), true, 0⟩,
    ⟨none, none, .store 1 (tm 28) (tm 27), true, 0⟩]

noncomputable def split_9 : List O := [
    ⟨(some (Pos.ofNat 29)), none, .mov (tm 0), true, 0⟩,
    ⟨(some (Pos.ofNat 30)), none, .mov (tm 5), true, 0⟩,
    ⟨(some (Pos.ofNat 31)), none, .bin .rem .other false (tm 29) (tm 30), true, 0⟩,
    ⟨(some (Pos.ofNat 8)), none, .mov (tm 31), true, 0⟩]

noncomputable def split_10 : List O := [
    ⟨(some (Pos.ofNat 33)), none, .mov (tm 7), true, 0⟩,
    ⟨(some (Pos.ofNat 34)), none, .mov (tm 8), true, 0⟩,
    ⟨(some (Pos.ofNat 35)), none, .bin .lss .other false (tm 33) (tm 34), true, 0⟩,
    ⟨(some (Pos.ofNat 32)), none, .mov (tm 35), true, 0⟩]

noncomputable def split_11 : List O := [
    ⟨(some (Pos.ofNat 36)), none, .mov (tm 6), true, 0⟩,
    ⟨(some (Pos.ofNat 37)), none, .mov (tm 7), true, 0⟩,
    ⟨(some (Pos.ofNat 38)), none, .idxAddrSl 1 (tm 36) (tm 37), true, 0⟩,
    ⟨(some (Pos.ofNat 39)), none, .load1 (tm 38), true, 0⟩,
    ⟨(some (Pos.ofNat 40)), none, .bin .add .other true (tm 39) (vl (int64 (1))), true, 0⟩,
    ⟨(some (Pos.ofNat 41)), none, .idxAddrSl 1 (tm 36) (tm 37), true, 0⟩,
    ⟨none, none, .store 1 (tm 41) (tm 40), true, 0⟩]

noncomputable def split_12 : List O := [
    ⟨(some (Pos.ofNat 43)), none, .mov (tm 7), true, 0⟩,
    ⟨(some (Pos.ofNat 44)), none, .mov (tm 8), true, 0⟩,
    ⟨(some (Pos.ofNat 45)), none, .un .neg (tm 44), true, 0⟩,
    ⟨(some (Pos.ofNat 46)), none, .bin .lss .other false (tm 43) (tm 45), true, 0⟩,
    ⟨(some (Pos.ofNat 42)), none, .mov (tm 46), true, 0⟩]

noncomputable def split_13 : List O := [
    ⟨(some (Pos.ofNat 47)), none, .mov (tm 6), true, 0⟩,
    ⟨(some (Pos.ofNat 48)), none, .mov (tm 7), true, 0⟩,
    ⟨(some (Pos.ofNat 49)), none, .idxAddrSl 1 (tm 47) (tm 48), true, 0⟩,
    ⟨(some (Pos.ofNat 50)), none, .load1 (tm 49), true, 0⟩,
    ⟨(some (Pos.ofNat 51)), none, .bin .sub .other true (tm 50) (vl (int64 (1))), true, 0⟩,
    ⟨(some (Pos.ofNat 52)), none, .idxAddrSl 1 (tm 47) (tm 48), true, 0⟩,
    ⟨none, none, .store 1 (tm 52) (tm 51), true, 0⟩]

noncomputable def split_14 : List O := [
    ⟨(some (Pos.ofNat 53)), none, .bin .add .other true (tm 20) (vl (int64 (1))), true, 0⟩,
    ⟨(some (Pos.ofNat 20)), none, .mov (tm 53), true, 0⟩]

noncomputable def split_15 : C := (.seq (.region split_6) (.seq (.cond (tm 21) .skip (.exit 0)) (.seq (.block 1 (.seq (.region split_7) (.seq (.region split_8) (.seq (.region split_9) (.block 2 (.seq (.region split_10) (.cond (tm 32) (.region split_11) (.seq (.region split_12) (.cond (tm 42) (.region split_13) .skip))))))))) (.region split_14))))

noncomputable def split_16 : List O := [
    ⟨(some (Pos.ofNat 54)), none, .mov (tm 6), true, 0⟩,
    ⟨(some (Pos.ofNat 4)), none, .mov (tm 54), true, 0⟩]

noncomputable def split_fu : Fu := ⟨[.tmp (Pos.ofNat 4)], 55, (.seq (.region split_0) (.seq (.seq (.region split_1) (.cond (tm 14) (.seq (.region split_2) .ret) .skip)) (.seq (.region split_3) (.seq (.region split_4) (.seq (.seq (.region split_5) (.block 0 (.loop split_15))) (.seq (.region split_16) .ret))))))⟩

theorem split_code : compFn Try.prog 16 = some split_fu := by kernel_rfl

/-! (some estuary/estuaryref10.Split) -/

noncomputable def rsplit_0 : List O := [
    ⟨(some (Pos.ofNat 4)), none, .mov (vl .nilSl), true, 0⟩]

noncomputable def rsplit_1 : List O := [
    ⟨(some (Pos.ofNat 11)), none, .mov (tm 1), true, 0⟩,
    ⟨(some (Pos.ofNat 12)), none, .bin .lss .other true (tm 11) (vl (int64 (1))), true, 0⟩,
    ⟨(some (Pos.ofNat 13)), none, .mov (tm 12), true, 0⟩,
    ⟨(some (Pos.ofNat 14)), (some ((Pos.ofNat 13), false)), .mov (tm 1), true, 0⟩,
    ⟨(some (Pos.ofNat 15)), (some ((Pos.ofNat 13), false)), .bin .gtr .other true (tm 14) (vl (int64 (64))), true, 0⟩,
    ⟨(some (Pos.ofNat 16)), none, .pick (tm 13) (vl (.bool true)) (tm 15), true, 0⟩]

noncomputable def rsplit_2 : List O := [
    ⟨(some (Pos.ofNat 4)), none, .mov (vl .nilSl), true, 0⟩]

noncomputable def rsplit_3 : List O := [
    ⟨(some (Pos.ofNat 17)), none, .mov (tm 1), true, 0⟩,
    ⟨(some (Pos.ofNat 5)), none, .mov (tm 17), true, 0⟩]

noncomputable def rsplit_4 : List O := [
    ⟨(some (Pos.ofNat 18)), none, .mov (tm 0), true, 0⟩,
    ⟨(some (Pos.ofNat 19)), none, .mov (tm 5), true, 0⟩,
    ⟨(some (Pos.ofNat 20)), none, .bin .quo .other false (tm 18) (tm 19), true, 3⟩,
    ⟨(some (Pos.ofNat 21)), none, .mov (tm 0), true, 0⟩,
    ⟨(some (Pos.ofNat 22)), none, .mov (tm 5), true, 0⟩,
    ⟨(some (Pos.ofNat 23)), none, .bin .rem .other false (tm 21) (tm 22), true, 24⟩,
    ⟨(some (Pos.ofNat 6)), none, .mov (tm 20), true, 7⟩,
    ⟨(some (Pos.ofNat 7)), none, .mov (tm 23), true, 127⟩]

noncomputable def rsplit_5 : List O := [
    ⟨(some (Pos.ofNat 8)), none, .mov (vl .nilSl), true, 0⟩]

noncomputable def rsplit_6 : List O := [
    ⟨(some (Pos.ofNat 9)), none, .mov (vl (int64 (0))), true, 0⟩]

noncomputable def rsplit_7 : List O := [
    ⟨(some (Pos.ofNat 24)), none, .mov (tm 9), true, 0⟩,
    ⟨(some (Pos.ofNat 25)), none, .mov (tm 5), true, 0⟩,
    ⟨(some (Pos.ofNat 26)), none, .bin .lss .other false (tm 24) (tm 25), true, 0⟩]

noncomputable def rsplit_8 : List O := [
    ⟨(some (Pos.ofNat 29)), none, .mov (tm 6), true, 0⟩,
    ⟨(some (Pos.ofNat 10)), none, .mov (tm 29), true, 0⟩]

noncomputable def rsplit_9 : List O := [
    ⟨(some (Pos.ofNat 30)), none, .mov (tm 9), true, 0⟩,
    ⟨(some (Pos.ofNat 31)), none, .mov (tm 7), true, 0⟩,
    ⟨(some (Pos.ofNat 32)), none, .bin .lss .other false (tm 30) (tm 31), true, 0⟩]

noncomputable def rsplit_10 : List O := [
    ⟨(some (Pos.ofNat 33)), none, .mov (tm 10), true, 0⟩,
    ⟨(some (Pos.ofNat 34)), none, .bin .add .other true (tm 33) (vl (int64 (1))), true, 0⟩,
    ⟨(some (Pos.ofNat 10)), none, .mov (tm 34), true, 0⟩]

noncomputable def rsplit_11 : List O := [
    ⟨(some (Pos.ofNat 35)), none, .mov (tm 9), true, 0⟩,
    ⟨(some (Pos.ofNat 36)), none, .mov (tm 7), true, 0⟩,
    ⟨(some (Pos.ofNat 37)), none, .un .neg (tm 36), true, 0⟩,
    ⟨(some (Pos.ofNat 38)), none, .bin .lss .other false (tm 35) (tm 37), true, 0⟩]

noncomputable def rsplit_12 : List O := [
    ⟨(some (Pos.ofNat 39)), none, .mov (tm 10), true, 0⟩,
    ⟨(some (Pos.ofNat 40)), none, .bin .sub .other true (tm 39) (vl (int64 (1))), true, 0⟩,
    ⟨(some (Pos.ofNat 10)), none, .mov (tm 40), true, 0⟩]

noncomputable def rsplit_13 : List O := [
    ⟨(some (Pos.ofNat 41)), none, .mov (tm 8), true, 0⟩,
    ⟨(some (Pos.ofNat 42)), none, .mov (tm 10), true, 0⟩,
    ⟨(some (Pos.ofNat 43)), none, .buildSl 1 1 [(int64 (0))] [(0, 1, (tm 42))], true, 0⟩,
    ⟨(some (Pos.ofNat 44)), none, .append 1 8 (tm 41) (tm 43), true, 0⟩,
    ⟨(some (Pos.ofNat 8)), none, .mov (tm 44), true, 0⟩]

noncomputable def rsplit_14 : List O := [
    ⟨(some (Pos.ofNat 27)), none, .mov (tm 9), true, 0⟩,
    ⟨(some (Pos.ofNat 28)), none, .bin .add .other true (tm 27) (vl (int64 (1))), true, 0⟩,
    ⟨(some (Pos.ofNat 9)), none, .mov (tm 28), true, 0⟩]

noncomputable def rsplit_15 : C := (.seq (.seq (.region rsplit_7) (.cond (tm 26) .skip (.exit 0))) (.seq (.block 1 (.seq (.region rsplit_8) (.seq (.seq (.region rsplit_9) (.cond (tm 32) (.region rsplit_10) .skip)) (.seq (.seq (.region rsplit_11) (.cond (tm 38) (.region rsplit_12) .skip)) (.region rsplit_13))))) (.region rsplit_14)))

noncomputable def rsplit_16 : List O := [
    ⟨(some (Pos.ofNat 45)), none, .mov (tm 8), true, 0⟩,
    ⟨(some (Pos.ofNat 4)), none, .mov (tm 45), true, 0⟩]

noncomputable def rsplit_fu : Fu := ⟨[.tmp (Pos.ofNat 4)], 46, (.seq (.region rsplit_0) (.seq (.seq (.region rsplit_1) (.cond (tm 16) (.seq (.region rsplit_2) .ret) .skip)) (.seq (.region rsplit_3) (.seq (.drawn rsplit_4) (.seq (.region rsplit_5) (.seq (.seq (.region rsplit_6) (.block 0 (.loop rsplit_15))) (.seq (.region rsplit_16) .ret)))))))⟩

theorem rsplit_code : compFn Try.prog 17 = some rsplit_fu := by kernel_rfl

/-! (some estuary/estuarylaw10.whole) -/

noncomputable def whole_0 : List O := [
    ⟨(some (Pos.ofNat 4)), none, .mov (vl (int64 (0))), true, 0⟩]

noncomputable def whole_1 : List O := [
    ⟨(some (Pos.ofNat 5)), none, .mov (tm 1), true, 0⟩,
    ⟨(some (Pos.ofNat 6)), none, .bin .gtr .other true (tm 5) (vl (int64 (64))), true, 0⟩]

noncomputable def whole_2 : List O := [
    ⟨(some (Pos.ofNat 4)), none, .mov (vl (int64 (0))), true, 0⟩]

noncomputable def whole_3 : List O := [
    ⟨(some (Pos.ofNat 7)), none, .mov (tm 0), true, 0⟩,
    ⟨(some (Pos.ofNat 4)), none, .mov (tm 7), true, 0⟩]

noncomputable def whole_fu : Fu := ⟨[.tmp (Pos.ofNat 4)], 8, (.seq (.region whole_0) (.seq (.seq (.region whole_1) (.cond (tm 6) (.seq (.region whole_2) .ret) .skip)) (.seq (.region whole_3) .ret)))⟩

theorem whole_code : compFn Try.prog 18 = some whole_fu := by kernel_rfl

/-! (some estuary/estuarylaw10.CounterSums) -/

noncomputable def lsums_0 : List O := [
    ⟨(some (Pos.ofNat 4)), none, .box (tm 1), true, 0⟩,
    ⟨(some (Pos.ofNat 6)), none, .mov (vl (.bool false)), true, 0⟩]

noncomputable def lsums_1 : List O := [
    ⟨(some (Pos.ofNat 10)), none, .mov (tm 2), true, 0⟩,
    ⟨(some (Pos.ofNat 11)), none, .lenL (tm 10), true, 0⟩,
    ⟨(some (Pos.ofNat 12)), none, .bin .gtr .other true (tm 11) (vl (int64 (1000))), true, 0⟩]

noncomputable def lsums_2 : List O := [
    ⟨(some (Pos.ofNat 13)), none, .call (.value (vl (.fn (.func 6) [] []))) [], true, 0⟩,
    ⟨(some (Pos.ofNat 6)), none, .mov (tm 13), true, 0⟩]

noncomputable def lsums_3 : List O := [
    ⟨(some (Pos.ofNat 14)), none, .mov (tm 2), true, 0⟩,
    ⟨(some (Pos.ofNat 15)), none, .append 1 8 (vl .nilSl) (tm 14), true, 0⟩,
    ⟨(some (Pos.ofNat 16)), none, .buildSl 1 1 [(int64 (0))] [(0, 1, (vl (int64 (77))))], true, 0⟩,
    ⟨(some (Pos.ofNat 17)), none, .append 1 8 (tm 15) (tm 16), true, 0⟩,
    ⟨(some (Pos.ofNat 7)), none, .mov (tm 17), true, 0⟩]

noncomputable def lsums_4 : List O := [
    ⟨(some (Pos.ofNat 18)), none, .mov (tm 7), true, 0⟩,
    ⟨(some (Pos.ofNat 19)), none, .mov (tm 2), true, 0⟩,
    ⟨(some (Pos.ofNat 20)), none, .lenL (tm 19), true, 0⟩,
    ⟨(some (Pos.ofNat 21)), none, .sliceSl 1 (tm 18) none (some (tm 20)) none, true, 0⟩,
    ⟨(some (Pos.ofNat 22)), none, .call (.value (vl (.fn (.func 7) [] []))) [(tm 21)], true, 0⟩,
    ⟨(some (Pos.ofNat 8)), none, .mov (tm 22), true, 0⟩]

noncomputable def lsums_5 : List O := [
    ⟨(some (Pos.ofNat 23)), none, .mov (tm 0), true, 0⟩,
    ⟨(some (Pos.ofNat 24)), none, .mov (tm 7), true, 0⟩,
    ⟨(some (Pos.ofNat 25)), none, .mov (tm 2), true, 0⟩,
    ⟨(some (Pos.ofNat 26)), none, .lenL (tm 25), true, 0⟩,
    ⟨(some (Pos.ofNat 27)), none, .sliceSl 1 (tm 24) none (some (tm 26)) none, true, 0⟩,
    ⟨(some (Pos.ofNat 28)), none, .call (.value (vl (.fn (.func 8) [] []))) [(tm 23), (tm 27)], true, 0⟩,
    ⟨(some (Pos.ofNat 9)), none, .mov (tm 28), true, 0⟩]

noncomputable def lsums_6 : List O := [
    ⟨(some (Pos.ofNat 29)), none, .mov (tm 7), true, 0⟩,
    ⟨(some (Pos.ofNat 30)), none, .mov (tm 2), true, 0⟩,
    ⟨(some (Pos.ofNat 31)), none, .lenL (tm 30), true, 0⟩,
    ⟨(some (Pos.ofNat 32)), none, .sliceSl 1 (tm 29) none (some (tm 31)) none, true, 0⟩,
    ⟨(some (Pos.ofNat 33)), none, .mov (tm 2), true, 0⟩,
    ⟨(some (Pos.ofNat 34)), none, .call (.value (vl (.fn (.func 9) [] []))) [(tm 32), (tm 33)], true, 0⟩,
    ⟨(some (Pos.ofNat 35)), none, .un .not (tm 34), true, 0⟩,
    ⟨(some (Pos.ofNat 36)), none, .mov (tm 35), true, 0⟩,
    ⟨(some (Pos.ofNat 37)), (some ((Pos.ofNat 36), false)), .mov (tm 7), true, 0⟩,
    ⟨(some (Pos.ofNat 38)), (some ((Pos.ofNat 36), false)), .mov (tm 2), true, 0⟩,
    ⟨(some (Pos.ofNat 39)), (some ((Pos.ofNat 36), false)), .lenL (tm 38), true, 0⟩,
    ⟨(some (Pos.ofNat 40)), (some ((Pos.ofNat 36), false)), .idxAddrSl 1 (tm 37) (tm 39), true, 0⟩,
    ⟨(some (Pos.ofNat 41)), (some ((Pos.ofNat 36), false)), .load1 (tm 40), true, 0⟩,
    ⟨(some (Pos.ofNat 42)), (some ((Pos.ofNat 36), false)), .bin .neq .other true (tm 41) (vl (int64 (77))), true, 0⟩,
    ⟨(some (Pos.ofNat 43)), none, .pick (tm 36) (vl (.bool true)) (tm 42), true, 0⟩]

noncomputable def lsums_7 : List O := [
    ⟨(some (Pos.ofNat 6)), none, .mov (vl (.bool false)), true, 0⟩]

noncomputable def lsums_8 : List O := [
    ⟨(some (Pos.ofNat 44)), none, .mov (tm 8), true, 0⟩,
    ⟨(some (Pos.ofNat 45)), none, .mov (tm 2), true, 0⟩,
    ⟨(some (Pos.ofNat 46)), none, .call (.value (vl (.fn (.func 10) [] []))) [(tm 45)], true, 2⟩,
    ⟨(some (Pos.ofNat 47)), none, .bin .eql .other false (tm 44) (tm 46), true, 7⟩,
    ⟨(some (Pos.ofNat 48)), none, .mov (tm 47), true, 15⟩,
    ⟨(some (Pos.ofNat 49)), (some ((Pos.ofNat 48), true)), .mov (tm 9), true, 31⟩,
    ⟨(some (Pos.ofNat 50)), (some ((Pos.ofNat 48), true)), .mov (tm 0), true, 31⟩,
    ⟨(some (Pos.ofNat 51)), (some ((Pos.ofNat 48), true)), .mov (tm 2), true, 31⟩,
    ⟨(some (Pos.ofNat 52)), (some ((Pos.ofNat 48), true)), .call (.value (vl (.fn (.func 11) [] []))) [(tm 50), (tm 51)], true, 223⟩,
    ⟨(some (Pos.ofNat 53)), (some ((Pos.ofNat 48), true)), .bin .eql .other false (tm 49) (tm 52), true, 511⟩,
    ⟨(some (Pos.ofNat 54)), none, .pick (tm 48) (tm 53) (vl (.bool false)), true, 1023⟩,
    ⟨(some (Pos.ofNat 55)), none, .mov (tm 54), true, 2047⟩,
    ⟨(some (Pos.ofNat 56)), (some ((Pos.ofNat 55), true)), .idxAddrArr 2 1 (tm 4) (vl (int64 (0))), true, 4095⟩,
    ⟨(some (Pos.ofNat 57)), (some ((Pos.ofNat 55), true)), .load1 (tm 56), true, 8191⟩,
    ⟨(some (Pos.ofNat 58)), (some ((Pos.ofNat 55), true)), .idxAddrArr 2 1 (tm 4) (vl (int64 (1))), true, 4095⟩,
    ⟨(some (Pos.ofNat 59)), (some ((Pos.ofNat 55), true)), .load1 (tm 58), true, 20479⟩,
    ⟨(some (Pos.ofNat 60)), (some ((Pos.ofNat 55), true)), .call (.value (vl (.fn (.func 12) [] []))) [(tm 57), (tm 59)], true, 65535⟩,
    ⟨(some (Pos.ofNat 61)), (some ((Pos.ofNat 55), true)), .idxAddrArr 2 1 (tm 4) (vl (int64 (0))), true, 4095⟩,
    ⟨(some (Pos.ofNat 62)), (some ((Pos.ofNat 55), true)), .load1 (tm 61), true, 135167⟩,
    ⟨(some (Pos.ofNat 63)), (some ((Pos.ofNat 55), true)), .idxAddrArr 2 1 (tm 4) (vl (int64 (1))), true, 4095⟩,
    ⟨(some (Pos.ofNat 64)), (some ((Pos.ofNat 55), true)), .load1 (tm 63), true, 528383⟩,
    ⟨(some (Pos.ofNat 65)), (some ((Pos.ofNat 55), true)), .bin .add .other false (tm 62) (tm 64), true, 1970175⟩,
    ⟨(some (Pos.ofNat 66)), (some ((Pos.ofNat 55), true)), .bin .eql .other false (tm 60) (tm 65), true, 4194303⟩,
    ⟨(some (Pos.ofNat 67)), none, .pick (tm 55) (tm 66) (vl (.bool false)), true, 8388607⟩,
    ⟨(some (Pos.ofNat 68)), none, .mov (tm 67), true, 16777215⟩,
    ⟨(some (Pos.ofNat 69)), (some ((Pos.ofNat 68), true)), .mov (tm 0), true, 33554431⟩,
    ⟨(some (Pos.ofNat 70)), (some ((Pos.ofNat 68), true)), .idxAddrArr 2 1 (tm 4) (vl (int64 (0))), true, 33554431⟩,
    ⟨(some (Pos.ofNat 71)), (some ((Pos.ofNat 68), true)), .load1 (tm 70), true, 100663295⟩,
    ⟨(some (Pos.ofNat 72)), (some ((Pos.ofNat 68), true)), .call (.value (vl (.fn (.func 13) [] []))) [(tm 69), (tm 71)], true, 268435455⟩,
    ⟨(some (Pos.ofNat 73)), (some ((Pos.ofNat 68), true)), .idxAddrArr 2 1 (tm 4) (vl (int64 (0))), true, 33554431⟩,
    ⟨(some (Pos.ofNat 74)), (some ((Pos.ofNat 68), true)), .load1 (tm 73), true, 570425343⟩,
    ⟨(some (Pos.ofNat 75)), (some ((Pos.ofNat 68), true)), .mov (tm 0), true, 33554431⟩,
    ⟨(some (Pos.ofNat 76)), (some ((Pos.ofNat 68), true)), .bin .sub .other false (tm 74) (tm 75), true, 3791650815⟩,
    ⟨(some (Pos.ofNat 77)), (some ((Pos.ofNat 68), true)), .bin .eql .other false (tm 72) (tm 76), true, 8589934591⟩,
    ⟨(some (Pos.ofNat 78)), none, .pick (tm 68) (tm 77) (vl (.bool false)), true, 17179869183⟩,
    ⟨(some (Pos.ofNat 79)), none, .mov (tm 78), true, 34359738367⟩,
    ⟨(some (Pos.ofNat 80)), (some ((Pos.ofNat 79), true)), .mov (tm 0), true, 68719476735⟩,
    ⟨(some (Pos.ofNat 81)), (some ((Pos.ofNat 79), true)), .idxAddrArr 2 1 (tm 4) (vl (int64 (0))), true, 68719476735⟩,
    ⟨(some (Pos.ofNat 82)), (some ((Pos.ofNat 79), true)), .load1 (tm 81), true, 206158430207⟩,
    ⟨(some (Pos.ofNat 83)), (some ((Pos.ofNat 79), true)), .idxAddrArr 2 1 (tm 4) (vl (int64 (1))), true, 68719476735⟩,
    ⟨(some (Pos.ofNat 84)), (some ((Pos.ofNat 79), true)), .load1 (tm 83), true, 618475290623⟩,
    ⟨(some (Pos.ofNat 85)), (some ((Pos.ofNat 79), true)), .call (.value (vl (.fn (.func 14) [] []))) [(tm 80), (tm 82), (tm 84)], true, 2199023255551⟩,
    ⟨(some (Pos.ofNat 86)), (some ((Pos.ofNat 79), true)), .idxAddrArr 2 1 (tm 4) (vl (int64 (0))), true, 68719476735⟩,
    ⟨(some (Pos.ofNat 87)), (some ((Pos.ofNat 79), true)), .load1 (tm 86), true, 4466765987839⟩,
    ⟨(some (Pos.ofNat 88)), (some ((Pos.ofNat 79), true)), .idxAddrArr 2 1 (tm 4) (vl (int64 (1))), true, 68719476735⟩,
    ⟨(some (Pos.ofNat 89)), (some ((Pos.ofNat 79), true)), .load1 (tm 88), true, 17660905521151⟩,
    ⟨(some (Pos.ofNat 90)), (some ((Pos.ofNat 79), true)), .bin .add .other false (tm 87) (tm 89), true, 66039417143295⟩,
    ⟨(some (Pos.ofNat 91)), (some ((Pos.ofNat 79), true)), .mov (tm 0), true, 68719476735⟩,
    ⟨(some (Pos.ofNat 92)), (some ((Pos.ofNat 79), true)), .bin .sub .other false (tm 90) (tm 91), true, 277145649676287⟩,
    ⟨(some (Pos.ofNat 93)), (some ((Pos.ofNat 79), true)), .bin .eql .other false (tm 85) (tm 92), true, 562949953421311⟩,
    ⟨(some (Pos.ofNat 94)), none, .pick (tm 79) (tm 93) (vl (.bool false)), true, 1125899906842623⟩,
    ⟨(some (Pos.ofNat 95)), none, .mov (tm 94), true, 2251799813685247⟩,
    ⟨(some (Pos.ofNat 96)), (some ((Pos.ofNat 95), true)), .call (.value (vl (.fn (.func 6) [] []))) [], true, 4503599627370495⟩,
    ⟨(some (Pos.ofNat 97)), none, .pick (tm 95) (tm 96) (vl (.bool false)), true, 9007199254740991⟩,
    ⟨(some (Pos.ofNat 6)), none, .mov (tm 97), true, 18014398509481983⟩]

noncomputable def lsums_fu : Fu := ⟨[.tmp (Pos.ofNat 6)], 98, (.seq (.region lsums_0) (.seq (.seq (.region lsums_1) (.cond (tm 12) (.seq (.region lsums_2) .ret) .skip)) (.seq (.region lsums_3) (.seq (.region lsums_4) (.seq (.region lsums_5) (.seq (.seq (.region lsums_6) (.cond (tm 43) (.seq (.region lsums_7) .ret) .skip)) (.seq (.drawn lsums_8) .ret)))))))⟩

theorem lsums_code : compFn Try.prog 3 = some lsums_fu := by kernel_rfl

/-! (some estuary/estuarylaw10.CounterSteps) -/

noncomputable def lsteps_0 : List O := [
    ⟨(some (Pos.ofNat 3)), none, .box (tm 0), true, 0⟩,
    ⟨(some (Pos.ofNat 4)), none, .box (tm 1), true, 0⟩,
    ⟨(some (Pos.ofNat 5)), none, .box (tm 2), true, 0⟩,
    ⟨(some (Pos.ofNat 6)), none, .new [(.bool false)], true, 0⟩]

noncomputable def lsteps_1 : List O := [
    ⟨(some (Pos.ofNat 14)), none, .load1 (tm 4), true, 0⟩,
    ⟨(some (Pos.ofNat 15)), none, .lenL (tm 14), true, 0⟩,
    ⟨(some (Pos.ofNat 16)), none, .bin .gtr .other true (tm 15) (vl (int64 (1000))), true, 0⟩]

noncomputable def lsteps_2 : List O := [
    ⟨(some (Pos.ofNat 17)), none, .call (.value (vl (.fn (.func 6) [] []))) [], true, 0⟩,
    ⟨none, none, .store 1 (tm 6) (tm 17), true, 0⟩]

noncomputable def lsteps_3 : List O := [
    ⟨(some (Pos.ofNat 18)), none, .load1 (tm 4), true, 0⟩,
    ⟨(some (Pos.ofNat 19)), none, .append 1 8 (vl .nilSl) (tm 18), true, 0⟩,
    ⟨(some (Pos.ofNat 7)), none, .mov (tm 19), true, 0⟩]

noncomputable def lsteps_4 : List O := [
    ⟨(some (Pos.ofNat 20)), none, .load1 (tm 3), true, 0⟩,
    ⟨(some (Pos.ofNat 21)), none, .mov (tm 7), true, 0⟩,
    ⟨(some (Pos.ofNat 22)), none, .call (.value (vl (.fn (.func 15) [] []))) [(tm 20), (tm 21)], true, 0⟩,
    ⟨(some (Pos.ofNat 8)), none, .mov (tm 22), true, 0⟩]

noncomputable def lsteps_5 : List O := [
    ⟨(some (Pos.ofNat 23)), none, .mov (tm 8), true, 0⟩,
    ⟨(some (Pos.ofNat 24)), none, .bin .eql .fn true (tm 23) (vl .nilFn), true, 1⟩,
    ⟨(some (Pos.ofNat 25)), none, .mov (tm 24), true, 3⟩,
    ⟨(some (Pos.ofNat 26)), (some ((Pos.ofNat 25), false)), .load1 (tm 3), true, 7⟩,
    ⟨(some (Pos.ofNat 27)), (some ((Pos.ofNat 25), false)), .load1 (tm 5), true, 7⟩,
    ⟨(some (Pos.ofNat 28)), (some ((Pos.ofNat 25), false)), .call (.value (vl (.fn (.func 16) [] []))) [(tm 26), (tm 27)], true, 31⟩,
    ⟨(some (Pos.ofNat 29)), (some ((Pos.ofNat 25), false)), .load1 (tm 3), true, 7⟩,
    ⟨(some (Pos.ofNat 30)), (some ((Pos.ofNat 25), false)), .load1 (tm 5), true, 7⟩,
    ⟨(some (Pos.ofNat 31)), (some ((Pos.ofNat 25), false)), .call (.value (vl (.fn (.func 17) [] []))) [(tm 29), (tm 30)], true, 255⟩,
    ⟨(some (Pos.ofNat 32)), (some ((Pos.ofNat 25), false)), .call (.value (vl (.fn (.func 9) [] []))) [(tm 28), (tm 31)], true, 511⟩,
    ⟨(some (Pos.ofNat 33)), (some ((Pos.ofNat 25), false)), .un .not (tm 32), true, 1023⟩,
    ⟨(some (Pos.ofNat 34)), none, .pick (tm 25) (vl (.bool true)) (tm 33), true, 2047⟩]

noncomputable def lsteps_6 : List O := [
    ⟨none, none, .store 1 (tm 6) (vl (.bool false)), true, 0⟩]

noncomputable def lsteps_7 : List O := [
    ⟨(some (Pos.ofNat 9)), none, .mov (vl (int64 (0))), true, 0⟩]

noncomputable def lsteps_8 : List O := [
    ⟨(some (Pos.ofNat 35)), none, .mov (tm 9), true, 0⟩,
    ⟨(some (Pos.ofNat 36)), none, .mov (tm 7), true, 0⟩,
    ⟨(some (Pos.ofNat 37)), none, .lenL (tm 36), true, 0⟩,
    ⟨(some (Pos.ofNat 38)), none, .bin .lss .other false (tm 35) (tm 37), true, 0⟩]

noncomputable def lsteps_9 : List O := [
    ⟨(some (Pos.ofNat 41)), none, .mov (tm 7), true, 0⟩,
    ⟨(some (Pos.ofNat 42)), none, .mov (tm 9), true, 0⟩,
    ⟨(some (Pos.ofNat 43)), none, .idxAddrSl 1 (tm 41) (tm 42), true, 0⟩,
    ⟨none, none, .store 1 (tm 43) (vl (int64 (99))), true, 0⟩]

noncomputable def lsteps_10 : List O := [
    ⟨(some (Pos.ofNat 39)), none, .mov (tm 9), true, 0⟩,
    ⟨(some (Pos.ofNat 40)), none, .bin .add .other true (tm 39) (vl (int64 (1))), true, 0⟩,
    ⟨(some (Pos.ofNat 9)), none, .mov (tm 40), true, 0⟩]

noncomputable def lsteps_11 : C := (.seq (.seq (.region lsteps_8) (.cond (tm 38) .skip (.exit 0))) (.seq (.block 1 (.region lsteps_9)) (.region lsteps_10)))

noncomputable def lsteps_12 : List O := [
    ⟨(some (Pos.ofNat 10)), none, .new [(int64 (0))], true, 0⟩,
    ⟨none, none, .store 1 (tm 10) (vl (int64 (0))), true, 0⟩]

noncomputable def lsteps_13 : List O := [
    ⟨(some (Pos.ofNat 44)), none, .load1 (tm 10), true, 0⟩,
    ⟨(some (Pos.ofNat 45)), none, .bin .lss .other true (tm 44) (vl (int64 (2))), true, 0⟩]

noncomputable def lsteps_14 : List O := [
    ⟨(some (Pos.ofNat 11)), none, .new [(int64 (0))], true, 0⟩,
    ⟨none, none, .store 1 (tm 11) (vl (int64 (0))), true, 0⟩]

noncomputable def lsteps_15 : List O := [
    ⟨(some (Pos.ofNat 48)), none, .mov (tm 8), true, 0⟩]

noncomputable def lsteps_16 : List O := [
    ⟨(some (Pos.ofNat 12)), none, .mov (tm 49), true, 0⟩]

noncomputable def lsteps_17 : List O := [
    ⟨(some (Pos.ofNat 13)), none, .mov (tm 50), true, 0⟩]

noncomputable def lsteps_18 : C := (.seq (.region lsteps_16) (.region lsteps_17))

noncomputable def lsteps_19 : List O := [
    ⟨(some (Pos.ofNat 51)), none, .load1 (tm 11), true, 0⟩,
    ⟨(some (Pos.ofNat 52)), none, .load1 (tm 4), true, 0⟩,
    ⟨(some (Pos.ofNat 53)), none, .lenL (tm 52), true, 2⟩,
    ⟨(some (Pos.ofNat 54)), none, .bin .geq .other false (tm 51) (tm 53), true, 7⟩,
    ⟨(some (Pos.ofNat 55)), none, .mov (tm 54), true, 15⟩,
    ⟨(some (Pos.ofNat 56)), (some ((Pos.ofNat 55), false)), .mov (tm 12), true, 31⟩,
    ⟨(some (Pos.ofNat 57)), (some ((Pos.ofNat 55), false)), .load1 (tm 11), true, 31⟩,
    ⟨(some (Pos.ofNat 58)), (some ((Pos.ofNat 55), false)), .bin .neq .other false (tm 56) (tm 57), true, 127⟩,
    ⟨(some (Pos.ofNat 59)), none, .pick (tm 55) (vl (.bool true)) (tm 58), true, 255⟩,
    ⟨(some (Pos.ofNat 60)), none, .mov (tm 59), true, 511⟩,
    ⟨(some (Pos.ofNat 61)), (some ((Pos.ofNat 60), false)), .mov (tm 13), true, 1023⟩,
    ⟨(some (Pos.ofNat 62)), (some ((Pos.ofNat 60), false)), .load1 (tm 3), true, 1023⟩,
    ⟨(some (Pos.ofNat 63)), (some ((Pos.ofNat 60), false)), .load1 (tm 4), true, 1023⟩,
    ⟨(some (Pos.ofNat 64)), (some ((Pos.ofNat 60), false)), .load1 (tm 11), true, 1023⟩,
    ⟨(some (Pos.ofNat 65)), (some ((Pos.ofNat 60), false)), .bin .add .other true (tm 64) (vl (int64 (1))), true, 9215⟩,
    ⟨(some (Pos.ofNat 66)), (some ((Pos.ofNat 60), false)), .sliceSl 1 (tm 63) none (some (tm 65)) none, true, 29695⟩,
    ⟨(some (Pos.ofNat 67)), (some ((Pos.ofNat 60), false)), .call (.value (vl (.fn (.func 10) [] []))) [(tm 66)], true, 62463⟩,
    ⟨(some (Pos.ofNat 68)), (some ((Pos.ofNat 60), false)), .bin .add .other false (tm 62) (tm 67), true, 130047⟩,
    ⟨(some (Pos.ofNat 69)), (some ((Pos.ofNat 60), false)), .bin .neq .other false (tm 61) (tm 68), true, 262143⟩,
    ⟨(some (Pos.ofNat 70)), none, .pick (tm 60) (vl (.bool true)) (tm 69), true, 524287⟩]

noncomputable def lsteps_20 : List O := [
    ⟨none, none, .store 1 (tm 6) (vl (.bool false)), true, 0⟩]

noncomputable def lsteps_21 : List O := [
    ⟨(some (Pos.ofNat 71)), none, .load1 (tm 11), true, 0⟩,
    ⟨(some (Pos.ofNat 72)), none, .bin .add .other true (tm 71) (vl (int64 (1))), true, 0⟩,
    ⟨none, none, .store 1 (tm 11) (tm 72), true, 0⟩]

noncomputable def lsteps_22 : List O := [
    ⟨(some (Pos.ofNat 73)), none, .load1 (tm 10), true, 0⟩,
    ⟨(some (Pos.ofNat 74)), none, .bin .eql .other true (tm 73) (vl (int64 (0))), true, 0⟩,
    ⟨(some (Pos.ofNat 75)), none, .mov (tm 74), true, 0⟩,
    ⟨(some (Pos.ofNat 76)), (some ((Pos.ofNat 75), true)), .load1 (tm 11), true, 0⟩,
    ⟨(some (Pos.ofNat 77)), (some ((Pos.ofNat 75), true)), .load1 (tm 5), true, 0⟩,
    ⟨(some (Pos.ofNat 78)), (some ((Pos.ofNat 75), true)), .bin .eql .other false (tm 76) (tm 77), true, 0⟩,
    ⟨(some (Pos.ofNat 79)), none, .pick (tm 75) (tm 78) (vl (.bool false)), true, 0⟩]

noncomputable def lsteps_23 : C := (.block 5 (.seq (.seq (.drawn lsteps_19) (.cond (tm 70) (.seq (.region lsteps_20) .ret) .skip)) (.seq (.region lsteps_21) (.seq (.region lsteps_22) (.cond (tm 79) (.exit 4) .skip)))))

noncomputable def lsteps_24 : List O := [
    ⟨(some (Pos.ofNat 80)), none, .load1 (tm 10), true, 0⟩,
    ⟨(some (Pos.ofNat 81)), none, .bin .eql .other true (tm 80) (vl (int64 (1))), true, 0⟩,
    ⟨(some (Pos.ofNat 82)), none, .mov (tm 81), true, 0⟩,
    ⟨(some (Pos.ofNat 83)), (some ((Pos.ofNat 82), true)), .load1 (tm 11), true, 0⟩,
    ⟨(some (Pos.ofNat 84)), (some ((Pos.ofNat 82), true)), .load1 (tm 4), true, 0⟩,
    ⟨(some (Pos.ofNat 85)), (some ((Pos.ofNat 82), true)), .lenL (tm 84), true, 0⟩,
    ⟨(some (Pos.ofNat 86)), (some ((Pos.ofNat 82), true)), .bin .neq .other false (tm 83) (tm 85), true, 0⟩,
    ⟨(some (Pos.ofNat 87)), none, .pick (tm 82) (tm 86) (vl (.bool false)), true, 0⟩,
    ⟨(some (Pos.ofNat 88)), none, .mov (tm 87), true, 0⟩,
    ⟨(some (Pos.ofNat 89)), (some ((Pos.ofNat 88), false)), .load1 (tm 10), true, 0⟩,
    ⟨(some (Pos.ofNat 90)), (some ((Pos.ofNat 88), false)), .bin .eql .other true (tm 89) (vl (int64 (0))), true, 0⟩,
    ⟨(some (Pos.ofNat 91)), (some ((Pos.ofNat 88), false)), .mov (tm 90), true, 0⟩,
    ⟨(some (Pos.ofNat 92)), (some ((Pos.ofNat 91), true)), .load1 (tm 11), true, 0⟩,
    ⟨(some (Pos.ofNat 93)), (some ((Pos.ofNat 91), true)), .load1 (tm 4), true, 0⟩,
    ⟨(some (Pos.ofNat 94)), (some ((Pos.ofNat 91), true)), .lenL (tm 93), true, 0⟩,
    ⟨(some (Pos.ofNat 95)), (some ((Pos.ofNat 91), true)), .bin .neq .other false (tm 92) (tm 94), true, 0⟩,
    ⟨(some (Pos.ofNat 96)), (some ((Pos.ofNat 88), false)), .pick (tm 91) (tm 95) (vl (.bool false)), true, 0⟩,
    ⟨(some (Pos.ofNat 97)), (some ((Pos.ofNat 88), false)), .mov (tm 96), true, 0⟩,
    ⟨(some (Pos.ofNat 98)), (some ((Pos.ofNat 97), true)), .load1 (tm 11), true, 0⟩,
    ⟨(some (Pos.ofNat 99)), (some ((Pos.ofNat 97), true)), .load1 (tm 5), true, 0⟩,
    ⟨(some (Pos.ofNat 100)), (some ((Pos.ofNat 97), true)), .bin .neq .other false (tm 98) (tm 99), true, 0⟩,
    ⟨(some (Pos.ofNat 101)), (some ((Pos.ofNat 88), false)), .pick (tm 97) (tm 100) (vl (.bool false)), true, 0⟩,
    ⟨(some (Pos.ofNat 102)), none, .pick (tm 88) (vl (.bool true)) (tm 101), true, 0⟩]

noncomputable def lsteps_25 : List O := [
    ⟨none, none, .store 1 (tm 6) (vl (.bool false)), true, 0⟩]

noncomputable def lsteps_26 : List O := [
    ⟨(some (Pos.ofNat 103)), none, .load1 (tm 10), true, 0⟩]

noncomputable def lsteps_27 : List O := [
    ⟨(some (Pos.ofNat 10)), none, .new [(int64 (0))], true, 0⟩,
    ⟨none, none, .store 1 (tm 10) (tm 103), true, 0⟩]

noncomputable def lsteps_28 : List O := [
    ⟨(some (Pos.ofNat 46)), none, .load1 (tm 10), true, 0⟩,
    ⟨(some (Pos.ofNat 47)), none, .bin .add .other true (tm 46) (vl (int64 (1))), true, 0⟩,
    ⟨none, none, .store 1 (tm 10) (tm 47), true, 0⟩]

noncomputable def lsteps_29 : C := (.seq (.seq (.region lsteps_13) (.cond (tm 45) .skip (.exit 2))) (.seq (.block 3 (.seq (.region lsteps_14) (.seq (.seq (.region lsteps_15) (.block 4 (.rangeFunc (tm 48) [(Pos.ofNat 49), (Pos.ofNat 50)] lsteps_18 lsteps_23))) (.seq (.region lsteps_24) (.cond (tm 102) (.seq (.region lsteps_25) .ret) .skip))))) (.seq (.seq (.region lsteps_26) (.region lsteps_27)) (.region lsteps_28))))

noncomputable def lsteps_30 : List O := [
    ⟨(some (Pos.ofNat 104)), none, .call (.value (vl (.fn (.func 6) [] []))) [], true, 0⟩,
    ⟨none, none, .store 1 (tm 6) (tm 104), true, 0⟩]

noncomputable def lsteps_fu : Fu := ⟨[.cell1 (Pos.ofNat 6)], 105, (.seq (.region lsteps_0) (.seq (.seq (.region lsteps_1) (.cond (tm 16) (.seq (.region lsteps_2) .ret) .skip)) (.seq (.region lsteps_3) (.seq (.region lsteps_4) (.seq (.seq (.drawn lsteps_5) (.cond (tm 34) (.seq (.region lsteps_6) .ret) .skip)) (.seq (.seq (.region lsteps_7) (.block 0 (.loop lsteps_11))) (.seq (.seq (.region lsteps_12) (.block 2 (.loop lsteps_29))) (.seq (.region lsteps_30) .ret))))))))⟩

theorem lsteps_code : compFn Try.prog 4 = some lsteps_fu := by kernel_rfl

/-! (some estuary/estuarylaw10.CounterTogether) -/

noncomputable def ltog_0 : List O := [
    ⟨(some (Pos.ofNat 6)), none, .mov (vl (.bool false)), true, 0⟩]

noncomputable def ltog_1 : List O := [
    ⟨(some (Pos.ofNat 12)), none, .call (.value (vl (.fn (.func 6) [] []))) [], true, 0⟩,
    ⟨(some (Pos.ofNat 13)), none, .un .not (tm 12), true, 0⟩]

noncomputable def ltog_2 : List O := [
    ⟨(some (Pos.ofNat 6)), none, .mov (vl (.bool false)), true, 0⟩]

noncomputable def ltog_3 : List O := [
    ⟨(some (Pos.ofNat 14)), none, .mov (tm 1), true, 0⟩,
    ⟨(some (Pos.ofNat 15)), none, .lenL (tm 14), true, 0⟩,
    ⟨(some (Pos.ofNat 16)), none, .bin .gtr .other true (tm 15) (vl (int64 (500))), true, 0⟩,
    ⟨(some (Pos.ofNat 17)), none, .mov (tm 16), true, 0⟩,
    ⟨(some (Pos.ofNat 18)), (some ((Pos.ofNat 17), false)), .mov (tm 2), true, 0⟩,
    ⟨(some (Pos.ofNat 19)), (some ((Pos.ofNat 17), false)), .lenL (tm 18), true, 0⟩,
    ⟨(some (Pos.ofNat 20)), (some ((Pos.ofNat 17), false)), .bin .gtr .other true (tm 19) (vl (int64 (500))), true, 0⟩,
    ⟨(some (Pos.ofNat 21)), none, .pick (tm 17) (vl (.bool true)) (tm 20), true, 0⟩]

noncomputable def ltog_4 : List O := [
    ⟨(some (Pos.ofNat 6)), none, .mov (vl (.bool true)), true, 0⟩]

noncomputable def ltog_5 : List O := [
    ⟨(some (Pos.ofNat 22)), none, .mov (tm 0), true, 0⟩,
    ⟨(some (Pos.ofNat 23)), none, .mov (tm 0), true, 0⟩,
    ⟨(some (Pos.ofNat 7)), none, .mov (tm 22), true, 0⟩,
    ⟨(some (Pos.ofNat 8)), none, .mov (tm 23), true, 0⟩]

noncomputable def ltog_6 : List O := [
    ⟨(some (Pos.ofNat 9)), none, .mov (vl (int64 (0))), true, 0⟩]

noncomputable def ltog_7 : List O := [
    ⟨(some (Pos.ofNat 24)), none, .mov (tm 9), true, 0⟩,
    ⟨(some (Pos.ofNat 25)), none, .mov (tm 1), true, 0⟩,
    ⟨(some (Pos.ofNat 26)), none, .lenL (tm 25), true, 0⟩,
    ⟨(some (Pos.ofNat 27)), none, .bin .lss .other false (tm 24) (tm 26), true, 0⟩]

noncomputable def ltog_8 : List O := [
    ⟨(some (Pos.ofNat 30)), none, .mov (tm 7), true, 0⟩,
    ⟨(some (Pos.ofNat 31)), none, .mov (tm 1), true, 0⟩,
    ⟨(some (Pos.ofNat 32)), none, .mov (tm 9), true, 0⟩,
    ⟨(some (Pos.ofNat 33)), none, .idxAddrSl 1 (tm 31) (tm 32), true, 0⟩,
    ⟨(some (Pos.ofNat 34)), none, .load1 (tm 33), true, 0⟩,
    ⟨(some (Pos.ofNat 35)), none, .call (.value (vl (.fn (.func 12) [] []))) [(tm 30), (tm 34)], true, 0⟩,
    ⟨(some (Pos.ofNat 7)), none, .mov (tm 35), true, 0⟩]

noncomputable def ltog_9 : List O := [
    ⟨(some (Pos.ofNat 28)), none, .mov (tm 9), true, 0⟩,
    ⟨(some (Pos.ofNat 29)), none, .bin .add .other true (tm 28) (vl (int64 (1))), true, 0⟩,
    ⟨(some (Pos.ofNat 9)), none, .mov (tm 29), true, 0⟩]

noncomputable def ltog_10 : C := (.seq (.seq (.region ltog_7) (.cond (tm 27) .skip (.exit 0))) (.seq (.block 1 (.region ltog_8)) (.region ltog_9)))

noncomputable def ltog_11 : List O := [
    ⟨(some (Pos.ofNat 10)), none, .mov (vl (int64 (0))), true, 0⟩]

noncomputable def ltog_12 : List O := [
    ⟨(some (Pos.ofNat 36)), none, .mov (tm 10), true, 0⟩,
    ⟨(some (Pos.ofNat 37)), none, .mov (tm 2), true, 0⟩,
    ⟨(some (Pos.ofNat 38)), none, .lenL (tm 37), true, 0⟩,
    ⟨(some (Pos.ofNat 39)), none, .bin .lss .other false (tm 36) (tm 38), true, 0⟩]

noncomputable def ltog_13 : List O := [
    ⟨(some (Pos.ofNat 42)), none, .mov (tm 8), true, 0⟩,
    ⟨(some (Pos.ofNat 43)), none, .mov (tm 2), true, 0⟩,
    ⟨(some (Pos.ofNat 44)), none, .mov (tm 10), true, 0⟩,
    ⟨(some (Pos.ofNat 45)), none, .idxAddrSl 1 (tm 43) (tm 44), true, 0⟩,
    ⟨(some (Pos.ofNat 46)), none, .load1 (tm 45), true, 0⟩,
    ⟨(some (Pos.ofNat 47)), none, .call (.value (vl (.fn (.func 12) [] []))) [(tm 42), (tm 46)], true, 0⟩,
    ⟨(some (Pos.ofNat 8)), none, .mov (tm 47), true, 0⟩]

noncomputable def ltog_14 : List O := [
    ⟨(some (Pos.ofNat 40)), none, .mov (tm 10), true, 0⟩,
    ⟨(some (Pos.ofNat 41)), none, .bin .add .other true (tm 40) (vl (int64 (1))), true, 0⟩,
    ⟨(some (Pos.ofNat 10)), none, .mov (tm 41), true, 0⟩]

noncomputable def ltog_15 : C := (.seq (.seq (.region ltog_12) (.cond (tm 39) .skip (.exit 2))) (.seq (.block 3 (.region ltog_13)) (.region ltog_14)))

noncomputable def ltog_16 : List O := [
    ⟨(some (Pos.ofNat 48)), none, .mov (tm 0), true, 0⟩,
    ⟨(some (Pos.ofNat 49)), none, .mov (tm 1), true, 0⟩,
    ⟨(some (Pos.ofNat 50)), none, .call (.value (vl (.fn (.func 7) [] []))) [(tm 49)], true, 0⟩,
    ⟨(some (Pos.ofNat 51)), none, .mov (tm 2), true, 0⟩,
    ⟨(some (Pos.ofNat 52)), none, .call (.value (vl (.fn (.func 7) [] []))) [(tm 51)], true, 0⟩,
    ⟨(some (Pos.ofNat 53)), none, .call (.value (vl (.fn (.func 12) [] []))) [(tm 50), (tm 52)], true, 0⟩,
    ⟨(some (Pos.ofNat 54)), none, .call (.value (vl (.fn (.func 12) [] []))) [(tm 48), (tm 53)], true, 0⟩,
    ⟨(some (Pos.ofNat 11)), none, .mov (tm 54), true, 0⟩]

noncomputable def ltog_17 : List O := [
    ⟨(some (Pos.ofNat 55)), none, .mov (tm 0), true, 0⟩,
    ⟨(some (Pos.ofNat 56)), none, .mov (tm 7), true, 0⟩,
    ⟨(some (Pos.ofNat 57)), none, .mov (tm 8), true, 0⟩,
    ⟨(some (Pos.ofNat 58)), none, .call (.value (vl (.fn (.func 14) [] []))) [(tm 55), (tm 56), (tm 57)], true, 0⟩,
    ⟨(some (Pos.ofNat 59)), none, .mov (tm 11), true, 0⟩,
    ⟨(some (Pos.ofNat 60)), none, .bin .eql .other false (tm 58) (tm 59), true, 0⟩,
    ⟨(some (Pos.ofNat 61)), none, .mov (tm 60), true, 0⟩,
    ⟨(some (Pos.ofNat 62)), (some ((Pos.ofNat 61), true)), .mov (tm 0), true, 0⟩,
    ⟨(some (Pos.ofNat 63)), (some ((Pos.ofNat 61), true)), .mov (tm 8), true, 0⟩,
    ⟨(some (Pos.ofNat 64)), (some ((Pos.ofNat 61), true)), .mov (tm 7), true, 0⟩,
    ⟨(some (Pos.ofNat 65)), (some ((Pos.ofNat 61), true)), .call (.value (vl (.fn (.func 14) [] []))) [(tm 62), (tm 63), (tm 64)], true, 0⟩,
    ⟨(some (Pos.ofNat 66)), (some ((Pos.ofNat 61), true)), .mov (tm 11), true, 0⟩,
    ⟨(some (Pos.ofNat 67)), (some ((Pos.ofNat 61), true)), .bin .eql .other false (tm 65) (tm 66), true, 0⟩,
    ⟨(some (Pos.ofNat 68)), none, .pick (tm 61) (tm 67) (vl (.bool false)), true, 0⟩,
    ⟨(some (Pos.ofNat 69)), none, .mov (tm 68), true, 0⟩,
    ⟨(some (Pos.ofNat 70)), (some ((Pos.ofNat 69), true)), .mov (tm 0), true, 0⟩,
    ⟨(some (Pos.ofNat 71)), (some ((Pos.ofNat 69), true)), .mov (tm 7), true, 0⟩,
    ⟨(some (Pos.ofNat 72)), (some ((Pos.ofNat 69), true)), .mov (tm 8), true, 0⟩,
    ⟨(some (Pos.ofNat 73)), (some ((Pos.ofNat 69), true)), .buildSl 2 1 [(int64 (0))] [(0, 1, (tm 71)), (1, 1, (tm 72))], true, 0⟩,
    ⟨(some (Pos.ofNat 74)), (some ((Pos.ofNat 69), true)), .call (.value (vl (.fn (.func 8) [] []))) [(tm 70), (tm 73)], true, 0⟩,
    ⟨(some (Pos.ofNat 75)), (some ((Pos.ofNat 69), true)), .mov (tm 11), true, 0⟩,
    ⟨(some (Pos.ofNat 76)), (some ((Pos.ofNat 69), true)), .bin .eql .other false (tm 74) (tm 75), true, 0⟩,
    ⟨(some (Pos.ofNat 77)), none, .pick (tm 69) (tm 76) (vl (.bool false)), true, 0⟩,
    ⟨(some (Pos.ofNat 78)), none, .mov (tm 77), true, 0⟩,
    ⟨(some (Pos.ofNat 79)), (some ((Pos.ofNat 78), true)), .mov (tm 0), true, 0⟩,
    ⟨(some (Pos.ofNat 80)), (some ((Pos.ofNat 78), true)), .mov (tm 0), true, 0⟩,
    ⟨(some (Pos.ofNat 81)), (some ((Pos.ofNat 78), true)), .mov (tm 8), true, 0⟩,
    ⟨(some (Pos.ofNat 82)), (some ((Pos.ofNat 78), true)), .call (.value (vl (.fn (.func 14) [] []))) [(tm 79), (tm 80), (tm 81)], true, 0⟩,
    ⟨(some (Pos.ofNat 83)), (some ((Pos.ofNat 78), true)), .mov (tm 8), true, 0⟩,
    ⟨(some (Pos.ofNat 84)), (some ((Pos.ofNat 78), true)), .bin .eql .other false (tm 82) (tm 83), true, 0⟩,
    ⟨(some (Pos.ofNat 85)), none, .pick (tm 78) (tm 84) (vl (.bool false)), true, 0⟩,
    ⟨(some (Pos.ofNat 86)), none, .mov (tm 85), true, 0⟩,
    ⟨(some (Pos.ofNat 87)), (some ((Pos.ofNat 86), true)), .mov (tm 0), true, 0⟩,
    ⟨(some (Pos.ofNat 88)), (some ((Pos.ofNat 86), true)), .mov (tm 7), true, 0⟩,
    ⟨(some (Pos.ofNat 89)), (some ((Pos.ofNat 86), true)), .mov (tm 0), true, 0⟩,
    ⟨(some (Pos.ofNat 90)), (some ((Pos.ofNat 86), true)), .call (.value (vl (.fn (.func 14) [] []))) [(tm 87), (tm 88), (tm 89)], true, 0⟩,
    ⟨(some (Pos.ofNat 91)), (some ((Pos.ofNat 86), true)), .mov (tm 7), true, 0⟩,
    ⟨(some (Pos.ofNat 92)), (some ((Pos.ofNat 86), true)), .bin .eql .other false (tm 90) (tm 91), true, 0⟩,
    ⟨(some (Pos.ofNat 93)), none, .pick (tm 86) (tm 92) (vl (.bool false)), true, 0⟩,
    ⟨(some (Pos.ofNat 94)), none, .mov (tm 93), true, 0⟩,
    ⟨(some (Pos.ofNat 95)), (some ((Pos.ofNat 94), true)), .mov (tm 7), true, 0⟩,
    ⟨(some (Pos.ofNat 96)), (some ((Pos.ofNat 94), true)), .mov (tm 1), true, 0⟩,
    ⟨(some (Pos.ofNat 97)), (some ((Pos.ofNat 94), true)), .lenL (tm 96), true, 0⟩,
    ⟨(some (Pos.ofNat 98)), (some ((Pos.ofNat 94), true)), .bin .add .other true (tm 97) (vl (int64 (1))), true, 0⟩,
    ⟨(some (Pos.ofNat 99)), (some ((Pos.ofNat 94), true)), .call (.value (vl (.fn (.func 16) [] []))) [(tm 95), (tm 98)], true, 0⟩,
    ⟨(some (Pos.ofNat 100)), (some ((Pos.ofNat 94), true)), .call (.value (vl (.fn (.func 7) [] []))) [(tm 99)], true, 0⟩,
    ⟨(some (Pos.ofNat 101)), (some ((Pos.ofNat 94), true)), .mov (tm 7), true, 0⟩,
    ⟨(some (Pos.ofNat 102)), (some ((Pos.ofNat 94), true)), .mov (tm 1), true, 0⟩,
    ⟨(some (Pos.ofNat 103)), (some ((Pos.ofNat 94), true)), .lenL (tm 102), true, 0⟩,
    ⟨(some (Pos.ofNat 104)), (some ((Pos.ofNat 94), true)), .bin .add .other true (tm 103) (vl (int64 (1))), true, 0⟩,
    ⟨(some (Pos.ofNat 105)), (some ((Pos.ofNat 94), true)), .call (.value (vl (.fn (.func 18) [] []))) [(tm 101), (tm 104)], true, 0⟩,
    ⟨(some (Pos.ofNat 106)), (some ((Pos.ofNat 94), true)), .bin .eql .other false (tm 100) (tm 105), true, 0⟩,
    ⟨(some (Pos.ofNat 107)), none, .pick (tm 94) (tm 106) (vl (.bool false)), true, 0⟩,
    ⟨(some (Pos.ofNat 6)), none, .mov (tm 107), true, 0⟩]

noncomputable def ltog_fu : Fu := ⟨[.tmp (Pos.ofNat 6)], 108, (.seq (.region ltog_0) (.seq (.seq (.region ltog_1) (.cond (tm 13) (.seq (.region ltog_2) .ret) .skip)) (.seq (.seq (.region ltog_3) (.cond (tm 21) (.seq (.region ltog_4) .ret) .skip)) (.seq (.region ltog_5) (.seq (.seq (.region ltog_6) (.block 0 (.loop ltog_10))) (.seq (.seq (.region ltog_11) (.block 2 (.loop ltog_15))) (.seq (.region ltog_16) (.seq (.region ltog_17) .ret))))))))⟩

theorem ltog_code : compFn Try.prog 5 = some ltog_fu := by kernel_rfl

end Go.Proofs.Ytpcddenijmhbfaa.Tog
