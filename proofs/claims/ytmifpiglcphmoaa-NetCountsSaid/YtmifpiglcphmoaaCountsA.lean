import Derived.Test.YtmifpiglcphmoaaProg
import Derived.KernelRfl
import Derived.Test.YtmifpiglcphmoaaAmP
/- THE WALK'S PARTS, part A: what the functions of the law compute, over the abstract machine that stands beside this text. No condition. -/
set_option linter.unusedSimpArgs false
set_option linter.unusedVariables false
namespace Go.Proofs.Ytmifpiglcphmoaa.Counts
open Go Go.Proofs.Ytmifpiglcphmoaa.Am Go.Proofs

/-! (some estuary/net.New[int]) -/

noncomputable def new_0 : List O := [
    ⟨(some (Pos.ofNat 0)), none, .mov (vl .nilPtr), true, 0⟩]

noncomputable def new_1 : List O := [
    ⟨(some (Pos.ofNat 1)), none, .build [.nilSl, (int64 (0)), (.bool false)] [(2, 1, (vl (.bool true)))], true, 0⟩,
    ⟨(some (Pos.ofNat 2)), none, .box (tm 1), true, 0⟩,
    ⟨(some (Pos.ofNat 0)), none, .mov (tm 2), true, 0⟩]

noncomputable def new_fu : Fu := ⟨[.tmp (Pos.ofNat 0)], 3, (.seq (.region new_0) (.seq (.region new_1) .ret))⟩

theorem new_code : compFn Try.prog 9 = some new_fu := by kernel_rfl

/-! (some (*estuary/net.Net[int]).Send) -/

noncomputable def send_0 : List O := [
    ⟨(some (Pos.ofNat 4)), none, .mov (vl (int64 (0))), true, 0⟩]

noncomputable def send_1 : List O := [
    ⟨(some (Pos.ofNat 5)), none, .mov (tm 0), true, 0⟩,
    ⟨(some (Pos.ofNat 6)), none, .call (.value (vl (.fn (.func 49) [] []))) [(tm 5)], true, 0⟩,
    ⟨(some (Pos.ofNat 7)), none, .un .not (tm 6), true, 0⟩]

noncomputable def send_2 : List O := [
    ⟨(some (Pos.ofNat 4)), none, .mov (vl (int64 (1))), true, 0⟩]

noncomputable def send_3 : List O := [
    ⟨(some (Pos.ofNat 8)), none, .mov (tm 1), true, 0⟩,
    ⟨(some (Pos.ofNat 9)), none, .lenL (tm 8), true, 0⟩,
    ⟨(some (Pos.ofNat 10)), none, .mov (tm 0), true, 0⟩,
    ⟨(some (Pos.ofNat 11)), none, .nilCheck (tm 10), true, 0⟩,
    ⟨(some (Pos.ofNat 12)), none, .fieldAddr 0 (tm 11), true, 0⟩,
    ⟨(some (Pos.ofNat 13)), none, .load1 (tm 12), true, 0⟩,
    ⟨(some (Pos.ofNat 14)), none, .lenL (tm 13), true, 0⟩,
    ⟨(some (Pos.ofNat 15)), none, .bin .sub .other true (vl (int64 (65536))) (tm 14), true, 0⟩,
    ⟨(some (Pos.ofNat 16)), none, .bin .gtr .other false (tm 9) (tm 15), true, 0⟩]

noncomputable def send_4 : List O := [
    ⟨(some (Pos.ofNat 4)), none, .mov (vl (int64 (8))), true, 0⟩]

noncomputable def send_5 : List O := [
    ⟨(some (Pos.ofNat 17)), none, .mov (tm 0), true, 0⟩,
    ⟨(some (Pos.ofNat 18)), none, .mov (tm 0), true, 0⟩,
    ⟨(some (Pos.ofNat 19)), none, .nilCheck (tm 18), true, 0⟩,
    ⟨(some (Pos.ofNat 20)), none, .fieldAddr 0 (tm 19), true, 0⟩,
    ⟨(some (Pos.ofNat 21)), none, .load1 (tm 20), true, 0⟩,
    ⟨(some (Pos.ofNat 22)), none, .mov (tm 1), true, 0⟩,
    ⟨(some (Pos.ofNat 23)), none, .append 1 8 (tm 21) (tm 22), true, 0⟩,
    ⟨(some (Pos.ofNat 24)), none, .nilCheck (tm 17), true, 0⟩,
    ⟨(some (Pos.ofNat 25)), none, .fieldAddr 0 (tm 24), true, 0⟩,
    ⟨none, none, .store 1 (tm 25) (tm 23), true, 0⟩]

noncomputable def send_6 : List O := [
    ⟨(some (Pos.ofNat 26)), none, .mov (tm 0), true, 0⟩,
    ⟨(some (Pos.ofNat 27)), none, .nilCheck (tm 26), true, 0⟩,
    ⟨(some (Pos.ofNat 28)), none, .fieldAddr 1 (tm 27), true, 0⟩,
    ⟨(some (Pos.ofNat 29)), none, .load1 (tm 28), true, 0⟩,
    ⟨(some (Pos.ofNat 30)), none, .mov (tm 1), true, 0⟩,
    ⟨(some (Pos.ofNat 31)), none, .lenL (tm 30), true, 0⟩,
    ⟨(some (Pos.ofNat 32)), none, .bin .add .other false (tm 29) (tm 31), true, 0⟩,
    ⟨(some (Pos.ofNat 33)), none, .nilCheck (tm 26), true, 0⟩,
    ⟨(some (Pos.ofNat 34)), none, .fieldAddr 1 (tm 33), true, 0⟩,
    ⟨none, none, .store 1 (tm 34) (tm 32), true, 0⟩]

noncomputable def send_7 : List O := [
    ⟨(some (Pos.ofNat 4)), none, .mov (vl (int64 (0))), true, 0⟩]

noncomputable def send_fu : Fu := ⟨[.tmp (Pos.ofNat 4)], 35, (.seq (.region send_0) (.seq (.seq (.region send_1) (.cond (tm 7) (.seq (.region send_2) .ret) .skip)) (.seq (.seq (.region send_3) (.cond (tm 16) (.seq (.region send_4) .ret) .skip)) (.seq (.region send_5) (.seq (.region send_6) (.seq (.region send_7) .ret))))))⟩

theorem send_code : compFn Try.prog 10 = some send_fu := by kernel_rfl

/-! (some (*estuary/net.Net[int]).Len) -/

noncomputable def len_0 : List O := [
    ⟨(some (Pos.ofNat 2)), none, .mov (vl (int64 (0))), true, 0⟩]

noncomputable def len_1 : List O := [
    ⟨(some (Pos.ofNat 3)), none, .mov (tm 0), true, 0⟩,
    ⟨(some (Pos.ofNat 4)), none, .call (.value (vl (.fn (.func 49) [] []))) [(tm 3)], true, 0⟩,
    ⟨(some (Pos.ofNat 5)), none, .un .not (tm 4), true, 0⟩]

noncomputable def len_2 : List O := [
    ⟨(some (Pos.ofNat 2)), none, .mov (vl (int64 (0))), true, 0⟩]

noncomputable def len_3 : List O := [
    ⟨(some (Pos.ofNat 6)), none, .mov (tm 0), true, 0⟩,
    ⟨(some (Pos.ofNat 7)), none, .nilCheck (tm 6), true, 0⟩,
    ⟨(some (Pos.ofNat 8)), none, .fieldAddr 0 (tm 7), true, 0⟩,
    ⟨(some (Pos.ofNat 9)), none, .load1 (tm 8), true, 0⟩,
    ⟨(some (Pos.ofNat 10)), none, .lenL (tm 9), true, 0⟩,
    ⟨(some (Pos.ofNat 2)), none, .mov (tm 10), true, 0⟩]

noncomputable def len_fu : Fu := ⟨[.tmp (Pos.ofNat 2)], 11, (.seq (.region len_0) (.seq (.seq (.region len_1) (.cond (tm 5) (.seq (.region len_2) .ret) .skip)) (.seq (.region len_3) .ret)))⟩

theorem len_code : compFn Try.prog 12 = some len_fu := by kernel_rfl

/-! (some (*estuary/net.Net[int]).Twin) -/

noncomputable def twin_0 : List O := [
    ⟨(some (Pos.ofNat 4)), none, .mov (vl (int64 (0))), true, 0⟩]

noncomputable def twin_1 : List O := [
    ⟨(some (Pos.ofNat 8)), none, .mov (tm 0), true, 0⟩,
    ⟨(some (Pos.ofNat 9)), none, .mov (tm 1), true, 0⟩,
    ⟨(some (Pos.ofNat 10)), none, .call (.value (vl (.fn (.func 29) [] []))) [(tm 8), (tm 9)], true, 0⟩,
    ⟨(some (Pos.ofNat 7)), none, .mov (tm 10), true, 0⟩,
    ⟨(some (Pos.ofNat 11)), none, .extract (tm 7) 0, true, 0⟩,
    ⟨(some (Pos.ofNat 12)), none, .extract (tm 7) 1, true, 0⟩,
    ⟨(some (Pos.ofNat 5)), none, .mov (tm 11), true, 0⟩,
    ⟨(some (Pos.ofNat 6)), none, .mov (tm 12), true, 0⟩]

noncomputable def twin_2 : List O := [
    ⟨(some (Pos.ofNat 13)), none, .mov (tm 6), true, 0⟩,
    ⟨(some (Pos.ofNat 14)), none, .bin .neq .other true (tm 13) (vl (int64 (0))), true, 0⟩]

noncomputable def twin_3 : List O := [
    ⟨(some (Pos.ofNat 15)), none, .mov (tm 6), true, 0⟩,
    ⟨(some (Pos.ofNat 4)), none, .mov (tm 15), true, 0⟩]

noncomputable def twin_4 : List O := [
    ⟨(some (Pos.ofNat 16)), none, .mov (tm 0), true, 0⟩,
    ⟨(some (Pos.ofNat 17)), none, .mov (tm 5), true, 0⟩,
    ⟨(some (Pos.ofNat 18)), none, .buildSl 1 1 [(int64 (0))] [(0, 1, (tm 17))], true, 0⟩,
    ⟨(some (Pos.ofNat 19)), none, .call (.value (vl (.fn (.func 10) [] []))) [(tm 16), (tm 18)], true, 0⟩,
    ⟨(some (Pos.ofNat 4)), none, .mov (tm 19), true, 0⟩]

noncomputable def twin_fu : Fu := ⟨[.tmp (Pos.ofNat 4)], 20, (.seq (.region twin_0) (.seq (.region twin_1) (.seq (.seq (.region twin_2) (.cond (tm 14) (.seq (.region twin_3) .ret) .skip)) (.seq (.region twin_4) .ret))))⟩

theorem twin_code : compFn Try.prog 13 = some twin_fu := by kernel_rfl

/-! (some (*estuary/net.Net[int]).Take) -/

noncomputable def take_0 : List O := [
    ⟨(some (Pos.ofNat 4)), none, .mov (vl (int64 (0))), true, 0⟩,
    ⟨(some (Pos.ofNat 5)), none, .mov (vl (int64 (0))), true, 0⟩]

noncomputable def take_1 : List O := [
    ⟨(some (Pos.ofNat 9)), none, .mov (tm 0), true, 0⟩,
    ⟨(some (Pos.ofNat 10)), none, .mov (tm 1), true, 0⟩,
    ⟨(some (Pos.ofNat 11)), none, .call (.value (vl (.fn (.func 29) [] []))) [(tm 9), (tm 10)], true, 0⟩,
    ⟨(some (Pos.ofNat 8)), none, .mov (tm 11), true, 0⟩,
    ⟨(some (Pos.ofNat 12)), none, .extract (tm 8) 0, true, 0⟩,
    ⟨(some (Pos.ofNat 13)), none, .extract (tm 8) 1, true, 0⟩,
    ⟨(some (Pos.ofNat 6)), none, .mov (tm 12), true, 0⟩,
    ⟨(some (Pos.ofNat 7)), none, .mov (tm 13), true, 0⟩]

noncomputable def take_2 : List O := [
    ⟨(some (Pos.ofNat 14)), none, .mov (tm 7), true, 0⟩,
    ⟨(some (Pos.ofNat 15)), none, .bin .eql .other true (tm 14) (vl (int64 (0))), true, 0⟩]

noncomputable def take_3 : List O := [
    ⟨(some (Pos.ofNat 16)), none, .mov (tm 0), true, 0⟩,
    ⟨(some (Pos.ofNat 17)), none, .mov (tm 0), true, 0⟩,
    ⟨(some (Pos.ofNat 18)), none, .nilCheck (tm 17), true, 2⟩,
    ⟨(some (Pos.ofNat 19)), none, .fieldAddr 0 (tm 18), true, 6⟩,
    ⟨(some (Pos.ofNat 20)), none, .load1 (tm 19), true, 14⟩,
    ⟨(some (Pos.ofNat 21)), none, .mov (tm 1), true, 0⟩,
    ⟨(some (Pos.ofNat 22)), none, .sliceSl 1 (tm 20) none (some (tm 21)) none, true, 62⟩,
    ⟨(some (Pos.ofNat 23)), none, .mov (tm 0), true, 0⟩,
    ⟨(some (Pos.ofNat 24)), none, .nilCheck (tm 23), true, 128⟩,
    ⟨(some (Pos.ofNat 25)), none, .fieldAddr 0 (tm 24), true, 384⟩,
    ⟨(some (Pos.ofNat 26)), none, .load1 (tm 25), true, 896⟩,
    ⟨(some (Pos.ofNat 27)), none, .mov (tm 1), true, 0⟩,
    ⟨(some (Pos.ofNat 28)), none, .bin .add .other true (tm 27) (vl (int64 (1))), true, 2048⟩,
    ⟨(some (Pos.ofNat 29)), none, .sliceSl 1 (tm 26) (some (tm 28)) none none, true, 8064⟩,
    ⟨(some (Pos.ofNat 30)), none, .buildSl 2 1 [.nilSl] [(0, 1, (tm 22)), (1, 1, (tm 29))], true, 16382⟩,
    ⟨(some (Pos.ofNat 31)), none, .call (.value (vl (.fn (.func 50) [] []))) [(tm 30)], true, 32766⟩,
    ⟨(some (Pos.ofNat 32)), none, .nilCheck (tm 16), true, 65535⟩,
    ⟨(some (Pos.ofNat 33)), none, .fieldAddr 0 (tm 32), true, 131071⟩,
    ⟨none, none, .store 1 (tm 33) (tm 31), true, 262143⟩]

noncomputable def take_4 : List O := [
    ⟨(some (Pos.ofNat 34)), none, .mov (tm 6), true, 0⟩,
    ⟨(some (Pos.ofNat 35)), none, .mov (tm 7), true, 0⟩,
    ⟨(some (Pos.ofNat 4)), none, .mov (tm 34), true, 0⟩,
    ⟨(some (Pos.ofNat 5)), none, .mov (tm 35), true, 0⟩]

noncomputable def take_fu : Fu := ⟨[.tmp (Pos.ofNat 4), .tmp (Pos.ofNat 5)], 36, (.seq (.region take_0) (.seq (.region take_1) (.seq (.seq (.region take_2) (.cond (tm 15) (.drawn take_3) .skip)) (.seq (.region take_4) .ret))))⟩

theorem take_code : compFn Try.prog 14 = some take_fu := by kernel_rfl

/-! (some (*estuary/net.Net[int]).Sent) -/

noncomputable def sent_0 : List O := [
    ⟨(some (Pos.ofNat 2)), none, .mov (vl (int64 (0))), true, 0⟩]

noncomputable def sent_1 : List O := [
    ⟨(some (Pos.ofNat 3)), none, .mov (tm 0), true, 0⟩,
    ⟨(some (Pos.ofNat 4)), none, .call (.value (vl (.fn (.func 49) [] []))) [(tm 3)], true, 0⟩,
    ⟨(some (Pos.ofNat 5)), none, .un .not (tm 4), true, 0⟩]

noncomputable def sent_2 : List O := [
    ⟨(some (Pos.ofNat 2)), none, .mov (vl (int64 (0))), true, 0⟩]

noncomputable def sent_3 : List O := [
    ⟨(some (Pos.ofNat 6)), none, .mov (tm 0), true, 0⟩,
    ⟨(some (Pos.ofNat 7)), none, .nilCheck (tm 6), true, 0⟩,
    ⟨(some (Pos.ofNat 8)), none, .fieldAddr 1 (tm 7), true, 0⟩,
    ⟨(some (Pos.ofNat 9)), none, .load1 (tm 8), true, 0⟩,
    ⟨(some (Pos.ofNat 2)), none, .mov (tm 9), true, 0⟩]

noncomputable def sent_fu : Fu := ⟨[.tmp (Pos.ofNat 2)], 10, (.seq (.region sent_0) (.seq (.seq (.region sent_1) (.cond (tm 5) (.seq (.region sent_2) .ret) .skip)) (.seq (.region sent_3) .ret)))⟩

theorem sent_code : compFn Try.prog 15 = some sent_fu := by kernel_rfl

/-! (some estuary/estuarylaw25.times) -/

noncomputable def times_0 : List O := [
    ⟨(some (Pos.ofNat 4)), none, .mov (vl (int64 (0))), true, 0⟩]

noncomputable def times_1 : List O := [
    ⟨(some (Pos.ofNat 5)), none, .mov (vl (int64 (0))), true, 0⟩]

noncomputable def times_2 : List O := [
    ⟨(some (Pos.ofNat 6)), none, .mov (vl (int64 (0))), true, 0⟩]

noncomputable def times_3 : List O := [
    ⟨(some (Pos.ofNat 7)), none, .mov (tm 6), true, 0⟩,
    ⟨(some (Pos.ofNat 8)), none, .mov (tm 0), true, 0⟩,
    ⟨(some (Pos.ofNat 9)), none, .lenL (tm 8), true, 0⟩,
    ⟨(some (Pos.ofNat 10)), none, .bin .lss .other false (tm 7) (tm 9), true, 0⟩]

noncomputable def times_4 : List O := [
    ⟨(some (Pos.ofNat 13)), none, .mov (tm 0), true, 0⟩,
    ⟨(some (Pos.ofNat 14)), none, .mov (tm 6), true, 0⟩,
    ⟨(some (Pos.ofNat 15)), none, .idxAddrSl 1 (tm 13) (tm 14), true, 0⟩,
    ⟨(some (Pos.ofNat 16)), none, .load1 (tm 15), true, 0⟩,
    ⟨(some (Pos.ofNat 17)), none, .mov (tm 1), true, 0⟩,
    ⟨(some (Pos.ofNat 18)), none, .bin .eql .other false (tm 16) (tm 17), true, 0⟩]

noncomputable def times_5 : List O := [
    ⟨(some (Pos.ofNat 19)), none, .mov (tm 5), true, 0⟩,
    ⟨(some (Pos.ofNat 20)), none, .bin .add .other true (tm 19) (vl (int64 (1))), true, 0⟩,
    ⟨(some (Pos.ofNat 5)), none, .mov (tm 20), true, 0⟩]

noncomputable def times_6 : List O := [
    ⟨(some (Pos.ofNat 11)), none, .mov (tm 6), true, 0⟩,
    ⟨(some (Pos.ofNat 12)), none, .bin .add .other true (tm 11) (vl (int64 (1))), true, 0⟩,
    ⟨(some (Pos.ofNat 6)), none, .mov (tm 12), true, 0⟩]

noncomputable def times_7 : C := (.seq (.seq (.region times_3) (.cond (tm 10) .skip (.exit 0))) (.seq (.block 1 (.seq (.region times_4) (.cond (tm 18) (.region times_5) .skip))) (.region times_6)))

noncomputable def times_8 : List O := [
    ⟨(some (Pos.ofNat 21)), none, .mov (tm 5), true, 0⟩,
    ⟨(some (Pos.ofNat 4)), none, .mov (tm 21), true, 0⟩]

noncomputable def times_fu : Fu := ⟨[.tmp (Pos.ofNat 4)], 22, (.seq (.region times_0) (.seq (.region times_1) (.seq (.seq (.region times_2) (.block 0 (.loop times_7))) (.seq (.region times_8) .ret))))⟩

theorem times_code : compFn Try.prog 16 = some times_fu := by kernel_rfl

/-! (some (*estuary/net.Net[int]).At) -/

noncomputable def at__0 : List O := [
    ⟨(some (Pos.ofNat 4)), none, .mov (vl (int64 (0))), true, 0⟩,
    ⟨(some (Pos.ofNat 5)), none, .mov (vl (int64 (0))), true, 0⟩]

noncomputable def at__1 : List O := [
    ⟨(some (Pos.ofNat 6)), none, .mov (vl (int64 (0))), true, 0⟩]

noncomputable def at__2 : List O := [
    ⟨(some (Pos.ofNat 8)), none, .mov (tm 0), true, 0⟩,
    ⟨(some (Pos.ofNat 9)), none, .call (.value (vl (.fn (.func 49) [] []))) [(tm 8)], true, 0⟩,
    ⟨(some (Pos.ofNat 10)), none, .un .not (tm 9), true, 0⟩,
    ⟨(some (Pos.ofNat 7)), none, .mov (tm 10), true, 0⟩]

noncomputable def at__3 : List O := [
    ⟨(some (Pos.ofNat 11)), none, .mov (tm 6), true, 0⟩,
    ⟨(some (Pos.ofNat 4)), none, .mov (tm 11), true, 0⟩,
    ⟨(some (Pos.ofNat 5)), none, .mov (vl (int64 (1))), true, 0⟩]

noncomputable def at__4 : List O := [
    ⟨(some (Pos.ofNat 13)), none, .mov (tm 1), true, 0⟩,
    ⟨(some (Pos.ofNat 14)), none, .bin .lss .other true (tm 13) (vl (int64 (0))), true, 0⟩,
    ⟨(some (Pos.ofNat 15)), none, .mov (tm 14), true, 0⟩,
    ⟨(some (Pos.ofNat 16)), (some ((Pos.ofNat 15), false)), .mov (tm 1), true, 0⟩,
    ⟨(some (Pos.ofNat 17)), (some ((Pos.ofNat 15), false)), .mov (tm 0), true, 0⟩,
    ⟨(some (Pos.ofNat 18)), (some ((Pos.ofNat 15), false)), .nilCheck (tm 17), true, 0⟩,
    ⟨(some (Pos.ofNat 19)), (some ((Pos.ofNat 15), false)), .fieldAddr 0 (tm 18), true, 0⟩,
    ⟨(some (Pos.ofNat 20)), (some ((Pos.ofNat 15), false)), .load1 (tm 19), true, 0⟩,
    ⟨(some (Pos.ofNat 21)), (some ((Pos.ofNat 15), false)), .lenL (tm 20), true, 0⟩,
    ⟨(some (Pos.ofNat 22)), (some ((Pos.ofNat 15), false)), .bin .geq .other false (tm 16) (tm 21), true, 0⟩,
    ⟨(some (Pos.ofNat 23)), none, .pick (tm 15) (vl (.bool true)) (tm 22), true, 0⟩,
    ⟨(some (Pos.ofNat 12)), none, .mov (tm 23), true, 0⟩]

noncomputable def at__5 : List O := [
    ⟨(some (Pos.ofNat 24)), none, .mov (tm 6), true, 0⟩,
    ⟨(some (Pos.ofNat 4)), none, .mov (tm 24), true, 0⟩,
    ⟨(some (Pos.ofNat 5)), none, .mov (vl (int64 (350))), true, 0⟩]

noncomputable def at__6 : List O := [
    ⟨(some (Pos.ofNat 25)), none, .mov (tm 0), true, 0⟩,
    ⟨(some (Pos.ofNat 26)), none, .nilCheck (tm 25), true, 0⟩,
    ⟨(some (Pos.ofNat 27)), none, .fieldAddr 0 (tm 26), true, 0⟩,
    ⟨(some (Pos.ofNat 28)), none, .load1 (tm 27), true, 0⟩,
    ⟨(some (Pos.ofNat 29)), none, .mov (tm 1), true, 0⟩,
    ⟨(some (Pos.ofNat 30)), none, .idxAddrSl 1 (tm 28) (tm 29), true, 0⟩,
    ⟨(some (Pos.ofNat 31)), none, .load1 (tm 30), true, 0⟩,
    ⟨(some (Pos.ofNat 4)), none, .mov (tm 31), true, 0⟩,
    ⟨(some (Pos.ofNat 5)), none, .mov (vl (int64 (0))), true, 0⟩]

noncomputable def at__fu : Fu := ⟨[.tmp (Pos.ofNat 4), .tmp (Pos.ofNat 5)], 32, (.seq (.region at__0) (.seq (.region at__1) (.seq (.block 0 (.seq (.region at__2) (.cond (tm 7) (.seq (.region at__3) .ret) (.seq (.region at__4) (.cond (tm 12) (.seq (.region at__5) .ret) .skip))))) (.seq (.region at__6) .ret))))⟩

theorem at__code : compFn Try.prog 29 = some at__fu := by kernel_rfl

/-! (some (*estuary/net.Net[int]).there) -/

noncomputable def there_0 : List O := [
    ⟨(some (Pos.ofNat 2)), none, .mov (vl (.bool false)), true, 0⟩]

noncomputable def there_1 : List O := [
    ⟨(some (Pos.ofNat 3)), none, .mov (tm 0), true, 0⟩,
    ⟨(some (Pos.ofNat 4)), none, .eqPtr true (tm 3) (vl .nilPtr), true, 0⟩,
    ⟨(some (Pos.ofNat 5)), none, .mov (tm 4), true, 0⟩,
    ⟨(some (Pos.ofNat 6)), (some ((Pos.ofNat 5), true)), .mov (tm 0), true, 0⟩,
    ⟨(some (Pos.ofNat 7)), (some ((Pos.ofNat 5), true)), .nilCheck (tm 6), true, 0⟩,
    ⟨(some (Pos.ofNat 8)), (some ((Pos.ofNat 5), true)), .fieldAddr 2 (tm 7), true, 0⟩,
    ⟨(some (Pos.ofNat 9)), (some ((Pos.ofNat 5), true)), .load1 (tm 8), true, 0⟩,
    ⟨(some (Pos.ofNat 10)), none, .pick (tm 5) (tm 9) (vl (.bool false)), true, 0⟩,
    ⟨(some (Pos.ofNat 2)), none, .mov (tm 10), true, 0⟩]

noncomputable def there_fu : Fu := ⟨[.tmp (Pos.ofNat 2)], 11, (.seq (.region there_0) (.seq (.region there_1) .ret))⟩

theorem there_code : compFn Try.prog 49 = some there_fu := by kernel_rfl

/-! (some slices.Concat[[]int,int]) -/

noncomputable def concat_0 : List O := [
    ⟨(some (Pos.ofNat 2)), none, .mov (vl .nilSl), true, 0⟩]

noncomputable def concat_1 : List O := [
    ⟨(some (Pos.ofNat 3)), none, .mov (vl (int64 (0))), true, 0⟩]

noncomputable def concat_2 : List O := [
    ⟨(some (Pos.ofNat 9)), none, .mov (tm 0), true, 0⟩,
    ⟨(some (Pos.ofNat 10)), none, .lenL (tm 9), true, 0⟩,
    ⟨(some (Pos.ofNat 11)), none, .mov (vl (int64 (0))), true, 0⟩]

noncomputable def concat_3 : List O := [
    ⟨(some (Pos.ofNat 12)), none, .bin .lss .other false (tm 11) (tm 10), true, 0⟩]

noncomputable def concat_4 : List O := [
    ⟨(some (Pos.ofNat 13)), none, .idxAddrSl 1 (tm 9) (tm 11), true, 0⟩,
    ⟨(some (Pos.ofNat 14)), none, .load1 (tm 13), true, 0⟩,
    ⟨(some (Pos.ofNat 5)), none, .mov (tm 14), true, 0⟩]

noncomputable def concat_5 : List O := [
    ⟨(some (Pos.ofNat 15)), none, .mov (tm 3), true, 0⟩,
    ⟨(some (Pos.ofNat 16)), none, .mov (tm 5), true, 0⟩,
    ⟨(some (Pos.ofNat 17)), none, .lenL (tm 16), true, 0⟩,
    ⟨(some (Pos.ofNat 18)), none, .bin .add .other false (tm 15) (tm 17), true, 0⟩,
    ⟨(some (Pos.ofNat 3)), none, .mov (tm 18), true, 0⟩]

noncomputable def concat_6 : List O := [
    ⟨(some (Pos.ofNat 19)), none, .mov (tm 3), true, 0⟩,
    ⟨(some (Pos.ofNat 20)), none, .bin .lss .other true (tm 19) (vl (int64 (0))), true, 0⟩]

noncomputable def concat_7 : List O := [
    ⟨(some (Pos.ofNat 21)), none, .mkIfc 9 (vl (.str 16 144083279162335362808197356371485550437)), true, 0⟩,
    ⟨none, none, .bad (badN Try.prog 50 0), true, 0⟩]

noncomputable def concat_8 : List O := [
    ⟨(some (Pos.ofNat 22)), none, .bin .add .other true (tm 11) (vl (int64 (1))), true, 0⟩,
    ⟨(some (Pos.ofNat 11)), none, .mov (tm 22), true, 0⟩]

noncomputable def concat_9 : C := (.seq (.region concat_3) (.seq (.cond (tm 12) .skip (.exit 0)) (.seq (.block 1 (.seq (.region concat_4) (.seq (.region concat_5) (.seq (.region concat_6) (.cond (tm 20) (.region concat_7) .skip))))) (.region concat_8))))

noncomputable def concat_10 : List O := [
    ⟨(some (Pos.ofNat 23)), none, .mov (tm 3), true, 0⟩,
    ⟨(some (Pos.ofNat 24)), none, .call (.value (vl (.fn (.func 78) [] []))) [(vl .nilSl), (tm 23)], true, 0⟩,
    ⟨(some (Pos.ofNat 6)), none, .mov (tm 24), true, 0⟩]

noncomputable def concat_11 : List O := [
    ⟨(some (Pos.ofNat 25)), none, .mov (tm 0), true, 0⟩,
    ⟨(some (Pos.ofNat 26)), none, .lenL (tm 25), true, 0⟩,
    ⟨(some (Pos.ofNat 27)), none, .mov (vl (int64 (0))), true, 0⟩]

noncomputable def concat_12 : List O := [
    ⟨(some (Pos.ofNat 28)), none, .bin .lss .other false (tm 27) (tm 26), true, 0⟩]

noncomputable def concat_13 : List O := [
    ⟨(some (Pos.ofNat 29)), none, .idxAddrSl 1 (tm 25) (tm 27), true, 0⟩,
    ⟨(some (Pos.ofNat 30)), none, .load1 (tm 29), true, 0⟩,
    ⟨(some (Pos.ofNat 8)), none, .mov (tm 30), true, 0⟩]

noncomputable def concat_14 : List O := [
    ⟨(some (Pos.ofNat 31)), none, .mov (tm 6), true, 0⟩,
    ⟨(some (Pos.ofNat 32)), none, .mov (tm 8), true, 0⟩,
    ⟨(some (Pos.ofNat 33)), none, .append 1 8 (tm 31) (tm 32), true, 0⟩,
    ⟨(some (Pos.ofNat 6)), none, .mov (tm 33), true, 0⟩]

noncomputable def concat_15 : List O := [
    ⟨(some (Pos.ofNat 34)), none, .bin .add .other true (tm 27) (vl (int64 (1))), true, 0⟩,
    ⟨(some (Pos.ofNat 27)), none, .mov (tm 34), true, 0⟩]

noncomputable def concat_16 : C := (.seq (.region concat_12) (.seq (.cond (tm 28) .skip (.exit 2)) (.seq (.block 3 (.seq (.region concat_13) (.region concat_14))) (.region concat_15))))

noncomputable def concat_17 : List O := [
    ⟨(some (Pos.ofNat 35)), none, .mov (tm 6), true, 0⟩,
    ⟨(some (Pos.ofNat 2)), none, .mov (tm 35), true, 0⟩]

noncomputable def concat_fu : Fu := ⟨[.tmp (Pos.ofNat 2)], 36, (.seq (.region concat_0) (.seq (.region concat_1) (.seq (.seq (.region concat_2) (.block 0 (.loop concat_9))) (.seq (.region concat_10) (.seq (.seq (.region concat_11) (.block 2 (.loop concat_16))) (.seq (.region concat_17) .ret))))))⟩

theorem concat_code : compFn Try.prog 50 = some concat_fu := by kernel_rfl

/-! (some slices.Grow[[]int,int]) -/

noncomputable def grow_0 : List O := [
    ⟨(some (Pos.ofNat 4)), none, .mov (vl .nilSl), true, 0⟩]

noncomputable def grow_1 : List O := [
    ⟨(some (Pos.ofNat 5)), none, .mov (tm 1), true, 0⟩,
    ⟨(some (Pos.ofNat 6)), none, .bin .lss .other true (tm 5) (vl (int64 (0))), true, 0⟩]

noncomputable def grow_2 : List O := [
    ⟨(some (Pos.ofNat 7)), none, .mkIfc 9 (vl (.str 18 8657270485328334183878363895755874379593317)), true, 0⟩,
    ⟨none, none, .bad (badN Try.prog 78 0), true, 0⟩]

noncomputable def grow_3 : List O := [
    ⟨(some (Pos.ofNat 8)), none, .mov (tm 1), true, 0⟩,
    ⟨(some (Pos.ofNat 9)), none, .mov (tm 0), true, 0⟩,
    ⟨(some (Pos.ofNat 10)), none, .cap (tm 9), true, 0⟩,
    ⟨(some (Pos.ofNat 11)), none, .mov (tm 0), true, 0⟩,
    ⟨(some (Pos.ofNat 12)), none, .lenL (tm 11), true, 0⟩,
    ⟨(some (Pos.ofNat 13)), none, .bin .sub .other false (tm 10) (tm 12), true, 0⟩,
    ⟨(some (Pos.ofNat 14)), none, .bin .sub .other false (tm 8) (tm 13), true, 0⟩,
    ⟨(some (Pos.ofNat 1)), none, .mov (tm 14), true, 0⟩]

noncomputable def grow_4 : List O := [
    ⟨(some (Pos.ofNat 15)), none, .mov (tm 1), true, 0⟩,
    ⟨(some (Pos.ofNat 16)), none, .bin .gtr .other true (tm 15) (vl (int64 (0))), true, 0⟩]

noncomputable def grow_5 : List O := [
    ⟨(some (Pos.ofNat 17)), none, .mov (tm 0), true, 0⟩,
    ⟨(some (Pos.ofNat 18)), none, .mov (tm 0), true, 0⟩,
    ⟨(some (Pos.ofNat 19)), none, .cap (tm 18), true, 0⟩,
    ⟨(some (Pos.ofNat 20)), none, .sliceSl 1 (tm 17) none (some (tm 19)) none, true, 0⟩,
    ⟨(some (Pos.ofNat 21)), none, .mov (tm 1), true, 0⟩,
    ⟨(some (Pos.ofNat 22)), none, .appendZ 1 8 [(int64 (0))] (tm 20) (tm 21), true, 0⟩,
    ⟨(some (Pos.ofNat 23)), none, .mov (tm 0), true, 0⟩,
    ⟨(some (Pos.ofNat 24)), none, .lenL (tm 23), true, 0⟩,
    ⟨(some (Pos.ofNat 25)), none, .sliceSl 1 (tm 22) none (some (tm 24)) none, true, 0⟩,
    ⟨(some (Pos.ofNat 0)), none, .mov (tm 25), true, 0⟩]

noncomputable def grow_6 : List O := [
    ⟨(some (Pos.ofNat 26)), none, .mov (tm 0), true, 0⟩,
    ⟨(some (Pos.ofNat 4)), none, .mov (tm 26), true, 0⟩]

noncomputable def grow_fu : Fu := ⟨[.tmp (Pos.ofNat 4)], 27, (.seq (.region grow_0) (.seq (.seq (.region grow_1) (.cond (tm 6) (.region grow_2) .skip)) (.seq (.seq (.region grow_3) (.seq (.region grow_4) (.cond (tm 16) (.region grow_5) .skip))) (.seq (.region grow_6) .ret))))⟩

theorem grow_code : compFn Try.prog 78 = some grow_fu := by kernel_rfl

/-! (some estuary/estuarylaw25.NetCounts) -/

noncomputable def lcount_0 : List O := [
    ⟨(some (Pos.ofNat 6)), none, .mov (vl (.bool false)), true, 0⟩]

noncomputable def lcount_1 : List O := [
    ⟨(some (Pos.ofNat 15)), none, .call (.value (vl (.fn (.func 9) [] []))) [], true, 0⟩,
    ⟨(some (Pos.ofNat 7)), none, .mov (tm 15), true, 0⟩]

noncomputable def lcount_2 : List O := [
    ⟨(some (Pos.ofNat 16)), none, .mov (tm 0), true, 0⟩,
    ⟨(some (Pos.ofNat 17)), none, .lenL (tm 16), true, 0⟩,
    ⟨(some (Pos.ofNat 18)), none, .bin .gtr .other true (tm 17) (vl (int64 (1000))), true, 0⟩,
    ⟨(some (Pos.ofNat 19)), none, .mov (tm 18), true, 0⟩,
    ⟨(some (Pos.ofNat 20)), (some ((Pos.ofNat 19), false)), .mov (tm 7), true, 0⟩,
    ⟨(some (Pos.ofNat 21)), (some ((Pos.ofNat 19), false)), .eqPtr false (tm 20) (vl .nilPtr), true, 0⟩,
    ⟨(some (Pos.ofNat 22)), none, .pick (tm 19) (vl (.bool true)) (tm 21), true, 0⟩,
    ⟨(some (Pos.ofNat 23)), none, .mov (tm 22), true, 0⟩,
    ⟨(some (Pos.ofNat 24)), (some ((Pos.ofNat 23), false)), .mov (tm 7), true, 0⟩,
    ⟨(some (Pos.ofNat 25)), (some ((Pos.ofNat 23), false)), .mov (tm 0), true, 0⟩,
    ⟨(some (Pos.ofNat 26)), (some ((Pos.ofNat 23), false)), .call (.value (vl (.fn (.func 10) [] []))) [(tm 24), (tm 25)], true, 0⟩,
    ⟨(some (Pos.ofNat 27)), (some ((Pos.ofNat 23), false)), .bin .neq .other true (tm 26) (vl (int64 (0))), true, 0⟩,
    ⟨(some (Pos.ofNat 28)), none, .pick (tm 23) (vl (.bool true)) (tm 27), true, 0⟩]

noncomputable def lcount_3 : List O := [
    ⟨(some (Pos.ofNat 29)), none, .call (.value (vl (.fn (.func 11) [] []))) [], true, 0⟩,
    ⟨(some (Pos.ofNat 6)), none, .mov (tm 29), true, 0⟩]

noncomputable def lcount_4 : List O := [
    ⟨(some (Pos.ofNat 8)), none, .mov (vl (int64 (0))), true, 0⟩]

noncomputable def lcount_5 : List O := [
    ⟨(some (Pos.ofNat 9)), none, .mov (vl .nilSl), true, 0⟩]

noncomputable def lcount_6 : List O := [
    ⟨(some (Pos.ofNat 10)), none, .mov (vl (int64 (0))), true, 0⟩]

noncomputable def lcount_7 : List O := [
    ⟨(some (Pos.ofNat 30)), none, .mov (tm 10), true, 0⟩,
    ⟨(some (Pos.ofNat 31)), none, .mov (tm 1), true, 0⟩,
    ⟨(some (Pos.ofNat 32)), none, .lenL (tm 31), true, 0⟩,
    ⟨(some (Pos.ofNat 33)), none, .bin .lss .other false (tm 30) (tm 32), true, 0⟩,
    ⟨(some (Pos.ofNat 34)), none, .mov (tm 33), true, 0⟩,
    ⟨(some (Pos.ofNat 35)), (some ((Pos.ofNat 34), true)), .mov (tm 10), true, 0⟩,
    ⟨(some (Pos.ofNat 36)), (some ((Pos.ofNat 34), true)), .bin .lss .other true (tm 35) (vl (int64 (2000))), true, 0⟩,
    ⟨(some (Pos.ofNat 37)), none, .pick (tm 34) (tm 36) (vl (.bool false)), true, 0⟩,
    ⟨(some (Pos.ofNat 38)), none, .mov (tm 37), true, 0⟩,
    ⟨(some (Pos.ofNat 39)), (some ((Pos.ofNat 38), true)), .mov (tm 7), true, 0⟩,
    ⟨(some (Pos.ofNat 40)), (some ((Pos.ofNat 38), true)), .call (.value (vl (.fn (.func 12) [] []))) [(tm 39)], true, 0⟩,
    ⟨(some (Pos.ofNat 41)), (some ((Pos.ofNat 38), true)), .bin .gtr .other true (tm 40) (vl (int64 (0))), true, 0⟩,
    ⟨(some (Pos.ofNat 42)), none, .pick (tm 38) (tm 41) (vl (.bool false)), true, 0⟩]

noncomputable def lcount_8 : List O := [
    ⟨(some (Pos.ofNat 45)), none, .mov (tm 1), true, 0⟩,
    ⟨(some (Pos.ofNat 46)), none, .mov (tm 10), true, 0⟩,
    ⟨(some (Pos.ofNat 47)), none, .idxAddrSl 1 (tm 45) (tm 46), true, 3⟩,
    ⟨(some (Pos.ofNat 48)), none, .load1 (tm 47), true, 7⟩,
    ⟨(some (Pos.ofNat 49)), none, .mov (tm 7), true, 0⟩,
    ⟨(some (Pos.ofNat 50)), none, .call (.value (vl (.fn (.func 12) [] []))) [(tm 49)], true, 16⟩,
    ⟨(some (Pos.ofNat 51)), none, .bin .rem .other false (tm 48) (tm 50), true, 63⟩,
    ⟨(some (Pos.ofNat 11)), none, .mov (tm 51), true, 127⟩]

noncomputable def lcount_9 : List O := [
    ⟨(some (Pos.ofNat 52)), none, .mov (tm 11), true, 0⟩,
    ⟨(some (Pos.ofNat 53)), none, .bin .lss .other true (tm 52) (vl (int64 (0))), true, 0⟩]

noncomputable def lcount_10 : List O := [
    ⟨(some (Pos.ofNat 54)), none, .mov (tm 11), true, 0⟩,
    ⟨(some (Pos.ofNat 55)), none, .mov (tm 7), true, 0⟩,
    ⟨(some (Pos.ofNat 56)), none, .call (.value (vl (.fn (.func 12) [] []))) [(tm 55)], true, 0⟩,
    ⟨(some (Pos.ofNat 57)), none, .bin .add .other false (tm 54) (tm 56), true, 0⟩,
    ⟨(some (Pos.ofNat 11)), none, .mov (tm 57), true, 0⟩]

noncomputable def lcount_11 : List O := [
    ⟨(some (Pos.ofNat 58)), none, .mov (tm 2), true, 0⟩,
    ⟨(some (Pos.ofNat 59)), none, .mov (tm 58), true, 0⟩,
    ⟨(some (Pos.ofNat 60)), (some ((Pos.ofNat 59), true)), .mov (tm 10), true, 0⟩,
    ⟨(some (Pos.ofNat 61)), (some ((Pos.ofNat 59), true)), .bin .rem .other true (tm 60) (vl (int64 (3))), true, 0⟩,
    ⟨(some (Pos.ofNat 62)), (some ((Pos.ofNat 59), true)), .bin .eql .other true (tm 61) (vl (int64 (1))), true, 0⟩,
    ⟨(some (Pos.ofNat 63)), none, .pick (tm 59) (tm 62) (vl (.bool false)), true, 0⟩]

noncomputable def lcount_12 : List O := [
    ⟨(some (Pos.ofNat 64)), none, .mov (tm 7), true, 0⟩,
    ⟨(some (Pos.ofNat 65)), none, .mov (tm 11), true, 0⟩,
    ⟨(some (Pos.ofNat 66)), none, .call (.value (vl (.fn (.func 13) [] []))) [(tm 64), (tm 65)], true, 0⟩,
    ⟨(some (Pos.ofNat 67)), none, .bin .neq .other true (tm 66) (vl (int64 (0))), true, 0⟩]

noncomputable def lcount_13 : List O := [
    ⟨(some (Pos.ofNat 6)), none, .mov (vl (.bool false)), true, 0⟩]

noncomputable def lcount_14 : List O := [
    ⟨(some (Pos.ofNat 69)), none, .mov (tm 7), true, 0⟩,
    ⟨(some (Pos.ofNat 70)), none, .mov (tm 11), true, 0⟩,
    ⟨(some (Pos.ofNat 71)), none, .call (.value (vl (.fn (.func 14) [] []))) [(tm 69), (tm 70)], true, 0⟩,
    ⟨(some (Pos.ofNat 68)), none, .mov (tm 71), true, 0⟩,
    ⟨(some (Pos.ofNat 72)), none, .extract (tm 68) 0, true, 0⟩,
    ⟨(some (Pos.ofNat 73)), none, .extract (tm 68) 1, true, 0⟩,
    ⟨(some (Pos.ofNat 12)), none, .mov (tm 72), true, 0⟩,
    ⟨(some (Pos.ofNat 13)), none, .mov (tm 73), true, 0⟩]

noncomputable def lcount_15 : List O := [
    ⟨(some (Pos.ofNat 74)), none, .mov (tm 13), true, 0⟩,
    ⟨(some (Pos.ofNat 75)), none, .bin .neq .other true (tm 74) (vl (int64 (0))), true, 0⟩]

noncomputable def lcount_16 : List O := [
    ⟨(some (Pos.ofNat 6)), none, .mov (vl (.bool false)), true, 0⟩]

noncomputable def lcount_17 : List O := [
    ⟨(some (Pos.ofNat 76)), none, .mov (tm 9), true, 0⟩,
    ⟨(some (Pos.ofNat 77)), none, .mov (tm 12), true, 0⟩,
    ⟨(some (Pos.ofNat 78)), none, .buildSl 1 1 [(int64 (0))] [(0, 1, (tm 77))], true, 0⟩,
    ⟨(some (Pos.ofNat 79)), none, .append 1 8 (tm 76) (tm 78), true, 0⟩,
    ⟨(some (Pos.ofNat 9)), none, .mov (tm 79), true, 0⟩]

noncomputable def lcount_18 : List O := [
    ⟨(some (Pos.ofNat 80)), none, .mov (tm 8), true, 0⟩,
    ⟨(some (Pos.ofNat 81)), none, .bin .add .other true (tm 80) (vl (int64 (1))), true, 0⟩,
    ⟨(some (Pos.ofNat 8)), none, .mov (tm 81), true, 0⟩]

noncomputable def lcount_19 : List O := [
    ⟨(some (Pos.ofNat 43)), none, .mov (tm 10), true, 0⟩,
    ⟨(some (Pos.ofNat 44)), none, .bin .add .other true (tm 43) (vl (int64 (1))), true, 0⟩,
    ⟨(some (Pos.ofNat 10)), none, .mov (tm 44), true, 0⟩]

noncomputable def lcount_20 : C := (.seq (.seq (.region lcount_7) (.cond (tm 42) .skip (.exit 0))) (.seq (.block 1 (.seq (.drawn lcount_8) (.seq (.seq (.region lcount_9) (.cond (tm 53) (.region lcount_10) .skip)) (.seq (.seq (.region lcount_11) (.cond (tm 63) (.seq (.seq (.region lcount_12) (.cond (tm 67) (.seq (.region lcount_13) .ret) .skip)) (.exit 1)) .skip)) (.seq (.region lcount_14) (.seq (.seq (.region lcount_15) (.cond (tm 75) (.seq (.region lcount_16) .ret) .skip)) (.seq (.region lcount_17) (.region lcount_18)))))))) (.region lcount_19)))

noncomputable def lcount_21 : List O := [
    ⟨(some (Pos.ofNat 82)), none, .mov (tm 7), true, 0⟩,
    ⟨(some (Pos.ofNat 83)), none, .call (.value (vl (.fn (.func 15) [] []))) [(tm 82)], true, 0⟩,
    ⟨(some (Pos.ofNat 84)), none, .mov (tm 8), true, 0⟩,
    ⟨(some (Pos.ofNat 85)), none, .mov (tm 7), true, 0⟩,
    ⟨(some (Pos.ofNat 86)), none, .call (.value (vl (.fn (.func 12) [] []))) [(tm 85)], true, 0⟩,
    ⟨(some (Pos.ofNat 87)), none, .bin .add .other false (tm 84) (tm 86), true, 0⟩,
    ⟨(some (Pos.ofNat 88)), none, .bin .neq .other false (tm 83) (tm 87), true, 0⟩]

noncomputable def lcount_22 : List O := [
    ⟨(some (Pos.ofNat 6)), none, .mov (vl (.bool false)), true, 0⟩]

noncomputable def lcount_23 : List O := [
    ⟨(some (Pos.ofNat 14)), none, .mov (vl (int64 (0))), true, 0⟩]

noncomputable def lcount_24 : List O := [
    ⟨(some (Pos.ofNat 89)), none, .mov (tm 14), true, 0⟩,
    ⟨(some (Pos.ofNat 90)), none, .mov (tm 9), true, 0⟩,
    ⟨(some (Pos.ofNat 91)), none, .lenL (tm 90), true, 0⟩,
    ⟨(some (Pos.ofNat 92)), none, .bin .lss .other false (tm 89) (tm 91), true, 0⟩,
    ⟨(some (Pos.ofNat 93)), none, .mov (tm 92), true, 0⟩,
    ⟨(some (Pos.ofNat 94)), (some ((Pos.ofNat 93), true)), .mov (tm 2), true, 0⟩,
    ⟨(some (Pos.ofNat 95)), (some ((Pos.ofNat 93), true)), .un .not (tm 94), true, 0⟩,
    ⟨(some (Pos.ofNat 96)), none, .pick (tm 93) (tm 95) (vl (.bool false)), true, 0⟩]

noncomputable def lcount_25 : List O := [
    ⟨(some (Pos.ofNat 99)), none, .mov (tm 9), true, 0⟩,
    ⟨(some (Pos.ofNat 100)), none, .mov (tm 9), true, 0⟩,
    ⟨(some (Pos.ofNat 101)), none, .mov (tm 14), true, 0⟩,
    ⟨(some (Pos.ofNat 102)), none, .idxAddrSl 1 (tm 100) (tm 101), true, 6⟩,
    ⟨(some (Pos.ofNat 103)), none, .load1 (tm 102), true, 14⟩,
    ⟨(some (Pos.ofNat 104)), none, .call (.value (vl (.fn (.func 16) [] []))) [(tm 99), (tm 103)], true, 31⟩,
    ⟨(some (Pos.ofNat 105)), none, .mov (tm 0), true, 0⟩,
    ⟨(some (Pos.ofNat 106)), none, .mov (tm 9), true, 0⟩,
    ⟨(some (Pos.ofNat 107)), none, .mov (tm 14), true, 0⟩,
    ⟨(some (Pos.ofNat 108)), none, .idxAddrSl 1 (tm 106) (tm 107), true, 384⟩,
    ⟨(some (Pos.ofNat 109)), none, .load1 (tm 108), true, 896⟩,
    ⟨(some (Pos.ofNat 110)), none, .call (.value (vl (.fn (.func 16) [] []))) [(tm 105), (tm 109)], true, 2047⟩,
    ⟨(some (Pos.ofNat 111)), none, .bin .gtr .other false (tm 104) (tm 110), true, 4095⟩]

noncomputable def lcount_26 : List O := [
    ⟨(some (Pos.ofNat 6)), none, .mov (vl (.bool false)), true, 0⟩]

noncomputable def lcount_27 : List O := [
    ⟨(some (Pos.ofNat 97)), none, .mov (tm 14), true, 0⟩,
    ⟨(some (Pos.ofNat 98)), none, .bin .add .other true (tm 97) (vl (int64 (1))), true, 0⟩,
    ⟨(some (Pos.ofNat 14)), none, .mov (tm 98), true, 0⟩]

noncomputable def lcount_28 : C := (.seq (.seq (.region lcount_24) (.cond (tm 96) .skip (.exit 2))) (.seq (.block 3 (.seq (.drawn lcount_25) (.cond (tm 111) (.seq (.region lcount_26) .ret) .skip))) (.region lcount_27)))

noncomputable def lcount_29 : List O := [
    ⟨(some (Pos.ofNat 112)), none, .call (.value (vl (.fn (.func 11) [] []))) [], true, 0⟩,
    ⟨(some (Pos.ofNat 6)), none, .mov (tm 112), true, 0⟩]

noncomputable def lcount_fu : Fu := ⟨[.tmp (Pos.ofNat 6)], 113, (.seq (.region lcount_0) (.seq (.region lcount_1) (.seq (.seq (.region lcount_2) (.cond (tm 28) (.seq (.region lcount_3) .ret) .skip)) (.seq (.region lcount_4) (.seq (.region lcount_5) (.seq (.seq (.region lcount_6) (.block 0 (.loop lcount_20))) (.seq (.seq (.region lcount_21) (.cond (tm 88) (.seq (.region lcount_22) .ret) .skip)) (.seq (.seq (.region lcount_23) (.block 2 (.loop lcount_28))) (.seq (.region lcount_29) .ret)))))))))⟩

theorem lcount_code : compFn Try.prog 3 = some lcount_fu := by kernel_rfl

end Go.Proofs.Ytmifpiglcphmoaa.Counts
