import Derived.Test.YtmifpiglcphmoaaProg
import Derived.KernelRfl
import Derived.Test.YtmifpiglcphmoaaAmQ
/- THE WALK'S PARTS, part A: what the functions of the law compute, over the abstract machine that stands beside this text. No condition. -/
set_option linter.unusedSimpArgs false
set_option linter.unusedVariables false
namespace Go.Proofs.Ytmifpiglcphmoaa.Plays
open Go Go.Proofs.Ytmifpiglcphmoaa.Am Go.Proofs

/-! (some estuary/net.New[string]) -/

noncomputable def new_0 : List O := [
    ⟨(some (Pos.ofNat 0)), none, .mov (vl .nilPtr), true, 0⟩]

noncomputable def new_1 : List O := [
    ⟨(some (Pos.ofNat 1)), none, .build [.nilSl, (int64 (0)), (.bool false)] [(2, 1, (vl (.bool true)))], true, 0⟩,
    ⟨(some (Pos.ofNat 2)), none, .box (tm 1), true, 0⟩,
    ⟨(some (Pos.ofNat 0)), none, .mov (tm 2), true, 0⟩]

noncomputable def new_fu : Fu := ⟨[.tmp (Pos.ofNat 0)], 3, (.seq (.region new_0) (.seq (.region new_1) .ret))⟩

theorem new_code : compFn Try.prog 17 = some new_fu := by kernel_rfl

/-! (some (*estuary/net.Net[string]).Send) -/

noncomputable def send_0 : List O := [
    ⟨(some (Pos.ofNat 4)), none, .mov (vl (int64 (0))), true, 0⟩]

noncomputable def send_1 : List O := [
    ⟨(some (Pos.ofNat 5)), none, .mov (tm 0), true, 0⟩,
    ⟨(some (Pos.ofNat 6)), none, .call (.value (vl (.fn (.func 51) [] []))) [(tm 5)], true, 0⟩,
    ⟨(some (Pos.ofNat 7)), none, .un .not (tm 6), true, 0⟩]

noncomputable def send_2 : List O := [
    ⟨(some (Pos.ofNat 4)), none, .mov (vl (int64 (1))), true, 0⟩]

noncomputable def send_3 : List O := [
    ⟨(some (Pos.ofNat 8)), none, .mov (tm 1), true, 0⟩,
    ⟨(some (Pos.ofNat 9)), none, .lenL (tm 8), true, 0⟩,
    ⟨(some (Pos.ofNat 10)), none, .mov (tm 0), true, 0⟩,
    ⟨(some (Pos.ofNat 11)), none, .nilCheck (tm 10), true, 0⟩,
    ⟨(some (Pos.ofNat 12)), none, .fieldAddr 0 (tm 11), true, 0⟩,
    ⟨(some (Pos.ofNat 13)), none, .load1 (tm 12), true, 0⟩,
    ⟨(some (Pos.ofNat 14)), none, .lenL (tm 13), true, 0⟩,
    ⟨(some (Pos.ofNat 15)), none, .bin .sub .other true (vl (int64 (65536))) (tm 14), true, 0⟩,
    ⟨(some (Pos.ofNat 16)), none, .bin .gtr .other false (tm 9) (tm 15), true, 0⟩]

noncomputable def send_4 : List O := [
    ⟨(some (Pos.ofNat 4)), none, .mov (vl (int64 (8))), true, 0⟩]

noncomputable def send_5 : List O := [
    ⟨(some (Pos.ofNat 17)), none, .mov (tm 0), true, 0⟩,
    ⟨(some (Pos.ofNat 18)), none, .mov (tm 0), true, 0⟩,
    ⟨(some (Pos.ofNat 19)), none, .nilCheck (tm 18), true, 0⟩,
    ⟨(some (Pos.ofNat 20)), none, .fieldAddr 0 (tm 19), true, 0⟩,
    ⟨(some (Pos.ofNat 21)), none, .load1 (tm 20), true, 0⟩,
    ⟨(some (Pos.ofNat 22)), none, .mov (tm 1), true, 0⟩,
    ⟨(some (Pos.ofNat 23)), none, .append 1 16 (tm 21) (tm 22), true, 0⟩,
    ⟨(some (Pos.ofNat 24)), none, .nilCheck (tm 17), true, 0⟩,
    ⟨(some (Pos.ofNat 25)), none, .fieldAddr 0 (tm 24), true, 0⟩,
    ⟨none, none, .store 1 (tm 25) (tm 23), true, 0⟩]

noncomputable def send_6 : List O := [
    ⟨(some (Pos.ofNat 26)), none, .mov (tm 0), true, 0⟩,
    ⟨(some (Pos.ofNat 27)), none, .nilCheck (tm 26), true, 0⟩,
    ⟨(some (Pos.ofNat 28)), none, .fieldAddr 1 (tm 27), true, 0⟩,
    ⟨(some (Pos.ofNat 29)), none, .load1 (tm 28), true, 0⟩,
    ⟨(some (Pos.ofNat 30)), none, .mov (tm 1), true, 0⟩,
    ⟨(some (Pos.ofNat 31)), none, .lenL (tm 30), true, 0⟩,
    ⟨(some (Pos.ofNat 32)), none, .bin .add .other false (tm 29) (tm 31), true, 0⟩,
    ⟨(some (Pos.ofNat 33)), none, .nilCheck (tm 26), true, 0⟩,
    ⟨(some (Pos.ofNat 34)), none, .fieldAddr 1 (tm 33), true, 0⟩,
    ⟨none, none, .store 1 (tm 34) (tm 32), true, 0⟩]

noncomputable def send_7 : List O := [
    ⟨(some (Pos.ofNat 4)), none, .mov (vl (int64 (0))), true, 0⟩]

noncomputable def send_fu : Fu := ⟨[.tmp (Pos.ofNat 4)], 35, (.seq (.region send_0) (.seq (.seq (.region send_1) (.cond (tm 7) (.seq (.region send_2) .ret) .skip)) (.seq (.seq (.region send_3) (.cond (tm 16) (.seq (.region send_4) .ret) .skip)) (.seq (.region send_5) (.seq (.region send_6) (.seq (.region send_7) .ret))))))⟩

theorem send_code : compFn Try.prog 18 = some send_fu := by kernel_rfl

/-! (some (*estuary/net.Net[string]).Len) -/

noncomputable def len_0 : List O := [
    ⟨(some (Pos.ofNat 2)), none, .mov (vl (int64 (0))), true, 0⟩]

noncomputable def len_1 : List O := [
    ⟨(some (Pos.ofNat 3)), none, .mov (tm 0), true, 0⟩,
    ⟨(some (Pos.ofNat 4)), none, .call (.value (vl (.fn (.func 51) [] []))) [(tm 3)], true, 0⟩,
    ⟨(some (Pos.ofNat 5)), none, .un .not (tm 4), true, 0⟩]

noncomputable def len_2 : List O := [
    ⟨(some (Pos.ofNat 2)), none, .mov (vl (int64 (0))), true, 0⟩]

noncomputable def len_3 : List O := [
    ⟨(some (Pos.ofNat 6)), none, .mov (tm 0), true, 0⟩,
    ⟨(some (Pos.ofNat 7)), none, .nilCheck (tm 6), true, 0⟩,
    ⟨(some (Pos.ofNat 8)), none, .fieldAddr 0 (tm 7), true, 0⟩,
    ⟨(some (Pos.ofNat 9)), none, .load1 (tm 8), true, 0⟩,
    ⟨(some (Pos.ofNat 10)), none, .lenL (tm 9), true, 0⟩,
    ⟨(some (Pos.ofNat 2)), none, .mov (tm 10), true, 0⟩]

noncomputable def len_fu : Fu := ⟨[.tmp (Pos.ofNat 2)], 11, (.seq (.region len_0) (.seq (.seq (.region len_1) (.cond (tm 5) (.seq (.region len_2) .ret) .skip)) (.seq (.region len_3) .ret)))⟩

theorem len_code : compFn Try.prog 27 = some len_fu := by kernel_rfl

/-! (some (*estuary/net.Net[string]).Twin) -/

noncomputable def twin_0 : List O := [
    ⟨(some (Pos.ofNat 4)), none, .mov (vl (int64 (0))), true, 0⟩]

noncomputable def twin_1 : List O := [
    ⟨(some (Pos.ofNat 8)), none, .mov (tm 0), true, 0⟩,
    ⟨(some (Pos.ofNat 9)), none, .mov (tm 1), true, 0⟩,
    ⟨(some (Pos.ofNat 10)), none, .call (.value (vl (.fn (.func 21) [] []))) [(tm 8), (tm 9)], true, 0⟩,
    ⟨(some (Pos.ofNat 7)), none, .mov (tm 10), true, 0⟩,
    ⟨(some (Pos.ofNat 11)), none, .extract (tm 7) 0, true, 0⟩,
    ⟨(some (Pos.ofNat 12)), none, .extract (tm 7) 1, true, 0⟩,
    ⟨(some (Pos.ofNat 5)), none, .mov (tm 11), true, 0⟩,
    ⟨(some (Pos.ofNat 6)), none, .mov (tm 12), true, 0⟩]

noncomputable def twin_2 : List O := [
    ⟨(some (Pos.ofNat 13)), none, .mov (tm 6), true, 0⟩,
    ⟨(some (Pos.ofNat 14)), none, .bin .neq .other true (tm 13) (vl (int64 (0))), true, 0⟩]

noncomputable def twin_3 : List O := [
    ⟨(some (Pos.ofNat 15)), none, .mov (tm 6), true, 0⟩,
    ⟨(some (Pos.ofNat 4)), none, .mov (tm 15), true, 0⟩]

noncomputable def twin_4 : List O := [
    ⟨(some (Pos.ofNat 16)), none, .mov (tm 0), true, 0⟩,
    ⟨(some (Pos.ofNat 17)), none, .mov (tm 5), true, 0⟩,
    ⟨(some (Pos.ofNat 18)), none, .buildSl 1 1 [(.str 0 0)] [(0, 1, (tm 17))], true, 0⟩,
    ⟨(some (Pos.ofNat 19)), none, .call (.value (vl (.fn (.func 18) [] []))) [(tm 16), (tm 18)], true, 0⟩,
    ⟨(some (Pos.ofNat 4)), none, .mov (tm 19), true, 0⟩]

noncomputable def twin_fu : Fu := ⟨[.tmp (Pos.ofNat 4)], 20, (.seq (.region twin_0) (.seq (.region twin_1) (.seq (.seq (.region twin_2) (.cond (tm 14) (.seq (.region twin_3) .ret) .skip)) (.seq (.region twin_4) .ret))))⟩

theorem twin_code : compFn Try.prog 22 = some twin_fu := by kernel_rfl

/-! (some (*estuary/net.Net[string]).Take) -/

noncomputable def take_0 : List O := [
    ⟨(some (Pos.ofNat 4)), none, .mov (vl (.str 0 0)), true, 0⟩,
    ⟨(some (Pos.ofNat 5)), none, .mov (vl (int64 (0))), true, 0⟩]

noncomputable def take_1 : List O := [
    ⟨(some (Pos.ofNat 9)), none, .mov (tm 0), true, 0⟩,
    ⟨(some (Pos.ofNat 10)), none, .mov (tm 1), true, 0⟩,
    ⟨(some (Pos.ofNat 11)), none, .call (.value (vl (.fn (.func 21) [] []))) [(tm 9), (tm 10)], true, 0⟩,
    ⟨(some (Pos.ofNat 8)), none, .mov (tm 11), true, 0⟩,
    ⟨(some (Pos.ofNat 12)), none, .extract (tm 8) 0, true, 0⟩,
    ⟨(some (Pos.ofNat 13)), none, .extract (tm 8) 1, true, 0⟩,
    ⟨(some (Pos.ofNat 6)), none, .mov (tm 12), true, 0⟩,
    ⟨(some (Pos.ofNat 7)), none, .mov (tm 13), true, 0⟩]

noncomputable def take_2 : List O := [
    ⟨(some (Pos.ofNat 14)), none, .mov (tm 7), true, 0⟩,
    ⟨(some (Pos.ofNat 15)), none, .bin .eql .other true (tm 14) (vl (int64 (0))), true, 0⟩]

noncomputable def take_3 : List O := [
    ⟨(some (Pos.ofNat 16)), none, .mov (tm 0), true, 0⟩,
    ⟨(some (Pos.ofNat 17)), none, .mov (tm 0), true, 0⟩,
    ⟨(some (Pos.ofNat 18)), none, .nilCheck (tm 17), true, 2⟩,
    ⟨(some (Pos.ofNat 19)), none, .fieldAddr 0 (tm 18), true, 6⟩,
    ⟨(some (Pos.ofNat 20)), none, .load1 (tm 19), true, 14⟩,
    ⟨(some (Pos.ofNat 21)), none, .mov (tm 1), true, 0⟩,
    ⟨(some (Pos.ofNat 22)), none, .sliceSl 1 (tm 20) none (some (tm 21)) none, true, 62⟩,
    ⟨(some (Pos.ofNat 23)), none, .mov (tm 0), true, 0⟩,
    ⟨(some (Pos.ofNat 24)), none, .nilCheck (tm 23), true, 128⟩,
    ⟨(some (Pos.ofNat 25)), none, .fieldAddr 0 (tm 24), true, 384⟩,
    ⟨(some (Pos.ofNat 26)), none, .load1 (tm 25), true, 896⟩,
    ⟨(some (Pos.ofNat 27)), none, .mov (tm 1), true, 0⟩,
    ⟨(some (Pos.ofNat 28)), none, .bin .add .other true (tm 27) (vl (int64 (1))), true, 2048⟩,
    ⟨(some (Pos.ofNat 29)), none, .sliceSl 1 (tm 26) (some (tm 28)) none none, true, 8064⟩,
    ⟨(some (Pos.ofNat 30)), none, .buildSl 2 1 [.nilSl] [(0, 1, (tm 22)), (1, 1, (tm 29))], true, 16382⟩,
    ⟨(some (Pos.ofNat 31)), none, .call (.value (vl (.fn (.func 52) [] []))) [(tm 30)], true, 32766⟩,
    ⟨(some (Pos.ofNat 32)), none, .nilCheck (tm 16), true, 65535⟩,
    ⟨(some (Pos.ofNat 33)), none, .fieldAddr 0 (tm 32), true, 131071⟩,
    ⟨none, none, .store 1 (tm 33) (tm 31), true, 262143⟩]

noncomputable def take_4 : List O := [
    ⟨(some (Pos.ofNat 34)), none, .mov (tm 6), true, 0⟩,
    ⟨(some (Pos.ofNat 35)), none, .mov (tm 7), true, 0⟩,
    ⟨(some (Pos.ofNat 4)), none, .mov (tm 34), true, 0⟩,
    ⟨(some (Pos.ofNat 5)), none, .mov (tm 35), true, 0⟩]

noncomputable def take_fu : Fu := ⟨[.tmp (Pos.ofNat 4), .tmp (Pos.ofNat 5)], 36, (.seq (.region take_0) (.seq (.region take_1) (.seq (.seq (.region take_2) (.cond (tm 15) (.drawn take_3) .skip)) (.seq (.region take_4) .ret))))⟩

theorem take_code : compFn Try.prog 19 = some take_fu := by kernel_rfl

/-! (some (*estuary/net.Net[string]).Sent) -/

noncomputable def sent_0 : List O := [
    ⟨(some (Pos.ofNat 2)), none, .mov (vl (int64 (0))), true, 0⟩]

noncomputable def sent_1 : List O := [
    ⟨(some (Pos.ofNat 3)), none, .mov (tm 0), true, 0⟩,
    ⟨(some (Pos.ofNat 4)), none, .call (.value (vl (.fn (.func 51) [] []))) [(tm 3)], true, 0⟩,
    ⟨(some (Pos.ofNat 5)), none, .un .not (tm 4), true, 0⟩]

noncomputable def sent_2 : List O := [
    ⟨(some (Pos.ofNat 2)), none, .mov (vl (int64 (0))), true, 0⟩]

noncomputable def sent_3 : List O := [
    ⟨(some (Pos.ofNat 6)), none, .mov (tm 0), true, 0⟩,
    ⟨(some (Pos.ofNat 7)), none, .nilCheck (tm 6), true, 0⟩,
    ⟨(some (Pos.ofNat 8)), none, .fieldAddr 1 (tm 7), true, 0⟩,
    ⟨(some (Pos.ofNat 9)), none, .load1 (tm 8), true, 0⟩,
    ⟨(some (Pos.ofNat 2)), none, .mov (tm 9), true, 0⟩]

noncomputable def sent_fu : Fu := ⟨[.tmp (Pos.ofNat 2)], 10, (.seq (.region sent_0) (.seq (.seq (.region sent_1) (.cond (tm 5) (.seq (.region sent_2) .ret) .skip)) (.seq (.region sent_3) .ret)))⟩

theorem sent_code : compFn Try.prog 28 = some sent_fu := by kernel_rfl

/-! (some (*estuary/net.Net[string]).At) -/

noncomputable def at__0 : List O := [
    ⟨(some (Pos.ofNat 4)), none, .mov (vl (.str 0 0)), true, 0⟩,
    ⟨(some (Pos.ofNat 5)), none, .mov (vl (int64 (0))), true, 0⟩]

noncomputable def at__1 : List O := [
    ⟨(some (Pos.ofNat 6)), none, .mov (vl (.str 0 0)), true, 0⟩]

noncomputable def at__2 : List O := [
    ⟨(some (Pos.ofNat 8)), none, .mov (tm 0), true, 0⟩,
    ⟨(some (Pos.ofNat 9)), none, .call (.value (vl (.fn (.func 51) [] []))) [(tm 8)], true, 0⟩,
    ⟨(some (Pos.ofNat 10)), none, .un .not (tm 9), true, 0⟩,
    ⟨(some (Pos.ofNat 7)), none, .mov (tm 10), true, 0⟩]

noncomputable def at__3 : List O := [
    ⟨(some (Pos.ofNat 11)), none, .mov (tm 6), true, 0⟩,
    ⟨(some (Pos.ofNat 4)), none, .mov (tm 11), true, 0⟩,
    ⟨(some (Pos.ofNat 5)), none, .mov (vl (int64 (1))), true, 0⟩]

noncomputable def at__4 : List O := [
    ⟨(some (Pos.ofNat 13)), none, .mov (tm 1), true, 0⟩,
    ⟨(some (Pos.ofNat 14)), none, .bin .lss .other true (tm 13) (vl (int64 (0))), true, 0⟩,
    ⟨(some (Pos.ofNat 15)), none, .mov (tm 14), true, 0⟩,
    ⟨(some (Pos.ofNat 16)), (some ((Pos.ofNat 15), false)), .mov (tm 1), true, 0⟩,
    ⟨(some (Pos.ofNat 17)), (some ((Pos.ofNat 15), false)), .mov (tm 0), true, 0⟩,
    ⟨(some (Pos.ofNat 18)), (some ((Pos.ofNat 15), false)), .nilCheck (tm 17), true, 0⟩,
    ⟨(some (Pos.ofNat 19)), (some ((Pos.ofNat 15), false)), .fieldAddr 0 (tm 18), true, 0⟩,
    ⟨(some (Pos.ofNat 20)), (some ((Pos.ofNat 15), false)), .load1 (tm 19), true, 0⟩,
    ⟨(some (Pos.ofNat 21)), (some ((Pos.ofNat 15), false)), .lenL (tm 20), true, 0⟩,
    ⟨(some (Pos.ofNat 22)), (some ((Pos.ofNat 15), false)), .bin .geq .other false (tm 16) (tm 21), true, 0⟩,
    ⟨(some (Pos.ofNat 23)), none, .pick (tm 15) (vl (.bool true)) (tm 22), true, 0⟩,
    ⟨(some (Pos.ofNat 12)), none, .mov (tm 23), true, 0⟩]

noncomputable def at__5 : List O := [
    ⟨(some (Pos.ofNat 24)), none, .mov (tm 6), true, 0⟩,
    ⟨(some (Pos.ofNat 4)), none, .mov (tm 24), true, 0⟩,
    ⟨(some (Pos.ofNat 5)), none, .mov (vl (int64 (350))), true, 0⟩]

noncomputable def at__6 : List O := [
    ⟨(some (Pos.ofNat 25)), none, .mov (tm 0), true, 0⟩,
    ⟨(some (Pos.ofNat 26)), none, .nilCheck (tm 25), true, 0⟩,
    ⟨(some (Pos.ofNat 27)), none, .fieldAddr 0 (tm 26), true, 0⟩,
    ⟨(some (Pos.ofNat 28)), none, .load1 (tm 27), true, 0⟩,
    ⟨(some (Pos.ofNat 29)), none, .mov (tm 1), true, 0⟩,
    ⟨(some (Pos.ofNat 30)), none, .idxAddrSl 1 (tm 28) (tm 29), true, 0⟩,
    ⟨(some (Pos.ofNat 31)), none, .load1 (tm 30), true, 0⟩,
    ⟨(some (Pos.ofNat 4)), none, .mov (tm 31), true, 0⟩,
    ⟨(some (Pos.ofNat 5)), none, .mov (vl (int64 (0))), true, 0⟩]

noncomputable def at__fu : Fu := ⟨[.tmp (Pos.ofNat 4), .tmp (Pos.ofNat 5)], 32, (.seq (.region at__0) (.seq (.region at__1) (.seq (.block 0 (.seq (.region at__2) (.cond (tm 7) (.seq (.region at__3) .ret) (.seq (.region at__4) (.cond (tm 12) (.seq (.region at__5) .ret) .skip))))) (.seq (.region at__6) .ret))))⟩

theorem at__code : compFn Try.prog 21 = some at__fu := by kernel_rfl

/-! (some (*estuary/net.Net[string]).there) -/

noncomputable def there_0 : List O := [
    ⟨(some (Pos.ofNat 2)), none, .mov (vl (.bool false)), true, 0⟩]

noncomputable def there_1 : List O := [
    ⟨(some (Pos.ofNat 3)), none, .mov (tm 0), true, 0⟩,
    ⟨(some (Pos.ofNat 4)), none, .eqPtr true (tm 3) (vl .nilPtr), true, 0⟩,
    ⟨(some (Pos.ofNat 5)), none, .mov (tm 4), true, 0⟩,
    ⟨(some (Pos.ofNat 6)), (some ((Pos.ofNat 5), true)), .mov (tm 0), true, 0⟩,
    ⟨(some (Pos.ofNat 7)), (some ((Pos.ofNat 5), true)), .nilCheck (tm 6), true, 0⟩,
    ⟨(some (Pos.ofNat 8)), (some ((Pos.ofNat 5), true)), .fieldAddr 2 (tm 7), true, 0⟩,
    ⟨(some (Pos.ofNat 9)), (some ((Pos.ofNat 5), true)), .load1 (tm 8), true, 0⟩,
    ⟨(some (Pos.ofNat 10)), none, .pick (tm 5) (tm 9) (vl (.bool false)), true, 0⟩,
    ⟨(some (Pos.ofNat 2)), none, .mov (tm 10), true, 0⟩]

noncomputable def there_fu : Fu := ⟨[.tmp (Pos.ofNat 2)], 11, (.seq (.region there_0) (.seq (.region there_1) .ret))⟩

theorem there_code : compFn Try.prog 51 = some there_fu := by kernel_rfl

/-! (some slices.Concat[[]string,string]) -/

noncomputable def concat_0 : List O := [
    ⟨(some (Pos.ofNat 2)), none, .mov (vl .nilSl), true, 0⟩]

noncomputable def concat_1 : List O := [
    ⟨(some (Pos.ofNat 3)), none, .mov (vl (int64 (0))), true, 0⟩]

noncomputable def concat_2 : List O := [
    ⟨(some (Pos.ofNat 9)), none, .mov (tm 0), true, 0⟩,
    ⟨(some (Pos.ofNat 10)), none, .lenL (tm 9), true, 0⟩,
    ⟨(some (Pos.ofNat 11)), none, .mov (vl (int64 (0))), true, 0⟩]

noncomputable def concat_3 : List O := [
    ⟨(some (Pos.ofNat 12)), none, .bin .lss .other false (tm 11) (tm 10), true, 0⟩]

noncomputable def concat_4 : List O := [
    ⟨(some (Pos.ofNat 13)), none, .idxAddrSl 1 (tm 9) (tm 11), true, 0⟩,
    ⟨(some (Pos.ofNat 14)), none, .load1 (tm 13), true, 0⟩,
    ⟨(some (Pos.ofNat 5)), none, .mov (tm 14), true, 0⟩]

noncomputable def concat_5 : List O := [
    ⟨(some (Pos.ofNat 15)), none, .mov (tm 3), true, 0⟩,
    ⟨(some (Pos.ofNat 16)), none, .mov (tm 5), true, 0⟩,
    ⟨(some (Pos.ofNat 17)), none, .lenL (tm 16), true, 0⟩,
    ⟨(some (Pos.ofNat 18)), none, .bin .add .other false (tm 15) (tm 17), true, 0⟩,
    ⟨(some (Pos.ofNat 3)), none, .mov (tm 18), true, 0⟩]

noncomputable def concat_6 : List O := [
    ⟨(some (Pos.ofNat 19)), none, .mov (tm 3), true, 0⟩,
    ⟨(some (Pos.ofNat 20)), none, .bin .lss .other true (tm 19) (vl (int64 (0))), true, 0⟩]

noncomputable def concat_7 : List O := [
    ⟨(some (Pos.ofNat 21)), none, .mkIfc 9 (vl (.str 16 144083279162335362808197356371485550437)), true, 0⟩,
    ⟨none, none, .bad (badN Try.prog 52 0), true, 0⟩]

noncomputable def concat_8 : List O := [
    ⟨(some (Pos.ofNat 22)), none, .bin .add .other true (tm 11) (vl (int64 (1))), true, 0⟩,
    ⟨(some (Pos.ofNat 11)), none, .mov (tm 22), true, 0⟩]

noncomputable def concat_9 : C := (.seq (.region concat_3) (.seq (.cond (tm 12) .skip (.exit 0)) (.seq (.block 1 (.seq (.region concat_4) (.seq (.region concat_5) (.seq (.region concat_6) (.cond (tm 20) (.region concat_7) .skip))))) (.region concat_8))))

noncomputable def concat_10 : List O := [
    ⟨(some (Pos.ofNat 23)), none, .mov (tm 3), true, 0⟩,
    ⟨(some (Pos.ofNat 24)), none, .call (.value (vl (.fn (.func 79) [] []))) [(vl .nilSl), (tm 23)], true, 0⟩,
    ⟨(some (Pos.ofNat 6)), none, .mov (tm 24), true, 0⟩]

noncomputable def concat_11 : List O := [
    ⟨(some (Pos.ofNat 25)), none, .mov (tm 0), true, 0⟩,
    ⟨(some (Pos.ofNat 26)), none, .lenL (tm 25), true, 0⟩,
    ⟨(some (Pos.ofNat 27)), none, .mov (vl (int64 (0))), true, 0⟩]

noncomputable def concat_12 : List O := [
    ⟨(some (Pos.ofNat 28)), none, .bin .lss .other false (tm 27) (tm 26), true, 0⟩]

noncomputable def concat_13 : List O := [
    ⟨(some (Pos.ofNat 29)), none, .idxAddrSl 1 (tm 25) (tm 27), true, 0⟩,
    ⟨(some (Pos.ofNat 30)), none, .load1 (tm 29), true, 0⟩,
    ⟨(some (Pos.ofNat 8)), none, .mov (tm 30), true, 0⟩]

noncomputable def concat_14 : List O := [
    ⟨(some (Pos.ofNat 31)), none, .mov (tm 6), true, 0⟩,
    ⟨(some (Pos.ofNat 32)), none, .mov (tm 8), true, 0⟩,
    ⟨(some (Pos.ofNat 33)), none, .append 1 16 (tm 31) (tm 32), true, 0⟩,
    ⟨(some (Pos.ofNat 6)), none, .mov (tm 33), true, 0⟩]

noncomputable def concat_15 : List O := [
    ⟨(some (Pos.ofNat 34)), none, .bin .add .other true (tm 27) (vl (int64 (1))), true, 0⟩,
    ⟨(some (Pos.ofNat 27)), none, .mov (tm 34), true, 0⟩]

noncomputable def concat_16 : C := (.seq (.region concat_12) (.seq (.cond (tm 28) .skip (.exit 2)) (.seq (.block 3 (.seq (.region concat_13) (.region concat_14))) (.region concat_15))))

noncomputable def concat_17 : List O := [
    ⟨(some (Pos.ofNat 35)), none, .mov (tm 6), true, 0⟩,
    ⟨(some (Pos.ofNat 2)), none, .mov (tm 35), true, 0⟩]

noncomputable def concat_fu : Fu := ⟨[.tmp (Pos.ofNat 2)], 36, (.seq (.region concat_0) (.seq (.region concat_1) (.seq (.seq (.region concat_2) (.block 0 (.loop concat_9))) (.seq (.region concat_10) (.seq (.seq (.region concat_11) (.block 2 (.loop concat_16))) (.seq (.region concat_17) .ret))))))⟩

theorem concat_code : compFn Try.prog 52 = some concat_fu := by kernel_rfl

/-! (some slices.Grow[[]string,string]) -/

noncomputable def grow_0 : List O := [
    ⟨(some (Pos.ofNat 4)), none, .mov (vl .nilSl), true, 0⟩]

noncomputable def grow_1 : List O := [
    ⟨(some (Pos.ofNat 5)), none, .mov (tm 1), true, 0⟩,
    ⟨(some (Pos.ofNat 6)), none, .bin .lss .other true (tm 5) (vl (int64 (0))), true, 0⟩]

noncomputable def grow_2 : List O := [
    ⟨(some (Pos.ofNat 7)), none, .mkIfc 9 (vl (.str 18 8657270485328334183878363895755874379593317)), true, 0⟩,
    ⟨none, none, .bad (badN Try.prog 79 0), true, 0⟩]

noncomputable def grow_3 : List O := [
    ⟨(some (Pos.ofNat 8)), none, .mov (tm 1), true, 0⟩,
    ⟨(some (Pos.ofNat 9)), none, .mov (tm 0), true, 0⟩,
    ⟨(some (Pos.ofNat 10)), none, .cap (tm 9), true, 0⟩,
    ⟨(some (Pos.ofNat 11)), none, .mov (tm 0), true, 0⟩,
    ⟨(some (Pos.ofNat 12)), none, .lenL (tm 11), true, 0⟩,
    ⟨(some (Pos.ofNat 13)), none, .bin .sub .other false (tm 10) (tm 12), true, 0⟩,
    ⟨(some (Pos.ofNat 14)), none, .bin .sub .other false (tm 8) (tm 13), true, 0⟩,
    ⟨(some (Pos.ofNat 1)), none, .mov (tm 14), true, 0⟩]

noncomputable def grow_4 : List O := [
    ⟨(some (Pos.ofNat 15)), none, .mov (tm 1), true, 0⟩,
    ⟨(some (Pos.ofNat 16)), none, .bin .gtr .other true (tm 15) (vl (int64 (0))), true, 0⟩]

noncomputable def grow_5 : List O := [
    ⟨(some (Pos.ofNat 17)), none, .mov (tm 0), true, 0⟩,
    ⟨(some (Pos.ofNat 18)), none, .mov (tm 0), true, 0⟩,
    ⟨(some (Pos.ofNat 19)), none, .cap (tm 18), true, 0⟩,
    ⟨(some (Pos.ofNat 20)), none, .sliceSl 1 (tm 17) none (some (tm 19)) none, true, 0⟩,
    ⟨(some (Pos.ofNat 21)), none, .mov (tm 1), true, 0⟩,
    ⟨(some (Pos.ofNat 22)), none, .appendZ 1 16 [(.str 0 0)] (tm 20) (tm 21), true, 0⟩,
    ⟨(some (Pos.ofNat 23)), none, .mov (tm 0), true, 0⟩,
    ⟨(some (Pos.ofNat 24)), none, .lenL (tm 23), true, 0⟩,
    ⟨(some (Pos.ofNat 25)), none, .sliceSl 1 (tm 22) none (some (tm 24)) none, true, 0⟩,
    ⟨(some (Pos.ofNat 0)), none, .mov (tm 25), true, 0⟩]

noncomputable def grow_6 : List O := [
    ⟨(some (Pos.ofNat 26)), none, .mov (tm 0), true, 0⟩,
    ⟨(some (Pos.ofNat 4)), none, .mov (tm 26), true, 0⟩]

noncomputable def grow_fu : Fu := ⟨[.tmp (Pos.ofNat 4)], 27, (.seq (.region grow_0) (.seq (.seq (.region grow_1) (.cond (tm 6) (.region grow_2) .skip)) (.seq (.seq (.region grow_3) (.seq (.region grow_4) (.cond (tm 16) (.region grow_5) .skip))) (.seq (.region grow_6) .ret))))⟩

theorem grow_code : compFn Try.prog 79 = some grow_fu := by kernel_rfl

/-! (some (*estuary/net.Net[string]).Lose) -/

noncomputable def lose_0 : List O := [
    ⟨(some (Pos.ofNat 4)), none, .mov (vl (int64 (0))), true, 0⟩]

noncomputable def lose_1 : List O := [
    ⟨(some (Pos.ofNat 8)), none, .mov (tm 0), true, 0⟩,
    ⟨(some (Pos.ofNat 9)), none, .mov (tm 1), true, 0⟩,
    ⟨(some (Pos.ofNat 10)), none, .call (.value (vl (.fn (.func 19) [] []))) [(tm 8), (tm 9)], true, 0⟩,
    ⟨(some (Pos.ofNat 7)), none, .mov (tm 10), true, 0⟩,
    ⟨(some (Pos.ofNat 11)), none, .extract (tm 7) 0, true, 0⟩,
    ⟨(some (Pos.ofNat 12)), none, .extract (tm 7) 1, true, 0⟩,
    ⟨(some (Pos.ofNat 5)), none, .mov (tm 11), true, 0⟩,
    ⟨(some (Pos.ofNat 6)), none, .mov (tm 12), true, 0⟩]

noncomputable def lose_2 : List O := [
    ⟨(some (Pos.ofNat 13)), none, .mov (tm 6), true, 0⟩,
    ⟨(some (Pos.ofNat 4)), none, .mov (tm 13), true, 0⟩]

noncomputable def lose_fu : Fu := ⟨[.tmp (Pos.ofNat 4)], 14, (.seq (.region lose_0) (.seq (.region lose_1) (.seq (.region lose_2) .ret)))⟩

theorem lose_code : compFn Try.prog 20 = some lose_fu := by kernel_rfl

/-! (some (*estuary/net.Net[string]).Keep) -/

noncomputable def keep_0 : List O := [
    ⟨(some (Pos.ofNat 4)), none, .mov (vl (int64 (0))), true, 0⟩]

noncomputable def keep_1 : List O := [
    ⟨(some (Pos.ofNat 9)), none, .mov (tm 0), true, 0⟩,
    ⟨(some (Pos.ofNat 10)), none, .call (.value (vl (.fn (.func 51) [] []))) [(tm 9)], true, 0⟩,
    ⟨(some (Pos.ofNat 11)), none, .un .not (tm 10), true, 0⟩,
    ⟨(some (Pos.ofNat 12)), none, .mov (tm 11), true, 0⟩,
    ⟨(some (Pos.ofNat 13)), (some ((Pos.ofNat 12), false)), .mov (tm 1), true, 0⟩,
    ⟨(some (Pos.ofNat 14)), (some ((Pos.ofNat 12), false)), .bin .eql .fn true (tm 13) (vl .nilFn), true, 0⟩,
    ⟨(some (Pos.ofNat 15)), none, .pick (tm 12) (vl (.bool true)) (tm 14), true, 0⟩]

noncomputable def keep_2 : List O := [
    ⟨(some (Pos.ofNat 4)), none, .mov (vl (int64 (0))), true, 0⟩]

noncomputable def keep_3 : List O := [
    ⟨(some (Pos.ofNat 5)), none, .mov (vl .nilSl), true, 0⟩]

noncomputable def keep_4 : List O := [
    ⟨(some (Pos.ofNat 16)), none, .mov (tm 0), true, 0⟩,
    ⟨(some (Pos.ofNat 17)), none, .nilCheck (tm 16), true, 0⟩,
    ⟨(some (Pos.ofNat 18)), none, .fieldAddr 0 (tm 17), true, 0⟩,
    ⟨(some (Pos.ofNat 19)), none, .load1 (tm 18), true, 0⟩,
    ⟨(some (Pos.ofNat 20)), none, .call (.value (vl (.fn (.func 53) [] []))) [(tm 19)], true, 0⟩,
    ⟨(some (Pos.ofNat 21)), none, .lenL (tm 20), true, 0⟩,
    ⟨(some (Pos.ofNat 22)), none, .mov (vl (int64 (0))), true, 0⟩]

noncomputable def keep_5 : List O := [
    ⟨(some (Pos.ofNat 23)), none, .bin .lss .other false (tm 22) (tm 21), true, 0⟩]

noncomputable def keep_6 : List O := [
    ⟨(some (Pos.ofNat 24)), none, .idxAddrSl 1 (tm 20) (tm 22), true, 0⟩,
    ⟨(some (Pos.ofNat 25)), none, .load1 (tm 24), true, 0⟩,
    ⟨(some (Pos.ofNat 7)), none, .mov (tm 25), true, 0⟩]

noncomputable def keep_7 : List O := [
    ⟨(some (Pos.ofNat 26)), none, .mov (tm 1), true, 0⟩,
    ⟨(some (Pos.ofNat 27)), none, .mov (tm 7), true, 0⟩,
    ⟨(some (Pos.ofNat 28)), none, .call (.value (tm 26)) [(tm 27)], true, 0⟩]

noncomputable def keep_8 : List O := [
    ⟨(some (Pos.ofNat 29)), none, .mov (tm 5), true, 0⟩,
    ⟨(some (Pos.ofNat 30)), none, .mov (tm 7), true, 0⟩,
    ⟨(some (Pos.ofNat 31)), none, .buildSl 1 1 [(.str 0 0)] [(0, 1, (tm 30))], true, 0⟩,
    ⟨(some (Pos.ofNat 32)), none, .append 1 16 (tm 29) (tm 31), true, 0⟩,
    ⟨(some (Pos.ofNat 5)), none, .mov (tm 32), true, 0⟩]

noncomputable def keep_9 : List O := [
    ⟨(some (Pos.ofNat 33)), none, .bin .add .other true (tm 22) (vl (int64 (1))), true, 0⟩,
    ⟨(some (Pos.ofNat 22)), none, .mov (tm 33), true, 0⟩]

noncomputable def keep_10 : C := (.seq (.region keep_5) (.seq (.cond (tm 23) .skip (.exit 0)) (.seq (.block 1 (.seq (.region keep_6) (.seq (.region keep_7) (.cond (tm 28) (.region keep_8) .skip)))) (.region keep_9))))

noncomputable def keep_11 : List O := [
    ⟨(some (Pos.ofNat 34)), none, .mov (tm 0), true, 0⟩,
    ⟨(some (Pos.ofNat 35)), none, .nilCheck (tm 34), true, 0⟩,
    ⟨(some (Pos.ofNat 36)), none, .fieldAddr 0 (tm 35), true, 0⟩,
    ⟨(some (Pos.ofNat 37)), none, .load1 (tm 36), true, 0⟩,
    ⟨(some (Pos.ofNat 38)), none, .lenL (tm 37), true, 0⟩,
    ⟨(some (Pos.ofNat 39)), none, .mov (tm 5), true, 0⟩,
    ⟨(some (Pos.ofNat 40)), none, .lenL (tm 39), true, 0⟩,
    ⟨(some (Pos.ofNat 41)), none, .bin .sub .other false (tm 38) (tm 40), true, 0⟩,
    ⟨(some (Pos.ofNat 8)), none, .mov (tm 41), true, 0⟩]

noncomputable def keep_12 : List O := [
    ⟨(some (Pos.ofNat 42)), none, .mov (tm 0), true, 0⟩,
    ⟨(some (Pos.ofNat 43)), none, .mov (tm 5), true, 0⟩,
    ⟨(some (Pos.ofNat 44)), none, .nilCheck (tm 42), true, 0⟩,
    ⟨(some (Pos.ofNat 45)), none, .fieldAddr 0 (tm 44), true, 0⟩,
    ⟨none, none, .store 1 (tm 45) (tm 43), true, 0⟩]

noncomputable def keep_13 : List O := [
    ⟨(some (Pos.ofNat 46)), none, .mov (tm 8), true, 0⟩,
    ⟨(some (Pos.ofNat 4)), none, .mov (tm 46), true, 0⟩]

noncomputable def keep_fu : Fu := ⟨[.tmp (Pos.ofNat 4)], 47, (.seq (.region keep_0) (.seq (.seq (.region keep_1) (.cond (tm 15) (.seq (.region keep_2) .ret) .skip)) (.seq (.region keep_3) (.seq (.seq (.region keep_4) (.block 0 (.loop keep_10))) (.seq (.region keep_11) (.seq (.region keep_12) (.seq (.region keep_13) .ret)))))))⟩

theorem keep_code : compFn Try.prog 23 = some keep_fu := by kernel_rfl

/-! (some (*estuary/net.Net[string]).Copy) -/

noncomputable def copy_0 : List O := [
    ⟨(some (Pos.ofNat 2)), none, .mov (vl .nilPtr), true, 0⟩]

noncomputable def copy_1 : List O := [
    ⟨(some (Pos.ofNat 3)), none, .mov (tm 0), true, 0⟩,
    ⟨(some (Pos.ofNat 4)), none, .call (.value (vl (.fn (.func 51) [] []))) [(tm 3)], true, 0⟩,
    ⟨(some (Pos.ofNat 5)), none, .un .not (tm 4), true, 0⟩]

noncomputable def copy_2 : List O := [
    ⟨(some (Pos.ofNat 2)), none, .mov (vl .nilPtr), true, 0⟩]

noncomputable def copy_3 : List O := [
    ⟨(some (Pos.ofNat 6)), none, .mov (tm 0), true, 0⟩,
    ⟨(some (Pos.ofNat 7)), none, .nilCheck (tm 6), true, 1⟩,
    ⟨(some (Pos.ofNat 8)), none, .fieldAddr 0 (tm 7), true, 3⟩,
    ⟨(some (Pos.ofNat 9)), none, .load1 (tm 8), true, 7⟩,
    ⟨(some (Pos.ofNat 10)), none, .call (.value (vl (.fn (.func 53) [] []))) [(tm 9)], true, 15⟩,
    ⟨(some (Pos.ofNat 11)), none, .mov (tm 0), true, 0⟩,
    ⟨(some (Pos.ofNat 12)), none, .nilCheck (tm 11), true, 32⟩,
    ⟨(some (Pos.ofNat 13)), none, .fieldAddr 1 (tm 12), true, 96⟩,
    ⟨(some (Pos.ofNat 14)), none, .load1 (tm 13), true, 224⟩,
    ⟨(some (Pos.ofNat 15)), none, .build [.nilSl, (int64 (0)), (.bool false)] [(0, 1, (tm 10)), (1, 1, (tm 14)), (2, 1, (vl (.bool true)))], true, 511⟩,
    ⟨(some (Pos.ofNat 16)), none, .box (tm 15), true, 1023⟩,
    ⟨(some (Pos.ofNat 2)), none, .mov (tm 16), true, 2047⟩]

noncomputable def copy_fu : Fu := ⟨[.tmp (Pos.ofNat 2)], 17, (.seq (.region copy_0) (.seq (.seq (.region copy_1) (.cond (tm 5) (.seq (.region copy_2) .ret) .skip)) (.seq (.drawn copy_3) .ret)))⟩

theorem copy_code : compFn Try.prog 26 = some copy_fu := by kernel_rfl

/-! (some (*estuary/net.Net[string]).All) -/

noncomputable def all_0 : List O := [
    ⟨(some (Pos.ofNat 2)), none, .mov (vl .nilFn), true, 0⟩]

noncomputable def all_1 : List O := [
    ⟨(some (Pos.ofNat 3)), none, .new [.nilSl], true, 0⟩]

noncomputable def all_2 : List O := [
    ⟨(some (Pos.ofNat 4)), none, .mov (tm 0), true, 0⟩,
    ⟨(some (Pos.ofNat 5)), none, .call (.value (vl (.fn (.func 51) [] []))) [(tm 4)], true, 0⟩]

noncomputable def all_3 : List O := [
    ⟨(some (Pos.ofNat 6)), none, .mov (tm 0), true, 0⟩,
    ⟨(some (Pos.ofNat 7)), none, .nilCheck (tm 6), true, 0⟩,
    ⟨(some (Pos.ofNat 8)), none, .fieldAddr 0 (tm 7), true, 0⟩,
    ⟨(some (Pos.ofNat 9)), none, .load1 (tm 8), true, 0⟩,
    ⟨(some (Pos.ofNat 10)), none, .call (.value (vl (.fn (.func 53) [] []))) [(tm 9)], true, 0⟩,
    ⟨none, none, .store 1 (tm 3) (tm 10), true, 0⟩]

noncomputable def all_4 : List O := [
    ⟨(some (Pos.ofNat 11)), none, .mkFn (.func 80) [] [(tm 3)], true, 0⟩,
    ⟨(some (Pos.ofNat 2)), none, .mov (tm 11), true, 0⟩]

noncomputable def all_fu : Fu := ⟨[.tmp (Pos.ofNat 2)], 12, (.seq (.region all_0) (.seq (.region all_1) (.seq (.seq (.region all_2) (.cond (tm 5) (.region all_3) .skip)) (.seq (.region all_4) .ret))))⟩

theorem all_code : compFn Try.prog 54 = some all_fu := by kernel_rfl

/-! (some (*estuary/net.Net[string]).All$1) -/

noncomputable def allA_0 : List O := [
    ⟨(some (Pos.ofNat 2)), none, .box (tm 0), true, 0⟩]

noncomputable def allA_1 : List O := [
    ⟨(some (Pos.ofNat 5)), none, .load1 (tm 1), true, 0⟩,
    ⟨(some (Pos.ofNat 6)), none, .call (.value (vl (.fn (.func 81) [] []))) [(tm 5)], true, 0⟩]

noncomputable def allA_2 : List O := [
    ⟨(some (Pos.ofNat 3)), none, .mov (tm 7), true, 0⟩]

noncomputable def allA_3 : List O := [
    ⟨(some (Pos.ofNat 4)), none, .mov (tm 8), true, 0⟩]

noncomputable def allA_4 : C := (.seq (.region allA_2) (.region allA_3))

noncomputable def allA_5 : List O := [
    ⟨(some (Pos.ofNat 9)), none, .load1 (tm 2), true, 0⟩,
    ⟨(some (Pos.ofNat 10)), none, .mov (tm 3), true, 0⟩,
    ⟨(some (Pos.ofNat 11)), none, .mov (tm 4), true, 0⟩,
    ⟨(some (Pos.ofNat 12)), none, .call (.value (tm 9)) [(tm 10), (tm 11)], true, 0⟩,
    ⟨(some (Pos.ofNat 13)), none, .un .not (tm 12), true, 0⟩]

noncomputable def allA_6 : C := (.block 1 (.seq (.region allA_5) (.cond (tm 13) .ret .skip)))

noncomputable def allA_fu : Fu := ⟨[], 14, (.seq (.region allA_0) (.seq (.region allA_1) (.block 0 (.rangeFunc (tm 6) [(Pos.ofNat 7), (Pos.ofNat 8)] allA_4 allA_6))))⟩

theorem allA_code : compFn Try.prog 80 = some allA_fu := by kernel_rfl

/-! (some slices.All[[]string,string]) -/

noncomputable def sall_0 : List O := [
    ⟨(some (Pos.ofNat 1)), none, .box (tm 0), true, 0⟩,
    ⟨(some (Pos.ofNat 2)), none, .mov (vl .nilFn), true, 0⟩]

noncomputable def sall_1 : List O := [
    ⟨(some (Pos.ofNat 3)), none, .mkFn (.func 88) [] [(tm 1)], true, 0⟩,
    ⟨(some (Pos.ofNat 2)), none, .mov (tm 3), true, 0⟩]

noncomputable def sall_fu : Fu := ⟨[.tmp (Pos.ofNat 2)], 4, (.seq (.region sall_0) (.seq (.region sall_1) .ret))⟩

theorem sall_code : compFn Try.prog 81 = some sall_fu := by kernel_rfl

/-! (some slices.All[[]string,string]$1) -/

noncomputable def sallA_0 : List O := [
    ⟨(some (Pos.ofNat 5)), none, .load1 (tm 1), true, 0⟩,
    ⟨(some (Pos.ofNat 6)), none, .lenL (tm 5), true, 0⟩,
    ⟨(some (Pos.ofNat 7)), none, .mov (vl (int64 (0))), true, 0⟩]

noncomputable def sallA_1 : List O := [
    ⟨(some (Pos.ofNat 8)), none, .bin .lss .other false (tm 7) (tm 6), true, 0⟩]

noncomputable def sallA_2 : List O := [
    ⟨(some (Pos.ofNat 9)), none, .mov (tm 7), true, 0⟩,
    ⟨(some (Pos.ofNat 10)), none, .idxAddrSl 1 (tm 5) (tm 7), true, 0⟩,
    ⟨(some (Pos.ofNat 11)), none, .load1 (tm 10), true, 0⟩,
    ⟨(some (Pos.ofNat 3)), none, .mov (tm 9), true, 0⟩,
    ⟨(some (Pos.ofNat 4)), none, .mov (tm 11), true, 0⟩]

noncomputable def sallA_3 : List O := [
    ⟨(some (Pos.ofNat 12)), none, .mov (tm 0), true, 0⟩,
    ⟨(some (Pos.ofNat 13)), none, .mov (tm 3), true, 0⟩,
    ⟨(some (Pos.ofNat 14)), none, .mov (tm 4), true, 0⟩,
    ⟨(some (Pos.ofNat 15)), none, .call (.value (tm 12)) [(tm 13), (tm 14)], true, 0⟩,
    ⟨(some (Pos.ofNat 16)), none, .un .not (tm 15), true, 0⟩]

noncomputable def sallA_4 : List O := [
    ⟨(some (Pos.ofNat 17)), none, .bin .add .other true (tm 7) (vl (int64 (1))), true, 0⟩,
    ⟨(some (Pos.ofNat 7)), none, .mov (tm 17), true, 0⟩]

noncomputable def sallA_5 : C := (.seq (.region sallA_1) (.seq (.cond (tm 8) .skip (.exit 0)) (.seq (.block 1 (.seq (.region sallA_2) (.seq (.region sallA_3) (.cond (tm 16) .ret .skip)))) (.region sallA_4))))

noncomputable def sallA_fu : Fu := ⟨[], 18, (.seq (.region sallA_0) (.block 0 (.loop sallA_5)))⟩

theorem sallA_code : compFn Try.prog 88 = some sallA_fu := by kernel_rfl

/-! (some slices.Clone[[]string,string]) -/

noncomputable def clone_0 : List O := [
    ⟨(some (Pos.ofNat 2)), none, .mov (vl .nilSl), true, 0⟩]

noncomputable def clone_1 : List O := [
    ⟨(some (Pos.ofNat 3)), none, .mov (tm 0), true, 0⟩,
    ⟨(some (Pos.ofNat 4)), none, .bin .eql .slice true (tm 3) (vl .nilSl), true, 0⟩]

noncomputable def clone_2 : List O := [
    ⟨(some (Pos.ofNat 2)), none, .mov (vl .nilSl), true, 0⟩]

noncomputable def clone_3 : List O := [
    ⟨(some (Pos.ofNat 5)), none, .buildSl 0 1 [(.str 0 0)] [], true, 0⟩,
    ⟨(some (Pos.ofNat 6)), none, .mov (tm 0), true, 0⟩,
    ⟨(some (Pos.ofNat 7)), none, .append 1 16 (tm 5) (tm 6), true, 0⟩,
    ⟨(some (Pos.ofNat 2)), none, .mov (tm 7), true, 0⟩]

noncomputable def clone_fu : Fu := ⟨[.tmp (Pos.ofNat 2)], 8, (.seq (.region clone_0) (.seq (.seq (.region clone_1) (.cond (tm 4) (.seq (.region clone_2) .ret) .skip)) (.seq (.region clone_3) .ret)))⟩

theorem clone_code : compFn Try.prog 53 = some clone_fu := by kernel_rfl

/-! (some estuary/estuarylaw25.goes) -/

noncomputable def goes_0 : List O := [
    ⟨(some (Pos.ofNat 4)), none, .box (tm 1), true, 0⟩,
    ⟨(some (Pos.ofNat 5)), none, .box (tm 2), true, 0⟩,
    ⟨(some (Pos.ofNat 6)), none, .new [(.bool false)], true, 0⟩]

noncomputable def goes_1 : List O := [
    ⟨(some (Pos.ofNat 12)), none, .mov (tm 0), true, 0⟩,
    ⟨(some (Pos.ofNat 13)), none, .call (.value (vl (.fn (.func 54) [] []))) [(tm 12)], true, 0⟩,
    ⟨(some (Pos.ofNat 7)), none, .mov (tm 13), true, 0⟩]

noncomputable def goes_2 : List O := [
    ⟨(some (Pos.ofNat 14)), none, .mov (tm 7), true, 0⟩,
    ⟨(some (Pos.ofNat 15)), none, .bin .eql .fn true (tm 14) (vl .nilFn), true, 0⟩]

noncomputable def goes_3 : List O := [
    ⟨none, none, .store 1 (tm 6) (vl (.bool false)), true, 0⟩]

noncomputable def goes_4 : List O := [
    ⟨(some (Pos.ofNat 8)), none, .new [(int64 (0))], true, 0⟩,
    ⟨none, none, .store 1 (tm 8) (vl (int64 (0))), true, 0⟩]

noncomputable def goes_5 : List O := [
    ⟨(some (Pos.ofNat 16)), none, .load1 (tm 8), true, 0⟩,
    ⟨(some (Pos.ofNat 17)), none, .bin .lss .other true (tm 16) (vl (int64 (2))), true, 0⟩]

noncomputable def goes_6 : List O := [
    ⟨(some (Pos.ofNat 9)), none, .new [(int64 (0))], true, 0⟩,
    ⟨none, none, .store 1 (tm 9) (vl (int64 (0))), true, 0⟩]

noncomputable def goes_7 : List O := [
    ⟨(some (Pos.ofNat 20)), none, .mov (tm 7), true, 0⟩]

noncomputable def goes_8 : List O := [
    ⟨(some (Pos.ofNat 10)), none, .mov (tm 21), true, 0⟩]

noncomputable def goes_9 : List O := [
    ⟨(some (Pos.ofNat 11)), none, .mov (tm 22), true, 0⟩]

noncomputable def goes_10 : C := (.seq (.region goes_8) (.region goes_9))

noncomputable def goes_11 : List O := [
    ⟨(some (Pos.ofNat 23)), none, .load1 (tm 9), true, 0⟩,
    ⟨(some (Pos.ofNat 24)), none, .load1 (tm 4), true, 0⟩,
    ⟨(some (Pos.ofNat 25)), none, .lenL (tm 24), true, 0⟩,
    ⟨(some (Pos.ofNat 26)), none, .bin .geq .other false (tm 23) (tm 25), true, 0⟩,
    ⟨(some (Pos.ofNat 27)), none, .mov (tm 26), true, 0⟩,
    ⟨(some (Pos.ofNat 28)), (some ((Pos.ofNat 27), false)), .mov (tm 10), true, 0⟩,
    ⟨(some (Pos.ofNat 29)), (some ((Pos.ofNat 27), false)), .load1 (tm 9), true, 0⟩,
    ⟨(some (Pos.ofNat 30)), (some ((Pos.ofNat 27), false)), .bin .neq .other false (tm 28) (tm 29), true, 0⟩,
    ⟨(some (Pos.ofNat 31)), none, .pick (tm 27) (vl (.bool true)) (tm 30), true, 0⟩,
    ⟨(some (Pos.ofNat 32)), none, .mov (tm 31), true, 0⟩,
    ⟨(some (Pos.ofNat 33)), (some ((Pos.ofNat 32), false)), .mov (tm 11), true, 0⟩,
    ⟨(some (Pos.ofNat 34)), (some ((Pos.ofNat 32), false)), .load1 (tm 4), true, 0⟩,
    ⟨(some (Pos.ofNat 35)), (some ((Pos.ofNat 32), false)), .load1 (tm 9), true, 0⟩,
    ⟨(some (Pos.ofNat 36)), (some ((Pos.ofNat 32), false)), .idxAddrSl 1 (tm 34) (tm 35), true, 0⟩,
    ⟨(some (Pos.ofNat 37)), (some ((Pos.ofNat 32), false)), .load1 (tm 36), true, 0⟩,
    ⟨(some (Pos.ofNat 38)), (some ((Pos.ofNat 32), false)), .bin .neq .other false (tm 33) (tm 37), true, 0⟩,
    ⟨(some (Pos.ofNat 39)), none, .pick (tm 32) (vl (.bool true)) (tm 38), true, 0⟩]

noncomputable def goes_12 : List O := [
    ⟨none, none, .store 1 (tm 6) (vl (.bool false)), true, 0⟩]

noncomputable def goes_13 : List O := [
    ⟨(some (Pos.ofNat 40)), none, .load1 (tm 9), true, 0⟩,
    ⟨(some (Pos.ofNat 41)), none, .bin .add .other true (tm 40) (vl (int64 (1))), true, 0⟩,
    ⟨none, none, .store 1 (tm 9) (tm 41), true, 0⟩]

noncomputable def goes_14 : List O := [
    ⟨(some (Pos.ofNat 42)), none, .load1 (tm 8), true, 0⟩,
    ⟨(some (Pos.ofNat 43)), none, .bin .eql .other true (tm 42) (vl (int64 (0))), true, 0⟩,
    ⟨(some (Pos.ofNat 44)), none, .mov (tm 43), true, 0⟩,
    ⟨(some (Pos.ofNat 45)), (some ((Pos.ofNat 44), true)), .load1 (tm 9), true, 0⟩,
    ⟨(some (Pos.ofNat 46)), (some ((Pos.ofNat 44), true)), .load1 (tm 5), true, 0⟩,
    ⟨(some (Pos.ofNat 47)), (some ((Pos.ofNat 44), true)), .bin .eql .other false (tm 45) (tm 46), true, 0⟩,
    ⟨(some (Pos.ofNat 48)), none, .pick (tm 44) (tm 47) (vl (.bool false)), true, 0⟩]

noncomputable def goes_15 : C := (.block 3 (.seq (.seq (.region goes_11) (.cond (tm 39) (.seq (.region goes_12) .ret) .skip)) (.seq (.region goes_13) (.seq (.region goes_14) (.cond (tm 48) (.exit 2) .skip)))))

noncomputable def goes_16 : List O := [
    ⟨(some (Pos.ofNat 49)), none, .load1 (tm 8), true, 0⟩,
    ⟨(some (Pos.ofNat 50)), none, .bin .eql .other true (tm 49) (vl (int64 (1))), true, 0⟩,
    ⟨(some (Pos.ofNat 51)), none, .mov (tm 50), true, 0⟩,
    ⟨(some (Pos.ofNat 52)), (some ((Pos.ofNat 51), true)), .load1 (tm 9), true, 0⟩,
    ⟨(some (Pos.ofNat 53)), (some ((Pos.ofNat 51), true)), .load1 (tm 4), true, 0⟩,
    ⟨(some (Pos.ofNat 54)), (some ((Pos.ofNat 51), true)), .lenL (tm 53), true, 0⟩,
    ⟨(some (Pos.ofNat 55)), (some ((Pos.ofNat 51), true)), .bin .neq .other false (tm 52) (tm 54), true, 0⟩,
    ⟨(some (Pos.ofNat 56)), none, .pick (tm 51) (tm 55) (vl (.bool false)), true, 0⟩,
    ⟨(some (Pos.ofNat 57)), none, .mov (tm 56), true, 0⟩,
    ⟨(some (Pos.ofNat 58)), (some ((Pos.ofNat 57), false)), .load1 (tm 8), true, 0⟩,
    ⟨(some (Pos.ofNat 59)), (some ((Pos.ofNat 57), false)), .bin .eql .other true (tm 58) (vl (int64 (0))), true, 0⟩,
    ⟨(some (Pos.ofNat 60)), (some ((Pos.ofNat 57), false)), .mov (tm 59), true, 0⟩,
    ⟨(some (Pos.ofNat 61)), (some ((Pos.ofNat 60), true)), .load1 (tm 9), true, 0⟩,
    ⟨(some (Pos.ofNat 62)), (some ((Pos.ofNat 60), true)), .load1 (tm 4), true, 0⟩,
    ⟨(some (Pos.ofNat 63)), (some ((Pos.ofNat 60), true)), .lenL (tm 62), true, 0⟩,
    ⟨(some (Pos.ofNat 64)), (some ((Pos.ofNat 60), true)), .bin .neq .other false (tm 61) (tm 63), true, 0⟩,
    ⟨(some (Pos.ofNat 65)), (some ((Pos.ofNat 57), false)), .pick (tm 60) (tm 64) (vl (.bool false)), true, 0⟩,
    ⟨(some (Pos.ofNat 66)), (some ((Pos.ofNat 57), false)), .mov (tm 65), true, 0⟩,
    ⟨(some (Pos.ofNat 67)), (some ((Pos.ofNat 66), true)), .load1 (tm 9), true, 0⟩,
    ⟨(some (Pos.ofNat 68)), (some ((Pos.ofNat 66), true)), .load1 (tm 5), true, 0⟩,
    ⟨(some (Pos.ofNat 69)), (some ((Pos.ofNat 66), true)), .bin .neq .other false (tm 67) (tm 68), true, 0⟩,
    ⟨(some (Pos.ofNat 70)), (some ((Pos.ofNat 57), false)), .pick (tm 66) (tm 69) (vl (.bool false)), true, 0⟩,
    ⟨(some (Pos.ofNat 71)), none, .pick (tm 57) (vl (.bool true)) (tm 70), true, 0⟩]

noncomputable def goes_17 : List O := [
    ⟨none, none, .store 1 (tm 6) (vl (.bool false)), true, 0⟩]

noncomputable def goes_18 : List O := [
    ⟨(some (Pos.ofNat 72)), none, .load1 (tm 8), true, 0⟩]

noncomputable def goes_19 : List O := [
    ⟨(some (Pos.ofNat 8)), none, .new [(int64 (0))], true, 0⟩,
    ⟨none, none, .store 1 (tm 8) (tm 72), true, 0⟩]

noncomputable def goes_20 : List O := [
    ⟨(some (Pos.ofNat 18)), none, .load1 (tm 8), true, 0⟩,
    ⟨(some (Pos.ofNat 19)), none, .bin .add .other true (tm 18) (vl (int64 (1))), true, 0⟩,
    ⟨none, none, .store 1 (tm 8) (tm 19), true, 0⟩]

noncomputable def goes_21 : C := (.seq (.seq (.region goes_5) (.cond (tm 17) .skip (.exit 0))) (.seq (.block 1 (.seq (.region goes_6) (.seq (.seq (.region goes_7) (.block 2 (.rangeFunc (tm 20) [(Pos.ofNat 21), (Pos.ofNat 22)] goes_10 goes_15))) (.seq (.region goes_16) (.cond (tm 71) (.seq (.region goes_17) .ret) .skip))))) (.seq (.seq (.region goes_18) (.region goes_19)) (.region goes_20))))

noncomputable def goes_22 : List O := [
    ⟨none, none, .store 1 (tm 6) (vl (.bool true)), true, 0⟩]

noncomputable def goes_fu : Fu := ⟨[.cell1 (Pos.ofNat 6)], 73, (.seq (.region goes_0) (.seq (.region goes_1) (.seq (.seq (.region goes_2) (.cond (tm 15) (.seq (.region goes_3) .ret) .skip)) (.seq (.seq (.region goes_4) (.block 0 (.loop goes_21))) (.seq (.region goes_22) .ret)))))⟩

theorem goes_code : compFn Try.prog 25 = some goes_fu := by kernel_rfl

/-! (some estuary/estuarylaw25.NetPlays$1) -/

noncomputable def pred_0 : List O := [
    ⟨(some (Pos.ofNat 3)), none, .mov (vl (.bool false)), true, 0⟩]

noncomputable def pred_1 : List O := [
    ⟨(some (Pos.ofNat 4)), none, .mov (tm 0), true, 0⟩,
    ⟨(some (Pos.ofNat 5)), none, .lenS (tm 4), true, 0⟩,
    ⟨(some (Pos.ofNat 6)), none, .fieldAddr 1 (tm 1), true, 0⟩,
    ⟨(some (Pos.ofNat 7)), none, .load1 (tm 6), true, 0⟩,
    ⟨(some (Pos.ofNat 8)), none, .bin .gtr .other false (tm 5) (tm 7), true, 0⟩,
    ⟨(some (Pos.ofNat 3)), none, .mov (tm 8), true, 0⟩]

noncomputable def pred_fu : Fu := ⟨[.tmp (Pos.ofNat 3)], 9, (.seq (.region pred_0) (.seq (.region pred_1) .ret))⟩

theorem pred_code : compFn Try.prog 24 = some pred_fu := by kernel_rfl

/-! (some estuary/estuarylaw25.NetPlays) -/

noncomputable def plays_0 : List O := [
    ⟨(some (Pos.ofNat 2)), none, .mov (vl (.bool false)), true, 0⟩]

noncomputable def plays_1 : List O := [
    ⟨(some (Pos.ofNat 19)), none, .call (.value (vl (.fn (.func 17) [] []))) [], true, 0⟩,
    ⟨(some (Pos.ofNat 3)), none, .mov (tm 19), true, 0⟩]

noncomputable def plays_2 : List O := [
    ⟨(some (Pos.ofNat 20)), none, .mov (tm 3), true, 0⟩,
    ⟨(some (Pos.ofNat 21)), none, .eqPtr false (tm 20) (vl .nilPtr), true, 0⟩]

noncomputable def plays_3 : List O := [
    ⟨(some (Pos.ofNat 2)), none, .mov (vl (.bool false)), true, 0⟩]

noncomputable def plays_4 : List O := [
    ⟨(some (Pos.ofNat 4)), none, .mov (vl .nilSl), true, 0⟩]

noncomputable def plays_5 : List O := [
    ⟨(some (Pos.ofNat 5)), none, .mov (vl (int64 (0))), true, 0⟩]

noncomputable def plays_6 : List O := [
    ⟨(some (Pos.ofNat 6)), none, .mov (vl (int64 (0))), true, 0⟩]

noncomputable def plays_7 : List O := [
    ⟨(some (Pos.ofNat 22)), none, .mov (tm 6), true, 0⟩,
    ⟨(some (Pos.ofNat 23)), none, .mov (tm 0), true, 0⟩,
    ⟨(some (Pos.ofNat 24)), none, .lenL (tm 23), true, 0⟩,
    ⟨(some (Pos.ofNat 25)), none, .bin .lss .other false (tm 22) (tm 24), true, 0⟩,
    ⟨(some (Pos.ofNat 26)), none, .mov (tm 25), true, 0⟩,
    ⟨(some (Pos.ofNat 27)), (some ((Pos.ofNat 26), true)), .mov (tm 6), true, 0⟩,
    ⟨(some (Pos.ofNat 28)), (some ((Pos.ofNat 26), true)), .bin .lss .other true (tm 27) (vl (int64 (400))), true, 0⟩,
    ⟨(some (Pos.ofNat 29)), none, .pick (tm 26) (tm 28) (vl (.bool false)), true, 0⟩]

noncomputable def plays_8 : List O := [
    ⟨(some (Pos.ofNat 32)), none, .mov (tm 0), true, 0⟩,
    ⟨(some (Pos.ofNat 33)), none, .mov (tm 6), true, 0⟩,
    ⟨(some (Pos.ofNat 34)), none, .idxAddrSl 3 (tm 32) (tm 33), true, 0⟩,
    ⟨(some (Pos.ofNat 35)), none, .loadN 3 (tm 34), true, 0⟩,
    ⟨(some (Pos.ofNat 7)), none, .new [(int64 (0)), (int64 (0)), .nilSl], true, 0⟩,
    ⟨none, none, .store 3 (tm 7) (tm 35), true, 0⟩]

noncomputable def plays_9 : List O := [
    ⟨(some (Pos.ofNat 36)), none, .fieldAddr 1 (tm 7), true, 0⟩,
    ⟨(some (Pos.ofNat 37)), none, .load1 (tm 36), true, 0⟩,
    ⟨(some (Pos.ofNat 38)), none, .bin .geq .other true (tm 37) (vl (int64 (0))), true, 0⟩,
    ⟨(some (Pos.ofNat 39)), none, .mov (tm 38), true, 0⟩,
    ⟨(some (Pos.ofNat 40)), (some ((Pos.ofNat 39), true)), .fieldAddr 1 (tm 7), true, 0⟩,
    ⟨(some (Pos.ofNat 41)), (some ((Pos.ofNat 39), true)), .load1 (tm 40), true, 0⟩,
    ⟨(some (Pos.ofNat 42)), (some ((Pos.ofNat 39), true)), .mov (tm 4), true, 0⟩,
    ⟨(some (Pos.ofNat 43)), (some ((Pos.ofNat 39), true)), .lenL (tm 42), true, 0⟩,
    ⟨(some (Pos.ofNat 44)), (some ((Pos.ofNat 39), true)), .bin .lss .other false (tm 41) (tm 43), true, 0⟩,
    ⟨(some (Pos.ofNat 45)), none, .pick (tm 39) (tm 44) (vl (.bool false)), true, 0⟩,
    ⟨(some (Pos.ofNat 8)), none, .mov (tm 45), true, 0⟩]

noncomputable def plays_10 : List O := [
    ⟨(some (Pos.ofNat 46)), none, .fieldAddr 0 (tm 7), true, 0⟩,
    ⟨(some (Pos.ofNat 47)), none, .load1 (tm 46), true, 0⟩]

noncomputable def plays_11 : List O := [
    ⟨(some (Pos.ofNat 49)), none, .bin .eql .other true (tm 47) (vl (int64 (1))), true, 0⟩,
    ⟨(some (Pos.ofNat 48)), none, .mov (tm 49), true, 0⟩]

noncomputable def plays_12 : List O := [
    ⟨(some (Pos.ofNat 9)), none, .mov (vl .nilSl), true, 0⟩]

noncomputable def plays_13 : List O := [
    ⟨(some (Pos.ofNat 50)), none, .mov (tm 9), true, 0⟩,
    ⟨(some (Pos.ofNat 51)), none, .fieldAddr 2 (tm 7), true, 0⟩,
    ⟨(some (Pos.ofNat 52)), none, .load1 (tm 51), true, 0⟩,
    ⟨(some (Pos.ofNat 53)), none, .append 1 16 (tm 50) (tm 52), true, 0⟩,
    ⟨(some (Pos.ofNat 9)), none, .mov (tm 53), true, 0⟩]

noncomputable def plays_14 : List O := [
    ⟨(some (Pos.ofNat 54)), none, .mov (tm 3), true, 0⟩,
    ⟨(some (Pos.ofNat 55)), none, .mov (tm 9), true, 0⟩,
    ⟨(some (Pos.ofNat 56)), none, .call (.value (vl (.fn (.func 18) [] []))) [(tm 54), (tm 55)], true, 0⟩,
    ⟨(some (Pos.ofNat 10)), none, .mov (tm 56), true, 0⟩]

noncomputable def plays_15 : List O := [
    ⟨(some (Pos.ofNat 57)), none, .fieldAddr 2 (tm 7), true, 0⟩,
    ⟨(some (Pos.ofNat 58)), none, .load1 (tm 57), true, 0⟩,
    ⟨(some (Pos.ofNat 59)), none, .lenL (tm 58), true, 0⟩,
    ⟨(some (Pos.ofNat 60)), none, .mov (tm 4), true, 0⟩,
    ⟨(some (Pos.ofNat 61)), none, .lenL (tm 60), true, 0⟩,
    ⟨(some (Pos.ofNat 62)), none, .bin .sub .other true (vl (int64 (65536))) (tm 61), true, 0⟩,
    ⟨(some (Pos.ofNat 63)), none, .bin .gtr .other false (tm 59) (tm 62), true, 0⟩]

noncomputable def plays_16 : List O := [
    ⟨(some (Pos.ofNat 64)), none, .mov (tm 10), true, 0⟩,
    ⟨(some (Pos.ofNat 65)), none, .bin .neq .other true (tm 64) (vl (int64 (8))), true, 0⟩]

noncomputable def plays_17 : List O := [
    ⟨(some (Pos.ofNat 2)), none, .mov (vl (.bool false)), true, 0⟩]

noncomputable def plays_18 : List O := [
    ⟨(some (Pos.ofNat 11)), none, .mov (vl (int64 (0))), true, 0⟩]

noncomputable def plays_19 : List O := [
    ⟨(some (Pos.ofNat 66)), none, .mov (tm 11), true, 0⟩,
    ⟨(some (Pos.ofNat 67)), none, .mov (tm 9), true, 0⟩,
    ⟨(some (Pos.ofNat 68)), none, .lenL (tm 67), true, 0⟩,
    ⟨(some (Pos.ofNat 69)), none, .bin .lss .other false (tm 66) (tm 68), true, 0⟩]

noncomputable def plays_20 : List O := [
    ⟨(some (Pos.ofNat 72)), none, .mov (tm 9), true, 0⟩,
    ⟨(some (Pos.ofNat 73)), none, .mov (tm 11), true, 0⟩,
    ⟨(some (Pos.ofNat 74)), none, .idxAddrSl 1 (tm 72) (tm 73), true, 0⟩,
    ⟨none, none, .store 1 (tm 74) (vl (.str 4 1870030194)), true, 0⟩]

noncomputable def plays_21 : List O := [
    ⟨(some (Pos.ofNat 70)), none, .mov (tm 11), true, 0⟩,
    ⟨(some (Pos.ofNat 71)), none, .bin .add .other true (tm 70) (vl (int64 (1))), true, 0⟩,
    ⟨(some (Pos.ofNat 11)), none, .mov (tm 71), true, 0⟩]

noncomputable def plays_22 : C := (.seq (.seq (.region plays_19) (.cond (tm 69) .skip (.exit 3))) (.seq (.block 4 (.region plays_20)) (.region plays_21)))

noncomputable def plays_23 : List O := [
    ⟨(some (Pos.ofNat 75)), none, .mov (tm 4), true, 0⟩,
    ⟨(some (Pos.ofNat 76)), none, .fieldAddr 2 (tm 7), true, 0⟩,
    ⟨(some (Pos.ofNat 77)), none, .load1 (tm 76), true, 0⟩,
    ⟨(some (Pos.ofNat 78)), none, .append 1 16 (tm 75) (tm 77), true, 0⟩,
    ⟨(some (Pos.ofNat 4)), none, .mov (tm 78), true, 0⟩]

noncomputable def plays_24 : List O := [
    ⟨(some (Pos.ofNat 79)), none, .mov (tm 5), true, 0⟩,
    ⟨(some (Pos.ofNat 80)), none, .fieldAddr 2 (tm 7), true, 0⟩,
    ⟨(some (Pos.ofNat 81)), none, .load1 (tm 80), true, 0⟩,
    ⟨(some (Pos.ofNat 82)), none, .lenL (tm 81), true, 0⟩,
    ⟨(some (Pos.ofNat 83)), none, .bin .add .other false (tm 79) (tm 82), true, 0⟩,
    ⟨(some (Pos.ofNat 5)), none, .mov (tm 83), true, 0⟩]

noncomputable def plays_25 : List O := [
    ⟨(some (Pos.ofNat 84)), none, .mov (tm 10), true, 0⟩,
    ⟨(some (Pos.ofNat 85)), none, .bin .neq .other true (tm 84) (vl (int64 (0))), true, 0⟩]

noncomputable def plays_26 : List O := [
    ⟨(some (Pos.ofNat 2)), none, .mov (vl (.bool false)), true, 0⟩]

noncomputable def plays_27 : List O := [
    ⟨(some (Pos.ofNat 87)), none, .bin .eql .other true (tm 47) (vl (int64 (2))), true, 0⟩,
    ⟨(some (Pos.ofNat 86)), none, .mov (tm 87), true, 0⟩]

noncomputable def plays_28 : List O := [
    ⟨(some (Pos.ofNat 88)), none, .bin .eql .other true (tm 47) (vl (int64 (4))), true, 0⟩,
    ⟨(some (Pos.ofNat 86)), none, .mov (tm 88), true, 0⟩]

noncomputable def plays_29 : List O := [
    ⟨(some (Pos.ofNat 89)), none, .bin .eql .other true (tm 47) (vl (int64 (6))), true, 0⟩,
    ⟨(some (Pos.ofNat 86)), none, .mov (tm 89), true, 0⟩]

noncomputable def plays_30 : List O := [
    ⟨(some (Pos.ofNat 12)), none, .mov (vl (.str 0 0)), true, 0⟩,
    ⟨(some (Pos.ofNat 13)), none, .mov (vl (int64 (0))), true, 0⟩]

noncomputable def plays_31 : List O := [
    ⟨(some (Pos.ofNat 90)), none, .fieldAddr 0 (tm 7), true, 0⟩,
    ⟨(some (Pos.ofNat 91)), none, .load1 (tm 90), true, 0⟩,
    ⟨(some (Pos.ofNat 92)), none, .bin .eql .other true (tm 91) (vl (int64 (2))), true, 0⟩]

noncomputable def plays_32 : List O := [
    ⟨(some (Pos.ofNat 94)), none, .mov (tm 3), true, 0⟩,
    ⟨(some (Pos.ofNat 95)), none, .fieldAddr 1 (tm 7), true, 0⟩,
    ⟨(some (Pos.ofNat 96)), none, .load1 (tm 95), true, 0⟩,
    ⟨(some (Pos.ofNat 97)), none, .call (.value (vl (.fn (.func 19) [] []))) [(tm 94), (tm 96)], true, 0⟩,
    ⟨(some (Pos.ofNat 93)), none, .mov (tm 97), true, 0⟩,
    ⟨(some (Pos.ofNat 98)), none, .extract (tm 93) 0, true, 0⟩,
    ⟨(some (Pos.ofNat 99)), none, .extract (tm 93) 1, true, 0⟩,
    ⟨(some (Pos.ofNat 12)), none, .mov (tm 98), true, 0⟩,
    ⟨(some (Pos.ofNat 13)), none, .mov (tm 99), true, 0⟩]

noncomputable def plays_33 : List O := [
    ⟨(some (Pos.ofNat 100)), none, .fieldAddr 0 (tm 7), true, 0⟩,
    ⟨(some (Pos.ofNat 101)), none, .load1 (tm 100), true, 0⟩,
    ⟨(some (Pos.ofNat 102)), none, .bin .eql .other true (tm 101) (vl (int64 (4))), true, 0⟩]

noncomputable def plays_34 : List O := [
    ⟨(some (Pos.ofNat 103)), none, .mov (tm 3), true, 0⟩,
    ⟨(some (Pos.ofNat 104)), none, .fieldAddr 1 (tm 7), true, 0⟩,
    ⟨(some (Pos.ofNat 105)), none, .load1 (tm 104), true, 0⟩,
    ⟨(some (Pos.ofNat 106)), none, .call (.value (vl (.fn (.func 20) [] []))) [(tm 103), (tm 105)], true, 0⟩,
    ⟨(some (Pos.ofNat 13)), none, .mov (tm 106), true, 0⟩]

noncomputable def plays_35 : List O := [
    ⟨(some (Pos.ofNat 108)), none, .mov (tm 3), true, 0⟩,
    ⟨(some (Pos.ofNat 109)), none, .fieldAddr 1 (tm 7), true, 0⟩,
    ⟨(some (Pos.ofNat 110)), none, .load1 (tm 109), true, 0⟩,
    ⟨(some (Pos.ofNat 111)), none, .call (.value (vl (.fn (.func 21) [] []))) [(tm 108), (tm 110)], true, 0⟩,
    ⟨(some (Pos.ofNat 107)), none, .mov (tm 111), true, 0⟩,
    ⟨(some (Pos.ofNat 112)), none, .extract (tm 107) 0, true, 0⟩,
    ⟨(some (Pos.ofNat 113)), none, .extract (tm 107) 1, true, 0⟩,
    ⟨(some (Pos.ofNat 12)), none, .mov (tm 112), true, 0⟩,
    ⟨(some (Pos.ofNat 13)), none, .mov (tm 113), true, 0⟩]

noncomputable def plays_36 : List O := [
    ⟨(some (Pos.ofNat 114)), none, .mov (tm 8), true, 0⟩,
    ⟨(some (Pos.ofNat 115)), none, .un .not (tm 114), true, 0⟩]

noncomputable def plays_37 : List O := [
    ⟨(some (Pos.ofNat 116)), none, .mov (tm 13), true, 0⟩,
    ⟨(some (Pos.ofNat 117)), none, .bin .neq .other true (tm 116) (vl (int64 (350))), true, 0⟩,
    ⟨(some (Pos.ofNat 118)), none, .mov (tm 117), true, 0⟩,
    ⟨(some (Pos.ofNat 119)), (some ((Pos.ofNat 118), false)), .mov (tm 12), true, 0⟩,
    ⟨(some (Pos.ofNat 120)), (some ((Pos.ofNat 118), false)), .bin .neq .other true (tm 119) (vl (.str 0 0)), true, 0⟩,
    ⟨(some (Pos.ofNat 121)), none, .pick (tm 118) (vl (.bool true)) (tm 120), true, 0⟩]

noncomputable def plays_38 : List O := [
    ⟨(some (Pos.ofNat 2)), none, .mov (vl (.bool false)), true, 0⟩]

noncomputable def plays_39 : List O := [
    ⟨(some (Pos.ofNat 122)), none, .mov (tm 13), true, 0⟩,
    ⟨(some (Pos.ofNat 123)), none, .bin .neq .other true (tm 122) (vl (int64 (0))), true, 0⟩,
    ⟨(some (Pos.ofNat 124)), none, .mov (tm 123), true, 0⟩,
    ⟨(some (Pos.ofNat 125)), (some ((Pos.ofNat 124), false)), .fieldAddr 0 (tm 7), true, 0⟩,
    ⟨(some (Pos.ofNat 126)), (some ((Pos.ofNat 124), false)), .load1 (tm 125), true, 0⟩,
    ⟨(some (Pos.ofNat 127)), (some ((Pos.ofNat 124), false)), .bin .neq .other true (tm 126) (vl (int64 (4))), true, 0⟩,
    ⟨(some (Pos.ofNat 128)), (some ((Pos.ofNat 124), false)), .mov (tm 127), true, 0⟩,
    ⟨(some (Pos.ofNat 129)), (some ((Pos.ofNat 128), true)), .mov (tm 12), true, 0⟩,
    ⟨(some (Pos.ofNat 130)), (some ((Pos.ofNat 128), true)), .mov (tm 4), true, 0⟩,
    ⟨(some (Pos.ofNat 131)), (some ((Pos.ofNat 128), true)), .fieldAddr 1 (tm 7), true, 0⟩,
    ⟨(some (Pos.ofNat 132)), (some ((Pos.ofNat 128), true)), .load1 (tm 131), true, 0⟩,
    ⟨(some (Pos.ofNat 133)), (some ((Pos.ofNat 128), true)), .idxAddrSl 1 (tm 130) (tm 132), true, 0⟩,
    ⟨(some (Pos.ofNat 134)), (some ((Pos.ofNat 128), true)), .load1 (tm 133), true, 0⟩,
    ⟨(some (Pos.ofNat 135)), (some ((Pos.ofNat 128), true)), .bin .neq .other false (tm 129) (tm 134), true, 0⟩,
    ⟨(some (Pos.ofNat 136)), (some ((Pos.ofNat 124), false)), .pick (tm 128) (tm 135) (vl (.bool false)), true, 0⟩,
    ⟨(some (Pos.ofNat 137)), none, .pick (tm 124) (vl (.bool true)) (tm 136), true, 0⟩]

noncomputable def plays_40 : List O := [
    ⟨(some (Pos.ofNat 2)), none, .mov (vl (.bool false)), true, 0⟩]

noncomputable def plays_41 : List O := [
    ⟨(some (Pos.ofNat 138)), none, .fieldAddr 0 (tm 7), true, 0⟩,
    ⟨(some (Pos.ofNat 139)), none, .load1 (tm 138), true, 0⟩,
    ⟨(some (Pos.ofNat 140)), none, .bin .neq .other true (tm 139) (vl (int64 (6))), true, 0⟩]

noncomputable def plays_42 : List O := [
    ⟨(some (Pos.ofNat 141)), none, .mov (tm 4), true, 0⟩,
    ⟨(some (Pos.ofNat 142)), none, .fieldAddr 1 (tm 7), true, 0⟩,
    ⟨(some (Pos.ofNat 143)), none, .load1 (tm 142), true, 2⟩,
    ⟨(some (Pos.ofNat 144)), none, .sliceSl 1 (tm 141) none (some (tm 143)) none, true, 7⟩,
    ⟨(some (Pos.ofNat 145)), none, .append 1 16 (vl .nilSl) (tm 144), true, 15⟩,
    ⟨(some (Pos.ofNat 146)), none, .mov (tm 4), true, 0⟩,
    ⟨(some (Pos.ofNat 147)), none, .fieldAddr 1 (tm 7), true, 0⟩,
    ⟨(some (Pos.ofNat 148)), none, .load1 (tm 147), true, 64⟩,
    ⟨(some (Pos.ofNat 149)), none, .bin .add .other true (tm 148) (vl (int64 (1))), true, 192⟩,
    ⟨(some (Pos.ofNat 150)), none, .sliceSl 1 (tm 146) (some (tm 149)) none none, true, 480⟩,
    ⟨(some (Pos.ofNat 151)), none, .append 1 16 (tm 145) (tm 150), true, 1023⟩,
    ⟨(some (Pos.ofNat 4)), none, .mov (tm 151), true, 2047⟩]

noncomputable def plays_43 : List O := [
    ⟨(some (Pos.ofNat 153)), none, .bin .eql .other true (tm 47) (vl (int64 (3))), true, 0⟩,
    ⟨(some (Pos.ofNat 152)), none, .mov (tm 153), true, 0⟩]

noncomputable def plays_44 : List O := [
    ⟨(some (Pos.ofNat 154)), none, .mov (tm 3), true, 0⟩,
    ⟨(some (Pos.ofNat 155)), none, .fieldAddr 1 (tm 7), true, 0⟩,
    ⟨(some (Pos.ofNat 156)), none, .load1 (tm 155), true, 0⟩,
    ⟨(some (Pos.ofNat 157)), none, .call (.value (vl (.fn (.func 22) [] []))) [(tm 154), (tm 156)], true, 0⟩,
    ⟨(some (Pos.ofNat 14)), none, .mov (tm 157), true, 0⟩]

noncomputable def plays_45 : List O := [
    ⟨(some (Pos.ofNat 158)), none, .mov (tm 8), true, 0⟩,
    ⟨(some (Pos.ofNat 159)), none, .un .not (tm 158), true, 0⟩,
    ⟨(some (Pos.ofNat 160)), none, .mov (tm 159), true, 0⟩,
    ⟨(some (Pos.ofNat 161)), (some ((Pos.ofNat 160), true)), .mov (tm 14), true, 0⟩,
    ⟨(some (Pos.ofNat 162)), (some ((Pos.ofNat 160), true)), .bin .neq .other true (tm 161) (vl (int64 (350))), true, 0⟩,
    ⟨(some (Pos.ofNat 163)), none, .pick (tm 160) (tm 162) (vl (.bool false)), true, 0⟩,
    ⟨(some (Pos.ofNat 164)), none, .mov (tm 163), true, 0⟩,
    ⟨(some (Pos.ofNat 165)), (some ((Pos.ofNat 164), false)), .mov (tm 8), true, 0⟩,
    ⟨(some (Pos.ofNat 166)), (some ((Pos.ofNat 164), false)), .mov (tm 165), true, 0⟩,
    ⟨(some (Pos.ofNat 167)), (some ((Pos.ofNat 166), true)), .mov (tm 14), true, 0⟩,
    ⟨(some (Pos.ofNat 168)), (some ((Pos.ofNat 166), true)), .bin .neq .other true (tm 167) (vl (int64 (0))), true, 0⟩,
    ⟨(some (Pos.ofNat 169)), (some ((Pos.ofNat 166), true)), .mov (tm 4), true, 0⟩,
    ⟨(some (Pos.ofNat 170)), (some ((Pos.ofNat 166), true)), .lenL (tm 169), true, 0⟩,
    ⟨(some (Pos.ofNat 171)), (some ((Pos.ofNat 166), true)), .bin .geq .other true (tm 170) (vl (int64 (65536))), true, 0⟩,
    ⟨(some (Pos.ofNat 172)), (some ((Pos.ofNat 166), true)), .bin .neq .bool false (tm 168) (tm 171), true, 0⟩,
    ⟨(some (Pos.ofNat 173)), (some ((Pos.ofNat 164), false)), .pick (tm 166) (tm 172) (vl (.bool false)), true, 0⟩,
    ⟨(some (Pos.ofNat 174)), none, .pick (tm 164) (vl (.bool true)) (tm 173), true, 0⟩]

noncomputable def plays_46 : List O := [
    ⟨(some (Pos.ofNat 2)), none, .mov (vl (.bool false)), true, 0⟩]

noncomputable def plays_47 : List O := [
    ⟨(some (Pos.ofNat 175)), none, .mov (tm 14), true, 0⟩,
    ⟨(some (Pos.ofNat 176)), none, .bin .eql .other true (tm 175) (vl (int64 (0))), true, 0⟩]

noncomputable def plays_48 : List O := [
    ⟨(some (Pos.ofNat 177)), none, .mov (tm 4), true, 0⟩,
    ⟨(some (Pos.ofNat 178)), none, .mov (tm 4), true, 0⟩,
    ⟨(some (Pos.ofNat 179)), none, .fieldAddr 1 (tm 7), true, 0⟩,
    ⟨(some (Pos.ofNat 180)), none, .load1 (tm 179), true, 0⟩,
    ⟨(some (Pos.ofNat 181)), none, .idxAddrSl 1 (tm 178) (tm 180), true, 0⟩,
    ⟨(some (Pos.ofNat 182)), none, .load1 (tm 181), true, 0⟩,
    ⟨(some (Pos.ofNat 183)), none, .buildSl 1 1 [(.str 0 0)] [(0, 1, (tm 182))], true, 0⟩,
    ⟨(some (Pos.ofNat 184)), none, .append 1 16 (tm 177) (tm 183), true, 0⟩,
    ⟨(some (Pos.ofNat 4)), none, .mov (tm 184), true, 0⟩]

noncomputable def plays_49 : List O := [
    ⟨(some (Pos.ofNat 185)), none, .mov (tm 5), true, 0⟩,
    ⟨(some (Pos.ofNat 186)), none, .bin .add .other true (tm 185) (vl (int64 (1))), true, 0⟩,
    ⟨(some (Pos.ofNat 5)), none, .mov (tm 186), true, 0⟩]

noncomputable def plays_50 : List O := [
    ⟨(some (Pos.ofNat 188)), none, .bin .eql .other true (tm 47) (vl (int64 (5))), true, 0⟩,
    ⟨(some (Pos.ofNat 187)), none, .mov (tm 188), true, 0⟩]

noncomputable def plays_51 : List O := [
    ⟨(some (Pos.ofNat 189)), none, .mov (tm 3), true, 0⟩,
    ⟨(some (Pos.ofNat 190)), none, .mkFn (.func 24) [] [(tm 7)], true, 0⟩,
    ⟨(some (Pos.ofNat 191)), none, .call (.value (vl (.fn (.func 23) [] []))) [(tm 189), (tm 190)], true, 0⟩,
    ⟨(some (Pos.ofNat 15)), none, .mov (tm 191), true, 0⟩]

noncomputable def plays_52 : List O := [
    ⟨(some (Pos.ofNat 16)), none, .mov (vl .nilSl), true, 0⟩]

noncomputable def plays_53 : List O := [
    ⟨(some (Pos.ofNat 17)), none, .mov (vl (int64 (0))), true, 0⟩]

noncomputable def plays_54 : List O := [
    ⟨(some (Pos.ofNat 192)), none, .mov (tm 17), true, 0⟩,
    ⟨(some (Pos.ofNat 193)), none, .mov (tm 4), true, 0⟩,
    ⟨(some (Pos.ofNat 194)), none, .lenL (tm 193), true, 0⟩,
    ⟨(some (Pos.ofNat 195)), none, .bin .lss .other false (tm 192) (tm 194), true, 0⟩]

noncomputable def plays_55 : List O := [
    ⟨(some (Pos.ofNat 198)), none, .mov (tm 4), true, 0⟩,
    ⟨(some (Pos.ofNat 199)), none, .mov (tm 17), true, 0⟩,
    ⟨(some (Pos.ofNat 200)), none, .idxAddrSl 1 (tm 198) (tm 199), true, 3⟩,
    ⟨(some (Pos.ofNat 201)), none, .load1 (tm 200), true, 7⟩,
    ⟨(some (Pos.ofNat 202)), none, .lenS (tm 201), true, 15⟩,
    ⟨(some (Pos.ofNat 203)), none, .fieldAddr 1 (tm 7), true, 0⟩,
    ⟨(some (Pos.ofNat 204)), none, .load1 (tm 203), true, 32⟩,
    ⟨(some (Pos.ofNat 205)), none, .bin .gtr .other false (tm 202) (tm 204), true, 127⟩]

noncomputable def plays_56 : List O := [
    ⟨(some (Pos.ofNat 206)), none, .mov (tm 16), true, 0⟩,
    ⟨(some (Pos.ofNat 207)), none, .mov (tm 4), true, 0⟩,
    ⟨(some (Pos.ofNat 208)), none, .mov (tm 17), true, 0⟩,
    ⟨(some (Pos.ofNat 209)), none, .idxAddrSl 1 (tm 207) (tm 208), true, 0⟩,
    ⟨(some (Pos.ofNat 210)), none, .load1 (tm 209), true, 0⟩,
    ⟨(some (Pos.ofNat 211)), none, .buildSl 1 1 [(.str 0 0)] [(0, 1, (tm 210))], true, 0⟩,
    ⟨(some (Pos.ofNat 212)), none, .append 1 16 (tm 206) (tm 211), true, 0⟩,
    ⟨(some (Pos.ofNat 16)), none, .mov (tm 212), true, 0⟩]

noncomputable def plays_57 : List O := [
    ⟨(some (Pos.ofNat 196)), none, .mov (tm 17), true, 0⟩,
    ⟨(some (Pos.ofNat 197)), none, .bin .add .other true (tm 196) (vl (int64 (1))), true, 0⟩,
    ⟨(some (Pos.ofNat 17)), none, .mov (tm 197), true, 0⟩]

noncomputable def plays_58 : C := (.seq (.seq (.region plays_54) (.cond (tm 195) .skip (.exit 5))) (.seq (.block 6 (.seq (.drawn plays_55) (.cond (tm 205) (.region plays_56) .skip))) (.region plays_57)))

noncomputable def plays_59 : List O := [
    ⟨(some (Pos.ofNat 213)), none, .mov (tm 15), true, 0⟩,
    ⟨(some (Pos.ofNat 214)), none, .mov (tm 4), true, 0⟩,
    ⟨(some (Pos.ofNat 215)), none, .lenL (tm 214), true, 0⟩,
    ⟨(some (Pos.ofNat 216)), none, .mov (tm 16), true, 0⟩,
    ⟨(some (Pos.ofNat 217)), none, .lenL (tm 216), true, 0⟩,
    ⟨(some (Pos.ofNat 218)), none, .bin .sub .other false (tm 215) (tm 217), true, 0⟩,
    ⟨(some (Pos.ofNat 219)), none, .bin .neq .other false (tm 213) (tm 218), true, 0⟩]

noncomputable def plays_60 : List O := [
    ⟨(some (Pos.ofNat 2)), none, .mov (vl (.bool false)), true, 0⟩]

noncomputable def plays_61 : List O := [
    ⟨(some (Pos.ofNat 220)), none, .mov (tm 16), true, 0⟩,
    ⟨(some (Pos.ofNat 4)), none, .mov (tm 220), true, 0⟩]

noncomputable def plays_62 : List O := [
    ⟨(some (Pos.ofNat 222)), none, .bin .eql .other true (tm 47) (vl (int64 (7))), true, 0⟩,
    ⟨(some (Pos.ofNat 221)), none, .mov (tm 222), true, 0⟩]

noncomputable def plays_63 : List O := [
    ⟨(some (Pos.ofNat 223)), none, .mov (tm 3), true, 0⟩,
    ⟨(some (Pos.ofNat 224)), none, .mov (tm 4), true, 0⟩,
    ⟨(some (Pos.ofNat 225)), none, .fieldAddr 1 (tm 7), true, 0⟩,
    ⟨(some (Pos.ofNat 226)), none, .load1 (tm 225), true, 0⟩,
    ⟨(some (Pos.ofNat 227)), none, .call (.value (vl (.fn (.func 25) [] []))) [(tm 223), (tm 224), (tm 226)], true, 0⟩,
    ⟨(some (Pos.ofNat 228)), none, .un .not (tm 227), true, 0⟩]

noncomputable def plays_64 : List O := [
    ⟨(some (Pos.ofNat 2)), none, .mov (vl (.bool false)), true, 0⟩]

noncomputable def plays_65 : List O := [
    ⟨(some (Pos.ofNat 230)), none, .bin .eql .other true (tm 47) (vl (int64 (8))), true, 0⟩,
    ⟨(some (Pos.ofNat 229)), none, .mov (tm 230), true, 0⟩]

noncomputable def plays_66 : List O := [
    ⟨(some (Pos.ofNat 231)), none, .mov (tm 3), true, 0⟩,
    ⟨(some (Pos.ofNat 232)), none, .call (.value (vl (.fn (.func 26) [] []))) [(tm 231)], true, 0⟩,
    ⟨(some (Pos.ofNat 18)), none, .mov (tm 232), true, 0⟩]

noncomputable def plays_67 : List O := [
    ⟨(some (Pos.ofNat 233)), none, .mov (tm 18), true, 0⟩,
    ⟨(some (Pos.ofNat 234)), none, .eqPtr false (tm 233) (vl .nilPtr), true, 0⟩,
    ⟨(some (Pos.ofNat 235)), none, .mov (tm 234), true, 0⟩,
    ⟨(some (Pos.ofNat 236)), (some ((Pos.ofNat 235), false)), .mov (tm 18), true, 0⟩,
    ⟨(some (Pos.ofNat 237)), (some ((Pos.ofNat 235), false)), .buildSl 1 1 [(.str 0 0)] [(0, 1, (vl (.str 4 1836020325)))], true, 0⟩,
    ⟨(some (Pos.ofNat 238)), (some ((Pos.ofNat 235), false)), .call (.value (vl (.fn (.func 18) [] []))) [(tm 236), (tm 237)], true, 0⟩,
    ⟨(some (Pos.ofNat 239)), (some ((Pos.ofNat 235), false)), .bin .neq .other true (tm 238) (vl (int64 (0))), true, 0⟩,
    ⟨(some (Pos.ofNat 240)), (some ((Pos.ofNat 235), false)), .mov (tm 239), true, 0⟩,
    ⟨(some (Pos.ofNat 241)), (some ((Pos.ofNat 240), true)), .mov (tm 4), true, 0⟩,
    ⟨(some (Pos.ofNat 242)), (some ((Pos.ofNat 240), true)), .lenL (tm 241), true, 0⟩,
    ⟨(some (Pos.ofNat 243)), (some ((Pos.ofNat 240), true)), .bin .lss .other true (tm 242) (vl (int64 (65536))), true, 0⟩,
    ⟨(some (Pos.ofNat 244)), (some ((Pos.ofNat 235), false)), .pick (tm 240) (tm 243) (vl (.bool false)), true, 0⟩,
    ⟨(some (Pos.ofNat 245)), none, .pick (tm 235) (vl (.bool true)) (tm 244), true, 0⟩,
    ⟨(some (Pos.ofNat 246)), none, .mov (tm 245), true, 0⟩,
    ⟨(some (Pos.ofNat 247)), (some ((Pos.ofNat 246), false)), .mov (tm 18), true, 0⟩,
    ⟨(some (Pos.ofNat 248)), (some ((Pos.ofNat 246), false)), .call (.value (vl (.fn (.func 27) [] []))) [(tm 247)], true, 0⟩,
    ⟨(some (Pos.ofNat 249)), (some ((Pos.ofNat 246), false)), .mov (tm 4), true, 0⟩,
    ⟨(some (Pos.ofNat 250)), (some ((Pos.ofNat 246), false)), .lenL (tm 249), true, 0⟩,
    ⟨(some (Pos.ofNat 251)), (some ((Pos.ofNat 246), false)), .bin .add .other true (tm 250) (vl (int64 (1))), true, 0⟩,
    ⟨(some (Pos.ofNat 252)), (some ((Pos.ofNat 246), false)), .bin .neq .other false (tm 248) (tm 251), true, 0⟩,
    ⟨(some (Pos.ofNat 253)), (some ((Pos.ofNat 246), false)), .mov (tm 252), true, 0⟩,
    ⟨(some (Pos.ofNat 254)), (some ((Pos.ofNat 253), true)), .mov (tm 4), true, 0⟩,
    ⟨(some (Pos.ofNat 255)), (some ((Pos.ofNat 253), true)), .lenL (tm 254), true, 0⟩,
    ⟨(some (Pos.ofNat 256)), (some ((Pos.ofNat 253), true)), .bin .lss .other true (tm 255) (vl (int64 (65536))), true, 0⟩,
    ⟨(some (Pos.ofNat 257)), (some ((Pos.ofNat 246), false)), .pick (tm 253) (tm 256) (vl (.bool false)), true, 0⟩,
    ⟨(some (Pos.ofNat 258)), none, .pick (tm 246) (vl (.bool true)) (tm 257), true, 0⟩]

noncomputable def plays_68 : List O := [
    ⟨(some (Pos.ofNat 2)), none, .mov (vl (.bool false)), true, 0⟩]

noncomputable def plays_69 : List O := [
    ⟨(some (Pos.ofNat 259)), none, .mov (tm 18), true, 0⟩,
    ⟨(some (Pos.ofNat 260)), none, .call (.value (vl (.fn (.func 20) [] []))) [(tm 259), (vl (int64 (0)))], true, 0⟩]

noncomputable def plays_70 : List O := [
    ⟨(some (Pos.ofNat 261)), none, .mov (tm 3), true, 0⟩,
    ⟨(some (Pos.ofNat 262)), none, .call (.value (vl (.fn (.func 27) [] []))) [(tm 261)], true, 0⟩,
    ⟨(some (Pos.ofNat 263)), none, .mov (tm 4), true, 0⟩,
    ⟨(some (Pos.ofNat 264)), none, .lenL (tm 263), true, 0⟩,
    ⟨(some (Pos.ofNat 265)), none, .bin .neq .other false (tm 262) (tm 264), true, 0⟩,
    ⟨(some (Pos.ofNat 266)), none, .mov (tm 265), true, 0⟩,
    ⟨(some (Pos.ofNat 267)), (some ((Pos.ofNat 266), false)), .mov (tm 3), true, 0⟩,
    ⟨(some (Pos.ofNat 268)), (some ((Pos.ofNat 266), false)), .call (.value (vl (.fn (.func 28) [] []))) [(tm 267)], true, 0⟩,
    ⟨(some (Pos.ofNat 269)), (some ((Pos.ofNat 266), false)), .mov (tm 5), true, 0⟩,
    ⟨(some (Pos.ofNat 270)), (some ((Pos.ofNat 266), false)), .bin .neq .other false (tm 268) (tm 269), true, 0⟩,
    ⟨(some (Pos.ofNat 271)), none, .pick (tm 266) (vl (.bool true)) (tm 270), true, 0⟩]

noncomputable def plays_71 : List O := [
    ⟨(some (Pos.ofNat 2)), none, .mov (vl (.bool false)), true, 0⟩]

noncomputable def plays_72 : List O := [
    ⟨(some (Pos.ofNat 30)), none, .mov (tm 6), true, 0⟩,
    ⟨(some (Pos.ofNat 31)), none, .bin .add .other true (tm 30) (vl (int64 (1))), true, 0⟩,
    ⟨(some (Pos.ofNat 6)), none, .mov (tm 31), true, 0⟩]

noncomputable def plays_73 : C := (.seq (.seq (.region plays_7) (.cond (tm 29) .skip (.exit 0))) (.seq (.block 1 (.seq (.region plays_8) (.seq (.region plays_9) (.seq (.seq (.region plays_10) (.block 2 (.seq (.region plays_11) (.cond (tm 48) (.seq (.region plays_12) (.seq (.region plays_13) (.seq (.region plays_14) (.seq (.seq (.region plays_15) (.cond (tm 63) (.seq (.seq (.region plays_16) (.cond (tm 65) (.seq (.region plays_17) .ret) .skip)) (.exit 2)) .skip)) (.seq (.seq (.region plays_18) (.block 3 (.loop plays_22))) (.seq (.region plays_23) (.seq (.region plays_24) (.seq (.region plays_25) (.cond (tm 85) (.seq (.region plays_26) .ret) .skip))))))))) (.seq (.seq (.region plays_27) (.cond (tm 86) .skip (.seq (.region plays_28) (.cond (tm 86) .skip (.region plays_29))))) (.cond (tm 86) (.seq (.region plays_30) (.seq (.seq (.region plays_31) (.cond (tm 92) (.region plays_32) (.seq (.region plays_33) (.cond (tm 102) (.region plays_34) (.region plays_35))))) (.seq (.seq (.region plays_36) (.cond (tm 115) (.seq (.seq (.region plays_37) (.cond (tm 121) (.seq (.region plays_38) .ret) .skip)) (.exit 2)) .skip)) (.seq (.seq (.region plays_39) (.cond (tm 137) (.seq (.region plays_40) .ret) .skip)) (.seq (.region plays_41) (.cond (tm 140) (.drawn plays_42) .skip)))))) (.seq (.region plays_43) (.cond (tm 152) (.seq (.region plays_44) (.seq (.seq (.region plays_45) (.cond (tm 174) (.seq (.region plays_46) .ret) .skip)) (.seq (.region plays_47) (.cond (tm 176) (.seq (.region plays_48) (.region plays_49)) .skip)))) (.seq (.region plays_50) (.cond (tm 187) (.seq (.region plays_51) (.seq (.region plays_52) (.seq (.seq (.region plays_53) (.block 5 (.loop plays_58))) (.seq (.seq (.region plays_59) (.cond (tm 219) (.seq (.region plays_60) .ret) .skip)) (.region plays_61))))) (.seq (.region plays_62) (.cond (tm 221) (.seq (.region plays_63) (.cond (tm 228) (.seq (.region plays_64) .ret) .skip)) (.seq (.region plays_65) (.cond (tm 229) (.seq (.region plays_66) (.seq (.seq (.region plays_67) (.cond (tm 258) (.seq (.region plays_68) .ret) .skip)) (.region plays_69))) .skip)))))))))))))) (.seq (.region plays_70) (.cond (tm 271) (.seq (.region plays_71) .ret) .skip)))))) (.region plays_72)))

noncomputable def plays_74 : List O := [
    ⟨(some (Pos.ofNat 272)), none, .mov (tm 3), true, 0⟩,
    ⟨(some (Pos.ofNat 273)), none, .mov (tm 4), true, 0⟩,
    ⟨(some (Pos.ofNat 274)), none, .call (.value (vl (.fn (.func 25) [] []))) [(tm 272), (tm 273), (vl (int64 (-1)))], true, 0⟩,
    ⟨(some (Pos.ofNat 275)), none, .mov (tm 274), true, 0⟩,
    ⟨(some (Pos.ofNat 276)), (some ((Pos.ofNat 275), true)), .call (.value (vl (.fn (.func 11) [] []))) [], true, 0⟩,
    ⟨(some (Pos.ofNat 277)), none, .pick (tm 275) (tm 276) (vl (.bool false)), true, 0⟩,
    ⟨(some (Pos.ofNat 2)), none, .mov (tm 277), true, 0⟩]

noncomputable def plays_fu : Fu := ⟨[.tmp (Pos.ofNat 2)], 278, (.seq (.region plays_0) (.seq (.region plays_1) (.seq (.seq (.region plays_2) (.cond (tm 21) (.seq (.region plays_3) .ret) .skip)) (.seq (.region plays_4) (.seq (.region plays_5) (.seq (.seq (.region plays_6) (.block 0 (.loop plays_73))) (.seq (.region plays_74) .ret)))))))⟩

theorem plays_code : compFn Try.prog 4 = some plays_fu := by kernel_rfl

end Go.Proofs.Ytmifpiglcphmoaa.Plays

namespace Go.Proofs.Ytmifpiglcphmoaa.Plays
open Go Go.Proofs.Ytmifpiglcphmoaa.Am Go.Proofs

theorem ok18 : okCall Try.prog 18 = true := by kernel_rfl
theorem ok27 : okCall Try.prog 27 = true := by kernel_rfl
theorem ok22 : okCall Try.prog 22 = true := by kernel_rfl
theorem ok19 : okCall Try.prog 19 = true := by kernel_rfl
theorem ok28 : okCall Try.prog 28 = true := by kernel_rfl
theorem ok17 : okCall Try.prog 17 = true := by kernel_rfl
theorem ok21 : okCall Try.prog 21 = true := by kernel_rfl
theorem ok51 : okCall Try.prog 51 = true := by kernel_rfl
theorem ok52 : okCall Try.prog 52 = true := by kernel_rfl
theorem ok79 : okCall Try.prog 79 = true := by kernel_rfl

/-- Nothing appended to nothing. -/
theorem push_nz {v2 v' : AV} {h h' : Hp} (hv : SlR h v2 []) (ap : ∀ env s x, ev env s = .nilSl → ev env x = v2 → evalOp Try.prog (.append 1 16 s x) env h = .val v' h') : v' = .nilSl := by
  have e : evalOp Try.prog (.append 1 16 (vl .nilSl) (vl v2)) .e h = .val .nilSl h := by
    show appendA h 1 16 .nilSl v2 = _
    generalize hq : ([] : List AV) = l0 at hv
    cases hv with
    | nil => rfl
    | emp => rfl
    | mk hn r => subst hq; simp at hn; subst hn; rfl
  have q := ap .e (vl .nilSl) (vl v2) rfl rfl
  rw [e] at q
  cases q; rfl

/-- A net of texts, as it lies in memory. -/
structure NetAt (N : Nat) (h : Hp) (p : Pos) (v : AV) (w : List (List UInt8)) (sent : Int) : Prop where
  st : Arr h p [v, int64 sent, .bool true]
  way : Own N h v (w.map strOf)
  ne : ∀ g off n cap ex, v ≠ .sl p g off n cap ex 1
  pN : N ≤ p.num
  nz : w = [] → v = .nilSl

theorem NetAt.only {N : Nat} {h h' : Hp} {p : Pos} {v : AV} {w : List (List UInt8)} {sent : Int} {S : List Pos} (a : NetAt N h p v w sent) (m : Only S h h') (hp : p ∉ S) (hv : ∀ id g off n cap ex, v = .sl id g off n cap ex 1 → id ∉ S) : NetAt N h' p v w sent :=
  ⟨a.st.only m hp, a.way.only m fun id g e => hv _ _ _ _ _ _ e, a.ne, a.pN, a.nz⟩

theorem NetAt.more {N : Nat} {h h' : Hp} {p : Pos} {v : AV} {w : List (List UInt8)} {sent : Int} (a : NetAt N h p v w sent) (m : Only [] h h') : NetAt N h' p v w sent := a.only m (by simp) (by simp)

theorem new_fn (h : Hp) : ∃ h', AmFn Try.prog 17 [] h (.ptr h.next 0 0) h' ∧ NetAt h.next.num h' h.next .nilSl [] 0 ∧ Only [] h h' := by
  obtain ⟨env', e, f⟩ : ∃ env', runS Try.prog true new_fu.body [] (setArgs .e 0 []) h = some (.ret, [], env', newH h fun s => .cells s (Cells.ofL [.nilSl, int64 0, .bool true]) 0 0 0 0 false false) ∧ sv env' 0 = .ptr h.next 0 0 := by
    simp [new_fu, new_0, new_1, runS, runR, runOps, wanted_no, wanted_sv, ev_tm, ev_vl, sv_setD, sv_set, setD_none, qev_mov, qev_bin, qev_un, qev_lenI, qev_pick, qev_load1, qev_idxSl, idx2_sl, idxA2_ptr, opt_some, bin_add, bin_sub, bin_mul, bin_lss, bin_leq, bin_gtr, bin_geq, bin_eql, bin_neq, un_not, un_neg, qev_callv, qev_new1, qev_store1, qev_nilC, nilC_ptr, qev_fld, fldA_ptr, qev_extract, nth0, nth1, nth2, qev_eqPtr, sameP_nil, notIf, qev_build, fillA, AV.cells, qev_boxL, show Nat.ble 3 3 = true from rfl]
  exact ⟨_, AmFn.dos new_code (by simp) (Dos.runRet [] (by simp) e) (vs := [sv env' 0]) rfl f, ⟨newH_arr _ _, .inl ⟨rfl, rfl⟩, by simp, Nat.le_refl _, fun _ => rfl⟩, newH_only _ _ _⟩

theorem there_fn {h : Hp} {p : Pos} {v s : AV} (a : Arr h p [v, s, .bool true]) : AmFn Try.prog 51 [.ptr p 0 0] h (.bool true) h := by
  have l2 : read1 h p 0 2 = some (.bool true) := a.one (i := 2) (by simp)
  obtain ⟨env', e, f⟩ : ∃ env', runS Try.prog true there_fu.body [] (setArgs .e 0 [.ptr p 0 0]) h = some (.ret, [], env', h) ∧ sv env' 2 = .bool true := by
    simp [there_fu, there_0, there_1, runS, runR, sv_args, runOps, wanted_no, wanted_sv, ev_tm, ev_vl, sv_setD, sv_set, setD_none, qev_mov, qev_bin, qev_un, qev_lenI, qev_pick, qev_load1, qev_idxSl, idx2_sl, idxA2_ptr, opt_some, bin_add, bin_sub, bin_mul, bin_lss, bin_leq, bin_gtr, bin_geq, bin_eql, bin_neq, un_not, un_neg, qev_callv, qev_new1, qev_store1, qev_nilC, nilC_ptr, qev_fld, fldA_ptr, qev_extract, nth0, nth1, nth2, qev_eqPtr, sameP_nil, notIf, l2]
  exact AmFn.dos there_code (by simp) (Dos.runRet [] (by simp) e) (vs := [sv env' 2]) rfl f

section
variable {N : Nat} {h : Hp} {p : Pos} {v : AV} {w : List (List UInt8)} {sent : Int}

theorem NetAt.l0 (a : NetAt N h p v w sent) : read1 h p 0 0 = some v := a.st.one (i := 0) (by simp)
theorem NetAt.l1 (a : NetAt N h p v w sent) : read1 h p 0 1 = some (int64 sent) := a.st.one (i := 1) (by simp)
theorem NetAt.len (a : NetAt N h p v w sent) : ∀ env x, ev env x = v → evalOp Try.prog (.lenL x) env h = .val (int64 w.length) h := fun env x hx => by simpa using a.way.sl.len Try.prog env x hx

theorem len_fn (a : NetAt N h p v w sent) : AmFn Try.prog 27 [.ptr p 0 0] h (int64 w.length) h := by
  have k := there_fn a.st
  have l0 := a.l0
  have hl := a.len
  obtain ⟨env', e, f⟩ : ∃ env', runS Try.prog true len_fu.body [⟨51, [.ptr p 0 0], h, .bool true, h⟩] (setArgs .e 0 [.ptr p 0 0]) h = some (.ret, [], env', h) ∧ sv env' 2 = int64 w.length := by
    simp [len_fu, len_0, len_1, len_3, runS, runR, Rs.seq, sv_args, runOps, wanted_no, ev_tm, ev_vl, sv_setD, qev_mov, qev_un, un_not, opt_some, qev_callv, qev_nilC, nilC_ptr, qev_fld, fldA_ptr, qev_load1, callA_ok ok51, l0, hl]
  exact AmFn.dos len_code (by simp) (Dos.runRet _ (by intro x hx; simp at hx; subst hx; exact k) e) (vs := [sv env' 2]) rfl f

theorem sent_fn (a : NetAt N h p v w sent) : AmFn Try.prog 28 [.ptr p 0 0] h (int64 sent) h := by
  have k := there_fn a.st
  have l1 := a.l1
  obtain ⟨env', e, f⟩ : ∃ env', runS Try.prog true sent_fu.body [⟨51, [.ptr p 0 0], h, .bool true, h⟩] (setArgs .e 0 [.ptr p 0 0]) h = some (.ret, [], env', h) ∧ sv env' 2 = int64 sent := by
    simp [sent_fu, sent_0, sent_1, sent_3, runS, runR, Rs.seq, sv_args, runOps, wanted_no, wanted_sv, ev_tm, ev_vl, sv_setD, sv_set, setD_none, qev_mov, qev_bin, qev_un, qev_lenI, qev_pick, qev_load1, qev_idxSl, idx2_sl, idxA2_ptr, opt_some, bin_add, bin_sub, bin_mul, bin_lss, bin_leq, bin_gtr, bin_geq, bin_eql, bin_neq, un_not, un_neg, qev_callv, qev_new1, qev_store1, qev_nilC, nilC_ptr, qev_fld, fldA_ptr, qev_extract, nth0, nth1, nth2, qev_eqPtr, sameP_nil, notIf, callA_ok ok51, l1]
  exact AmFn.dos sent_code (by simp) (Dos.runRet _ (by intro x hx; simp at hx; subst hx; exact k) e) (vs := [sv env' 2]) rfl f

theorem SlR.lenI {l : List (List UInt8)} {v2 : AV} {h : Hp} (r : SlR h v2 (l.map strOf)) : ∀ env x, ev env x = v2 → evalOp Try.prog (.lenL x) env h = .val (int64 l.length) h := fun env x hx => by simpa using r.len Try.prog env x hx

/-- Send, where there is room. -/
theorem send_fn (a : NetAt N h p v w sent) {v2 : AV} {l : List (List UInt8)} (hv : SlR h v2 (l.map strOf)) (h2 : ∀ id g off n cap ex, v2 = .sl id g off n cap ex 1 → id ≠ p ∧ ∀ g' off' n' cap' ex', v ≠ .sl id g' off' n' cap' ex' 1) (hroom : w.length + l.length ≤ 65536) (hs : 0 ≤ sent ∧ sent + l.length < 4611686018427387904) (hN : N ≤ h.next.num) :
    ∃ v' h' S, AmFn Try.prog 18 [.ptr p 0 0, v2] h (int64 0) h' ∧ NetAt N h' p v' (w ++ l) (sent + l.length) ∧ Only S h h' ∧ (∀ id ∈ S, id = p ∨ ∃ g off n cap ex, v = .sl id g off n cap ex 1) ∧
      (∀ id g off n cap ex, v' = .sl id g off n cap ex 1 → (∃ g off n cap ex, v = .sl id g off n cap ex 1) ∨ h.next.num ≤ id.num) := by
  have k := there_fn a.st
  have l0 := a.l0
  have l1 := a.l1
  have hl := a.len
  have hl2 := SlR.lenI hv
  obtain ⟨v', h1, S, ap, ow, o1, hS, hv'⟩ := a.way.push Try.prog (bytes := 16) hv (by intro y hy; simp at hy; obtain ⟨_, _, rfl⟩ := hy; rfl) (by simp; omega) (by omega) hN
  have pS : p ∉ S := fun c => by
    obtain ⟨_, g, off, n, cap, ex, e⟩ := hS _ c
    exact a.ne _ _ _ _ _ e
  have hp1 := a.st.only o1 pS
  have at1 := ow.sl.atom
  have st1 := storeR_arr hp1 (i := 0) (by simp) v' at1.1 at1.2
  have a1 := putA_arr hp1 (i := 0) (by simp) v'
  have o2 := putA_only h1 p 0 v'
  have v'p : ∀ g off n cap ex, v' ≠ .sl p g off n cap ex 1 := fun g off n cap ex e => by
    rcases hv' _ _ _ _ _ _ e with ⟨g, off, n, cap, ex, q⟩ | q
    · exact a.ne _ _ _ _ _ q
    · have := a.st.old; omega
  have hl2' : ∀ env x, ev env x = v2 → evalOp Try.prog (.lenL x) env (putA h1 p 0 v') = .val (int64 l.length) (putA h1 p 0 v') := SlR.lenI ((hv.only o1 fun id g off n cap ex e c => by
    obtain ⟨_, g', off', n', cap', ex', q⟩ := hS _ c
    exact (h2 _ _ _ _ _ _ e).2 _ _ _ _ _ q).only o2 fun id g off n cap ex e => by simpa using (h2 _ _ _ _ _ _ e).1)
  have l1' : read1 (putA h1 p 0 v') p 0 1 = some (int64 sent) := a1.one (i := 1) (by simp)
  have st2 := storeR_arr a1 (i := 1) (by simp) (int64 (sent + l.length)) rfl rfl
  have a2 := putA_arr a1 (i := 1) (by simp) (int64 (sent + l.length))
  have o3 := putA_only (putA h1 p 0 v') p 1 (int64 (sent + l.length))
  have hsub : wrapA .i64 (65536 - (w.length : Int)) = 65536 - (w.length : Int) := wrap64 (by omega) (by omega)
  have hadd : wrapA .i64 (sent + (l.length : Int)) = sent + l.length := wrap64 (by omega) (by omega)
  have hgt : ¬ (65536 - (w.length : Int) < (l.length : Int)) := by omega
  obtain ⟨env', e, f⟩ : ∃ env', runS Try.prog true send_fu.body [⟨51, [.ptr p 0 0], h, .bool true, h⟩] (setArgs .e 0 [.ptr p 0 0, v2]) h = some (.ret, [], env', putA (putA h1 p 0 v') p 1 (int64 (sent + l.length))) ∧ sv env' 4 = int64 0 := by
    simp [send_fu, send_0, send_1, send_3, send_5, send_6, send_7, runS, runR, Rs.seq, sv_args, runOps, wanted_no, ev_tm, ev_vl, sv_setD, setD_none, qev_mov, qev_un, un_not, qev_bin, bin_sub, bin_gtr, bin_add, opt_some, qev_callv, qev_nilC, nilC_ptr, qev_fld, fldA_ptr, qev_load1, qev_store1, callA_ok ok51, l0, hl, hl2, hsub, hgt, ap, st1, l1', hl2', hadd, st2]
  refine ⟨v', _, p :: S, AmFn.dos send_code (by simp) (Dos.runRet _ (by intro x hx; simp at hx; subst hx; exact k) e) (vs := [sv env' 4]) rfl f, ⟨a2, ?_, v'p, a.pN, fun q => ?_⟩, ?_, fun id hid => ?_, hv'⟩
  · rw [List.map_append]
    exact (ow.only o2 fun id g q => by simp only [List.mem_singleton]; intro c; rw [c] at q; exact v'p _ _ _ _ _ q).only o3 fun id g q => by simp only [List.mem_singleton]; intro c; rw [c] at q; exact v'p _ _ _ _ _ q
  · obtain ⟨q1, q2⟩ := List.append_eq_nil_iff.1 q
    subst q2
    exact push_nz hv fun env s x hs hx => ap env s x (hs.trans (a.nz q1).symm) hx
  · exact ((o1.mono fun id hid => .inl (by simp [hid])).trans (o2.mono fun id hid => .inl (by simp at hid; simp [hid]))).trans (o3.mono fun id hid => .inl (by simp at hid; simp [hid]))
  · rcases List.mem_cons.1 hid with q | q
    · exact .inl q
    · exact .inr (hS _ q).2
end
end Go.Proofs.Ytmifpiglcphmoaa.Plays
