/-
  What is proved: the evaluator's forms of more functions of the program (data, each held against the program by the kernel). By a program of ours. Conditions: none.
-/
import Derived.Test.YtiiohfojejfolaaDoorD1
namespace Go.Proofs.YtiiohfojejfolaaDoor
open Go Go.Ev Go.Proofs
def b5_0 : ACode := (.seq (.region [⟨some 21, .bin .num .lss (.t 20) (.t 19), none⟩])
  (.seq (.cond (.t 21) .skip
  (.exit 2))
  (.seq (.block 3 (.seq (.region [⟨some 22, .mv (.t 20), none⟩,
    ⟨some 7, .mv (.t 22), none⟩])
  (.region [⟨some 23, .mv (.t 6), none⟩,
    ⟨some 24, .mv (.t 7), none⟩,
    ⟨some 25, .mv (.t 1), none⟩,
    ⟨some 26, .mv (.t 7), none⟩,
    ⟨some 27, .mv (.t 0), none⟩,
    ⟨some 28, .bin .num .mul (.t 26) (.t 27), none⟩,
    ⟨some 29, .bin .num .and (.t 28) (.c (.int .i64 7)), none⟩,
    ⟨some 30, .convInt .u8 (.t 29), none⟩,
    ⟨some 31, .bin .num .add (.t 25) (.t 30), none⟩,
    ⟨some 32, .indexS 1 (.t 23) (.t 24), none⟩,
    ⟨none, .store 1 (.t 32) (.t 31), none⟩])))
  (.region [⟨some 33, .bin .num .add (.t 20) (.c (.int .i64 1)), none⟩,
    ⟨some 20, .mv (.t 33), none⟩]))))
def b5_1 : ACode := (.seq (.seq (.region [⟨some 8, .mv (.t 5), none⟩,
    ⟨some 9, .bin .num .lss (.t 8) (.c (.int .i64 66)), none⟩])
  (.cond (.t 9) .skip
  (.exit 0)))
  (.seq (.block 1 (.seq (.region [⟨some 12, .mv (.t 5), none⟩,
    ⟨some 13, .mv (.t 0), none⟩,
    ⟨some 14, .bin .num .and (.t 13) (.c (.int .i64 3)), none⟩,
    ⟨some 15, .bin .num .mul (.c (.int .i64 64)) (.t 14), none⟩,
    ⟨some 16, .bin .num .add (.t 12) (.t 15), none⟩,
    ⟨some 17, .makeRow (.int .u8 0) (.t 16) (.t 16), none⟩,
    ⟨some 6, .mv (.t 17), none⟩])
  (.seq (.seq (.region [⟨some 18, .mv (.t 6), none⟩,
    ⟨some 19, .lenS (.t 18), none⟩,
    ⟨some 20, .mv (.c (.int .i64 0)), none⟩])
  (.block 2 (.loop [0, 1, 5, 6, 19, 20] [17, 19, 35, 37, 39] b5_0)))
  (.seq (.region [⟨some 34, .mv (.t 6), none⟩,
    ⟨some 35, .call 15 [(.t 34)], none⟩,
    ⟨some 36, .mv (.t 6), none⟩,
    ⟨some 37, .call 18 [(.t 36)], none⟩,
    ⟨some 38, .eqAgg 32 true (.t 35) (.t 37), none⟩])
  (.cond (.t 38) (.seq (.region [⟨some 4, .mv (.c (.bool false)), none⟩])
  .ret)
  .skip)))))
  (.region [⟨some 10, .mv (.t 5), none⟩,
    ⟨some 11, .bin .num .add (.t 10) (.c (.int .i64 1)), none⟩,
    ⟨some 5, .mv (.t 11), none⟩])))
/-- lighterage/lighteragelaw1.ShasBlocks -/
def a5 : AFn := ⟨40, 2, [.tmp 4],
  (.seq (.region [⟨some 4, .mv (.c (.bool false)), none⟩])
  (.seq (.seq (.region [⟨some 5, .mv (.c (.int .i64 50)), none⟩])
  (.block 0 (.loop [0, 1, 5] [39] b5_1)))
  (.seq (.region [⟨some 39, .call 17 [], none⟩,
    ⟨some 4, .mv (.t 39), none⟩])
  .ret))), false⟩
def h5 : Hints := ⟨[17], [(2, ([0, 1, 5], [39])), (6, ([0, 1, 5, 6, 19, 20], [17, 19, 35, 37, 39]))]⟩
theorem p5 : prepFn Tryd.prog G h5 false Tryd.f5 = some a5 := by kernel_rfl
theorem o5 : okFn Tryd.prog Tryd.f5 a5 = true := by kernel_rfl
def b6_0 : ACode := (.seq (.region [⟨some 33, .bin .num .lss (.t 32) (.t 31), none⟩])
  (.seq (.cond (.t 33) .skip
  (.exit 0))
  (.seq (.block 1 (.seq (.region [⟨some 34, .indexS 1 (.t 30) (.t 32), none⟩,
    ⟨some 35, .load false 1 (.t 34), none⟩,
    ⟨some 10, .mv (.t 35), none⟩])
  (.seq (.region [⟨some 36, .mv (.t 10), none⟩,
    ⟨some 37, .call 15 [(.t 36)], none⟩,
    ⟨some 38, .mv (.t 10), none⟩,
    ⟨some 39, .call 18 [(.t 38)], none⟩,
    ⟨some 40, .eqAgg 32 true (.t 37) (.t 39), none⟩,
    ⟨some 41, .mv (.t 40), none⟩,
    ⟨some 42, .mv (.t 10), some (41, false)⟩,
    ⟨some 43, .call 19 [(.t 42)], some (41, false)⟩,
    ⟨some 44, .mv (.t 10), some (41, false)⟩,
    ⟨some 45, .call 20 [(.t 44)], some (41, false)⟩,
    ⟨some 46, .eqAgg 32 true (.t 43) (.t 45), some (41, false)⟩,
    ⟨some 47, .pick (.t 41) (.c (.bool true)) (.t 46), none⟩])
  (.cond (.t 47) (.seq (.region [⟨some 8, .mv (.c (.bool false)), none⟩])
  .ret)
  .skip))))
  (.region [⟨some 48, .bin .num .add (.t 32) (.c (.int .i64 1)), none⟩,
    ⟨some 32, .mv (.t 48), none⟩]))))
/-- lighterage/lighteragelaw1.ShasTells -/
def a6 : AFn := ⟨65, 4, [.tmp 8],
  (.seq (.region [⟨some 6, .box 32 (.t 2), none⟩,
    ⟨some 7, .box 32 (.t 3), none⟩,
    ⟨some 8, .mv (.c (.bool false)), none⟩])
  (.seq (.seq (.region [⟨some 11, .mv (.t 0), none⟩,
    ⟨some 12, .lenS (.t 11), none⟩,
    ⟨some 13, .bin .num .gtr (.t 12) (.c (.int .i64 600)), none⟩])
  (.cond (.t 13) (.seq (.region [⟨some 14, .call 17 [], none⟩,
    ⟨some 8, .mv (.t 14), none⟩])
  .ret)
  .skip))
  (.seq (.seq (.drawn [⟨some 15, .mv (.t 0), none⟩,
    ⟨some 16, .mv (.t 0), none⟩,
    ⟨some 17, .mv (.t 1), none⟩,
    ⟨some 18, .bin .num .and (.t 17) (.c (.int .i64 65535)), none⟩,
    ⟨some 19, .mv (.t 0), none⟩,
    ⟨some 20, .lenS (.t 19), none⟩,
    ⟨some 21, .bin .num .add (.t 20) (.c (.int .i64 1)), none⟩,
    ⟨some 22, .bin .num .rem (.t 18) (.t 21), none⟩,
    ⟨some 23, .sliceS 1 (.t 16) none (some (.t 22)) none, none⟩,
    ⟨some 24, .buildSlice 1 false [], none⟩,
    ⟨some 25, .mv (.t 0), none⟩,
    ⟨some 26, .append 1 1 (.t 24) (.t 25), none⟩,
    ⟨some 27, .mv (.t 1), none⟩,
    ⟨some 28, .bin .num .and (.t 27) (.c (.int .i64 127)), none⟩,
    ⟨some 29, .appendZ (.t 26) (.t 28), none⟩,
    ⟨some 30, .buildSlice 1 false [(.t 15), (.t 23), (.t 29)], none⟩,
    ⟨some 31, .lenS (.t 30), none⟩,
    ⟨some 32, .mv (.c (.int .i64 0)), none⟩] [0, 1, 3, 3, 15, 15, 15, 3, 1, 511, 1023, 511, 4095, 4095, 511, 0, 0, 131071])
  (.block 0 (.loop [6, 7, 30, 31, 32] [6, 7, 12, 14, 20, 24, 26, 29, 30, 31, 51, 54, 59, 63] b6_0)))
  (.seq (.drawn [⟨some 49, .load true 32 (.t 6), none⟩,
    ⟨some 50, .load true 32 (.t 7), none⟩,
    ⟨some 51, .call 16 [(.t 49), (.t 50)], none⟩,
    ⟨some 52, .load true 32 (.t 6), none⟩,
    ⟨some 53, .load true 32 (.t 7), none⟩,
    ⟨some 54, .call 21 [(.t 52), (.t 53)], none⟩,
    ⟨some 55, .bin .bool .eql (.t 51) (.t 54), none⟩,
    ⟨some 56, .mv (.t 55), none⟩,
    ⟨some 57, .load true 32 (.t 6), some (56, true)⟩,
    ⟨some 58, .load true 32 (.t 6), some (56, true)⟩,
    ⟨some 59, .call 16 [(.t 57), (.t 58)], some (56, true)⟩,
    ⟨some 60, .bin .bool .eql (.t 59) (.c (.bool false)), some (56, true)⟩,
    ⟨some 61, .pick (.t 56) (.t 60) (.c (.bool false)), none⟩,
    ⟨some 62, .mv (.t 61), none⟩,
    ⟨some 63, .call 17 [], some (62, true)⟩,
    ⟨some 64, .pick (.t 62) (.t 63) (.c (.bool false)), none⟩,
    ⟨some 8, .mv (.t 64), none⟩] [0, 1, 0, 7, 15, 0, 0, 0, 0, 256, 0, 0, 0, 0, 0, 0, 0])
  .ret)))), false⟩
def h6 : Hints := ⟨[], [(4, ([6, 7, 30, 31, 32], [6, 7, 12, 14, 20, 24, 26, 29, 30, 31, 51, 54, 59, 63]))]⟩
theorem p6 : prepFn Tryd.prog G h6 false Tryd.f6 = some a6 := by kernel_rfl
theorem o6 : okFn Tryd.prog Tryd.f6 a6 = true := by kernel_rfl
end Go.Proofs.YtiiohfojejfolaaDoor
