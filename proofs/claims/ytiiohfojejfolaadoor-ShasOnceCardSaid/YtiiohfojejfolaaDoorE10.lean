/-
  What is proved: the evaluator's forms of more functions of the program (data, each held against the program by the kernel). By a program of ours. Conditions: none.
-/
import Derived.Test.YtiiohfojejfolaaDoorD1
namespace Go.Proofs.YtiiohfojejfolaaDoor
open Go Go.Ev Go.Proofs
def b8_0 : ACode := (.seq (.region [⟨some 18, .bin .num .lss (.t 17) (.t 16), none⟩])
  (.seq (.cond (.t 18) .skip
  (.exit 0))
  (.seq (.block 1 (.seq (.region [⟨some 19, .indexS 1 (.t 15) (.t 17), none⟩,
    ⟨some 20, .load false 1 (.t 19), none⟩,
    ⟨some 5, .mv (.t 20), none⟩])
  (.seq (.seq (.region [⟨some 21, .mv (.t 5), none⟩,
    ⟨some 22, .lenS (.t 21), none⟩,
    ⟨some 23, .bin .num .gtr (.t 22) (.c (.int .i64 300)), none⟩])
  (.cond (.t 23) (.seq (.region [⟨some 24, .call 17 [], none⟩,
    ⟨some 2, .mv (.t 24), none⟩])
  .ret)
  .skip))
  (.region [⟨some 25, .mv (.t 3), none⟩,
    ⟨some 26, .mv (.t 5), none⟩,
    ⟨some 27, .call 15 [(.t 26)], none⟩,
    ⟨some 28, .buildSlice 32 true [(.t 27)], none⟩,
    ⟨some 29, .append 32 32 (.t 25) (.t 28), none⟩,
    ⟨some 3, .mv (.t 29), none⟩]))))
  (.region [⟨some 30, .bin .num .add (.t 17) (.c (.int .i64 1)), none⟩,
    ⟨some 17, .mv (.t 30), none⟩]))))
def b8_1 : ACode := (.seq (.seq (.region [⟨some 83, .mv (.t 10), none⟩,
    ⟨some 84, .mv (.t 9), none⟩,
    ⟨some 85, .lenS (.t 84), none⟩,
    ⟨some 86, .bin .num .lss (.t 83) (.t 85), none⟩])
  (.cond (.t 86) .skip
  (.exit 4)))
  (.seq (.block 5 (.seq (.region [⟨some 89, .mv (.t 9), none⟩,
    ⟨some 90, .mv (.t 10), none⟩,
    ⟨some 91, .indexS 1 (.t 89) (.t 90), none⟩,
    ⟨some 92, .load false 1 (.t 91), none⟩,
    ⟨some 93, .bin .num .neq (.t 92) (.c (.int .u8 0)), none⟩])
  (.cond (.t 93) (.seq (.region [⟨some 2, .mv (.c (.bool false)), none⟩])
  .ret)
  .skip)))
  (.region [⟨some 87, .mv (.t 10), none⟩,
    ⟨some 88, .bin .num .add (.t 87) (.c (.int .i64 1)), none⟩,
    ⟨some 10, .mv (.t 88), none⟩])))
def b8_2 : ACode := (.seq (.seq (.region [⟨some 34, .mv (.t 6), none⟩,
    ⟨some 35, .bin .num .geq (.t 34) (.c (.int .i64 0)), none⟩])
  (.cond (.t 35) .skip
  (.exit 2)))
  (.seq (.block 3 (.seq (.region [⟨some 38, .mv (.t 0), none⟩,
    ⟨some 39, .mv (.t 6), none⟩,
    ⟨some 40, .indexS 1 (.t 38) (.t 39), none⟩,
    ⟨some 41, .load false 1 (.t 40), none⟩,
    ⟨some 42, .stringOf (.t 41), none⟩,
    ⟨some 7, .mv (.t 42), none⟩])
  (.seq (.drawn [⟨some 43, .mv (.t 0), none⟩,
    ⟨some 44, .mv (.t 6), none⟩,
    ⟨some 45, .indexS 1 (.t 43) (.t 44), none⟩,
    ⟨some 46, .load false 1 (.t 45), none⟩,
    ⟨some 47, .lenS (.t 46), none⟩,
    ⟨some 48, .bin .num .add (.t 47) (.c (.int .i64 70)), none⟩,
    ⟨some 49, .makeRow (.int .u8 0) (.c (.int .i64 0)) (.t 48), none⟩,
    ⟨some 50, .mv (.t 0), none⟩,
    ⟨some 51, .mv (.t 6), none⟩,
    ⟨some 52, .indexS 1 (.t 50) (.t 51), none⟩,
    ⟨some 53, .load false 1 (.t 52), none⟩,
    ⟨some 54, .append 1 1 (.t 49) (.t 53), none⟩,
    ⟨some 8, .mv (.t 54), none⟩] [0, 1, 0, 0, 0, 0, 0, 127, 255, 127, 127, 0, 0])
  (.seq (.seq (.drawn [⟨some 55, .mv (.t 8), none⟩,
    ⟨some 56, .call 15 [(.t 55)], none⟩,
    ⟨some 57, .mv (.t 3), none⟩,
    ⟨some 58, .mv (.t 6), none⟩,
    ⟨some 59, .indexS 32 (.t 57) (.t 58), none⟩,
    ⟨some 60, .load true 32 (.t 59), none⟩,
    ⟨some 61, .eqAgg 32 true (.t 56) (.t 60), none⟩,
    ⟨some 62, .mv (.t 61), none⟩,
    ⟨some 63, .mv (.t 8), some (62, false)⟩,
    ⟨some 64, .stringOf (.t 63), some (62, false)⟩,
    ⟨some 65, .mv (.t 7), some (62, false)⟩,
    ⟨some 66, .bin .num .neq (.t 64) (.t 65), some (62, false)⟩,
    ⟨some 67, .pick (.t 62) (.c (.bool true)) (.t 66), none⟩,
    ⟨some 68, .mv (.t 67), none⟩,
    ⟨some 69, .mv (.t 8), some (68, false)⟩,
    ⟨some 70, .call 15 [(.t 69)], some (68, false)⟩,
    ⟨some 71, .mv (.t 3), some (68, false)⟩,
    ⟨some 72, .mv (.t 6), some (68, false)⟩,
    ⟨some 73, .indexS 32 (.t 71) (.t 72), some (68, false)⟩,
    ⟨some 74, .load true 32 (.t 73), some (68, false)⟩,
    ⟨some 75, .eqAgg 32 true (.t 70) (.t 74), some (68, false)⟩,
    ⟨some 76, .pick (.t 68) (.c (.bool true)) (.t 75), none⟩] [0, 0, 3, 7, 3, 3, 0, 0, 0, 0, 768, 0, 0, 0, 0, 0, 49152, 114688, 49152, 49152, 0, 0])
  (.cond (.t 76) (.seq (.region [⟨some 2, .mv (.c (.bool false)), none⟩])
  .ret)
  .skip))
  (.seq (.region [⟨some 77, .mv (.t 8), none⟩,
    ⟨some 78, .mv (.t 8), none⟩,
    ⟨some 79, .cap (.t 78), none⟩,
    ⟨some 80, .sliceS 1 (.t 77) none (some (.t 79)) none, none⟩,
    ⟨some 9, .mv (.t 80), none⟩])
  (.seq (.region [⟨some 81, .mv (.t 8), none⟩,
    ⟨some 82, .lenS (.t 81), none⟩,
    ⟨some 10, .mv (.t 82), none⟩])
  (.block 4 (.loop [0, 3, 6, 9, 10] [12, 14, 3, 16, 22, 24, 27, 28, 29, 32, 47, 49, 54, 56, 70, 79, 82, 94] b8_1))))))))
  (.region [⟨some 36, .mv (.t 6), none⟩,
    ⟨some 37, .bin .num .sub (.t 36) (.c (.int .i64 1)), none⟩,
    ⟨some 6, .mv (.t 37), none⟩])))
/-- lighterage/lighteragelaw1.ShasOnce -/
def a8 : AFn := ⟨95, 1, [.tmp 2],
  (.seq (.region [⟨some 2, .mv (.c (.bool false)), none⟩])
  (.seq (.seq (.region [⟨some 11, .mv (.t 0), none⟩,
    ⟨some 12, .lenS (.t 11), none⟩,
    ⟨some 13, .bin .num .gtr (.t 12) (.c (.int .i64 12)), none⟩])
  (.cond (.t 13) (.seq (.region [⟨some 14, .call 17 [], none⟩,
    ⟨some 2, .mv (.t 14), none⟩])
  .ret)
  .skip))
  (.seq (.region [⟨some 3, .nilrow 32, none⟩])
  (.seq (.seq (.region [⟨some 15, .mv (.t 0), none⟩,
    ⟨some 16, .lenS (.t 15), none⟩,
    ⟨some 17, .mv (.c (.int .i64 0)), none⟩])
  (.block 0 (.loop [0, 3, 15, 16, 17] [12, 14, 3, 16, 32, 47, 49, 54, 56, 70, 79, 82, 85, 94] b8_0)))
  (.seq (.seq (.region [⟨some 31, .mv (.t 0), none⟩,
    ⟨some 32, .lenS (.t 31), none⟩,
    ⟨some 33, .bin .num .sub (.t 32) (.c (.int .i64 1)), none⟩,
    ⟨some 6, .mv (.t 33), none⟩])
  (.block 2 (.loop [0, 3, 6] [12, 14, 3, 16, 22, 24, 27, 28, 29, 32, 94] b8_2)))
  (.seq (.region [⟨some 94, .call 17 [], none⟩,
    ⟨some 2, .mv (.t 94), none⟩])
  .ret)))))), false⟩
def h8 : Hints := ⟨[3, 49], [(5, ([0, 3, 15, 16, 17], [12, 14, 3, 16, 32, 47, 49, 54, 56, 70, 79, 82, 85, 94])), (12, ([0, 3, 6], [12, 14, 3, 16, 22, 24, 27, 28, 29, 32, 94])), (20, ([0, 3, 6, 9, 10], [12, 14, 3, 16, 22, 24, 27, 28, 29, 32, 47, 49, 54, 56, 70, 79, 82, 94]))]⟩
theorem p8f : prepFn Tryd.prog G h8 false Tryd.f8 = some a8 := by kernel_rfl
theorem o8f : okFn Tryd.prog Tryd.f8 a8 = true := by kernel_rfl
end Go.Proofs.YtiiohfojejfolaaDoor
