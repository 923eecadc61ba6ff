/-
  What is proved: the evaluator's forms of more functions of the program (data, each held against the program by the kernel). By a program of ours. Conditions: none.
-/
import Derived.Test.YtiiohfojejfolaaDoorF1
namespace Go.Proofs.YtiiohfojejfolaaDoor
open Go Go.Ev Go.Proofs
def b22_0 : ACode := (.seq (.seq (.region [⟨some 22, .mv (.t 6), none⟩,
    ⟨some 23, .mv (.t 0), none⟩,
    ⟨some 24, .bin .num .shr (.t 23) (.c (.int .u64 8)), none⟩,
    ⟨some 25, .bin .num .and (.t 24) (.c (.int .i64 3)), none⟩,
    ⟨some 26, .bin .num .add (.t 25) (.c (.int .i64 1)), none⟩,
    ⟨some 27, .bin .num .lss (.t 22) (.t 26), none⟩])
  (.cond (.t 27) .skip
  (.exit 0)))
  (.seq (.block 1 (.seq (.region [⟨some 30, .mv (.t 1), none⟩,
    ⟨some 31, .mv (.t 6), none⟩,
    ⟨some 32, .bin .num .mul (.c (.int .i64 2)) (.t 31), none⟩,
    ⟨some 33, .convInt .u64 (.t 32), none⟩,
    ⟨some 34, .bin .num .shr (.t 30) (.t 33), none⟩,
    ⟨some 35, .bin .num .and (.t 34) (.c (.int .i64 3)), none⟩,
    ⟨some 36, .convInt .u32 (.t 35), none⟩,
    ⟨some 37, .mv (.t 1), none⟩,
    ⟨some 38, .mv (.t 6), none⟩,
    ⟨some 39, .bin .num .add (.c (.int .i64 8)) (.t 38), none⟩,
    ⟨some 40, .convInt .u64 (.t 39), none⟩,
    ⟨some 41, .bin .num .shr (.t 37) (.t 40), none⟩,
    ⟨some 42, .bin .num .and (.t 41) (.c (.int .i64 3)), none⟩,
    ⟨some 43, .bin .num .sub (.c (.int .i64 4294967295)) (.t 42), none⟩,
    ⟨some 44, .convInt .u32 (.t 43), none⟩,
    ⟨some 45, .build [(.int .u8 0), (.int .u8 0), (.int .u8 0), (.int .u8 0), (.int .u8 0), (.int .u8 0), (.int .u8 0), (.int .u8 0), (.int .u8 0), (.int .u8 0), (.int .u8 0), (.int .u8 0), (.int .u8 0), (.int .u8 0), (.int .u8 0), (.int .u8 0), (.int .u8 0), (.int .u8 0), (.int .u8 0), (.int .u8 0), (.int .u8 0), (.int .u8 0), (.int .u8 0), (.int .u8 0), (.int .u8 0), (.int .u8 0), (.int .u8 0), (.int .u8 0), (.int .u8 0), (.int .u8 0), (.int .u8 0), (.int .u8 0), (.int .u32 0), (.slc 1 [] .tight), (.int .u32 0), (.slc 1 [] .tight)] [(32, 1, (.t 36)), (34, 1, (.t 44))], none⟩,
    ⟨some 7, .alloc [(.int .u8 0), (.int .u8 0), (.int .u8 0), (.int .u8 0), (.int .u8 0), (.int .u8 0), (.int .u8 0), (.int .u8 0), (.int .u8 0), (.int .u8 0), (.int .u8 0), (.int .u8 0), (.int .u8 0), (.int .u8 0), (.int .u8 0), (.int .u8 0), (.int .u8 0), (.int .u8 0), (.int .u8 0), (.int .u8 0), (.int .u8 0), (.int .u8 0), (.int .u8 0), (.int .u8 0), (.int .u8 0), (.int .u8 0), (.int .u8 0), (.int .u8 0), (.int .u8 0), (.int .u8 0), (.int .u8 0), (.int .u8 0), (.int .u32 0), (.slc 1 [] .tight), (.int .u32 0), (.slc 1 [] .tight)], none⟩,
    ⟨none, .store 36 (.t 7) (.t 45), none⟩])
  (.seq (.region [⟨some 46, .mv (.t 1), none⟩,
    ⟨some 47, .mv (.t 6), none⟩,
    ⟨some 48, .bin .num .mul (.c (.int .i64 3)) (.t 47), none⟩,
    ⟨some 49, .convInt .u64 (.t 48), none⟩,
    ⟨some 50, .bin .num .shr (.t 46) (.t 49), none⟩,
    ⟨some 51, .convInt .u8 (.t 50), none⟩,
    ⟨some 52, .mv (.t 6), none⟩,
    ⟨some 53, .convInt .u8 (.t 52), none⟩,
    ⟨some 54, .fieldAddr 0 (.t 7), none⟩,
    ⟨some 55, .indexA 32 1 (.t 54) (.c (.int .i64 0)), none⟩,
    ⟨none, .store 1 (.t 55) (.t 51), none⟩,
    ⟨some 56, .fieldAddr 0 (.t 7), none⟩,
    ⟨some 57, .indexA 32 1 (.t 56) (.c (.int .i64 31)), none⟩,
    ⟨none, .store 1 (.t 57) (.t 53), none⟩])
  (.seq (.seq (.region [⟨some 58, .mv (.t 1), none⟩,
    ⟨some 59, .mv (.t 6), none⟩,
    ⟨some 60, .bin .num .add (.c (.int .i64 12)) (.t 59), none⟩,
    ⟨some 61, .convInt .u64 (.t 60), none⟩,
    ⟨some 62, .bin .num .shr (.t 58) (.t 61), none⟩,
    ⟨some 63, .bin .num .and (.t 62) (.c (.int .i64 3)), none⟩,
    ⟨some 64, .bin .num .eql (.t 63) (.c (.int .i64 0)), none⟩])
  (.cond (.t 64) (.region [⟨some 65, .mv (.t 1), none⟩,
    ⟨some 66, .convInt .u8 (.t 65), none⟩,
    ⟨some 67, .buildSlice 1 false [(.t 66)], none⟩,
    ⟨some 68, .buildSlice 1 false [(.t 67), (.c (.slc 1 [] .tight))], none⟩,
    ⟨some 69, .mv (.t 1), none⟩,
    ⟨some 70, .bin .num .shr (.t 69) (.c (.int .u64 16)), none⟩,
    ⟨some 71, .bin .num .and (.t 70) (.c (.int .i64 1)), none⟩,
    ⟨some 72, .bin .num .add (.t 71) (.c (.int .i64 1)), none⟩,
    ⟨some 73, .sliceS 1 (.t 68) none (some (.t 72)) none, none⟩,
    ⟨some 74, .fieldAddr 35 (.t 7), none⟩,
    ⟨none, .store 1 (.t 74) (.t 73), none⟩])
  .skip))
  (.seq (.seq (.region [⟨some 75, .mv (.t 1), none⟩,
    ⟨some 76, .bin .num .shr (.t 75) (.c (.int .u64 18)), none⟩,
    ⟨some 77, .bin .num .and (.t 76) (.c (.int .i64 3)), none⟩,
    ⟨some 78, .bin .num .eql (.t 77) (.c (.int .i64 0)), none⟩])
  (.cond (.t 78) (.region [⟨some 79, .mv (.t 1), none⟩,
    ⟨some 80, .bin .num .shr (.t 79) (.c (.int .u64 4)), none⟩,
    ⟨some 81, .convInt .u8 (.t 80), none⟩,
    ⟨some 82, .buildSlice 1 false [(.t 81)], none⟩,
    ⟨some 83, .fieldAddr 33 (.t 7), none⟩,
    ⟨none, .store 1 (.t 83) (.t 82), none⟩])
  .skip))
  (.region [⟨some 84, .fieldAddr 1 (.t 5), none⟩,
    ⟨some 85, .load false 1 (.t 84), none⟩,
    ⟨some 86, .load true 36 (.t 7), none⟩,
    ⟨some 87, .buildSlice 36 true [(.t 86)], none⟩,
    ⟨some 88, .appendR 36 96 (.t 85) (.t 87), none⟩,
    ⟨some 89, .fieldAddr 1 (.t 5), none⟩,
    ⟨none, .store 1 (.t 89) (.t 88), none⟩]))))))
  (.region [⟨some 28, .mv (.t 6), none⟩,
    ⟨some 29, .bin .num .add (.t 28) (.c (.int .i64 1)), none⟩,
    ⟨some 6, .mv (.t 29), none⟩])))
def b22_1 : ACode := (.seq (.seq (.region [⟨some 90, .mv (.t 8), none⟩,
    ⟨some 91, .mv (.t 0), none⟩,
    ⟨some 92, .bin .num .shr (.t 91) (.c (.int .u64 10)), none⟩,
    ⟨some 93, .bin .num .and (.t 92) (.c (.int .i64 3)), none⟩,
    ⟨some 94, .bin .num .add (.t 93) (.c (.int .i64 1)), none⟩,
    ⟨some 95, .bin .num .lss (.t 90) (.t 94), none⟩])
  (.cond (.t 95) .skip
  (.exit 2)))
  (.seq (.block 3 (.drawn [⟨some 98, .fieldAddr 2 (.t 5), none⟩,
    ⟨some 99, .load false 1 (.t 98), none⟩,
    ⟨some 100, .mv (.t 0), none⟩,
    ⟨some 101, .mv (.t 8), none⟩,
    ⟨some 102, .bin .num .add (.c (.int .i64 12)) (.t 101), none⟩,
    ⟨some 103, .convInt .u64 (.t 102), none⟩,
    ⟨some 104, .bin .num .shr (.t 100) (.t 103), none⟩,
    ⟨some 105, .bin .num .and (.t 104) (.c (.int .i64 4095)), none⟩,
    ⟨some 106, .convInt .u64 (.t 105), none⟩,
    ⟨some 107, .mv (.t 1), none⟩,
    ⟨some 108, .mv (.t 8), none⟩,
    ⟨some 109, .convInt .u64 (.t 108), none⟩,
    ⟨some 110, .bin .num .shr (.t 107) (.t 109), none⟩,
    ⟨some 111, .call 57 [(.t 110)], none⟩,
    ⟨some 112, .build [(.int .u64 0), (.slc 1 [] .tight)] [(0, 1, (.t 106)), (1, 1, (.t 111))], none⟩,
    ⟨some 113, .buildSlice 2 true [(.t 112)], none⟩,
    ⟨some 114, .appendR 2 32 (.t 99) (.t 113), none⟩,
    ⟨some 115, .fieldAddr 2 (.t 5), none⟩,
    ⟨none, .store 1 (.t 115) (.t 114), none⟩] [0, 0, 3, 7, 7, 7, 3, 3, 3, 511, 1023, 1023, 511, 511, 3, 3, 0, 0, 0]))
  (.region [⟨some 96, .mv (.t 8), none⟩,
    ⟨some 97, .bin .num .add (.t 96) (.c (.int .i64 1)), none⟩,
    ⟨some 8, .mv (.t 97), none⟩])))
/-- lighterage/lighteragelaw3.Tx -/
def a22 : AFn := ⟨117, 2, [.cell 4 true 4],
  (.seq (.region [⟨some 4, .alloc [(.int .u32 0), (.slc 36 [] .tight), (.slc 2 [] .tight), (.int .u32 0)], none⟩])
  (.seq (.region [⟨some 9, .mv (.t 0), none⟩,
    ⟨some 10, .bin .num .and (.t 9) (.c (.int .i64 3)), none⟩,
    ⟨some 11, .bin .num .add (.t 10) (.c (.int .i64 1)), none⟩,
    ⟨some 12, .convInt .u32 (.t 11), none⟩,
    ⟨some 13, .mv (.t 0), none⟩,
    ⟨some 14, .bin .num .shr (.t 13) (.c (.int .u64 2)), none⟩,
    ⟨some 15, .bin .num .and (.t 14) (.c (.int .i64 1)), none⟩,
    ⟨some 16, .mv (.t 0), none⟩,
    ⟨some 17, .bin .num .shr (.t 16) (.c (.int .u64 3)), none⟩,
    ⟨some 18, .bin .num .and (.t 17) (.c (.int .i64 31)), none⟩,
    ⟨some 19, .bin .num .mul (.t 15) (.t 18), none⟩,
    ⟨some 20, .convInt .u32 (.t 19), none⟩,
    ⟨some 21, .build [(.int .u32 0), (.slc 36 [] .tight), (.slc 2 [] .tight), (.int .u32 0)] [(0, 1, (.t 12)), (3, 1, (.t 20))], none⟩,
    ⟨some 5, .alloc [(.int .u32 0), (.slc 36 [] .tight), (.slc 2 [] .tight), (.int .u32 0)], none⟩,
    ⟨none, .store 4 (.t 5) (.t 21), none⟩])
  (.seq (.seq (.region [⟨some 6, .mv (.c (.int .i64 0)), none⟩])
  (.block 0 (.loopR [0, 1, 4, 5, 6] [4, 5, 88] [(88, 1088)] b22_0)))
  (.seq (.seq (.region [⟨some 8, .mv (.c (.int .i64 0)), none⟩])
  (.block 2 (.loopR [0, 1, 4, 5, 8] [4, 5, 1088, 114] [(114, 1114)] b22_1)))
  (.seq (.region [⟨some 116, .load true 4 (.t 5), none⟩,
    ⟨none, .store 4 (.t 4) (.t 116), none⟩])
  .ret))))), true⟩
def h22 : Hints := ⟨[88, 114], [(3, ([0, 1, 4, 5, 6], [4, 5, 88])), (13, ([0, 1, 4, 5, 8], [4, 5, 1088, 114])), (1000003, ([88], [1088])), (1000013, ([114], [1114]))]⟩
theorem p22 : prepFn Tryd.prog G h22 true Tryd.f22 = some a22 := by kernel_rfl
theorem o22 : okFn Tryd.prog Tryd.f22 a22 = true := by kernel_rfl
/-- lighterage/lighteragelaw3.Script -/
def a57 : AFn := ⟨37, 1, [.tmp 2],
  (.seq (.region [⟨some 2, .mv (.c (.slc 1 [] .tight)), none⟩])
  (.seq (.seq (.region [⟨some 3, .mv (.t 0), none⟩,
    ⟨some 4, .bin .num .and (.t 3) (.c (.int .i64 7)), none⟩])
  (.block 0 (.seq (.region [⟨some 6, .bin .num .eql (.t 4) (.c (.int .i64 0)), none⟩,
    ⟨some 5, .mv (.t 6), none⟩])
  (.cond (.t 5) (.seq (.region [⟨some 7, .mv (.c .undef), none⟩,
    ⟨some 8, .buildSlice 1 false [(.c (.int .u8 81)), (.c (.int .u8 2)), (.c (.int .u8 78)), (.c (.int .u8 115))], none⟩,
    ⟨some 2, .mv (.t 8), none⟩])
  .ret)
  (.seq (.seq (.region [⟨some 10, .bin .num .eql (.t 4) (.c (.int .i64 1)), none⟩,
    ⟨some 9, .mv (.t 10), none⟩])
  (.cond (.t 9) .skip
  (.region [⟨some 11, .bin .num .eql (.t 4) (.c (.int .i64 2)), none⟩,
    ⟨some 9, .mv (.t 11), none⟩])))
  (.cond (.t 9) (.seq (.region [⟨some 12, .buildSlice 1 false [(.c (.int .u8 0)), (.c (.int .u8 20))], none⟩,
    ⟨some 13, .appendZ (.t 12) (.c (.int .i64 20)), none⟩,
    ⟨some 2, .mv (.t 13), none⟩])
  .ret)
  (.seq (.region [⟨some 15, .bin .num .eql (.t 4) (.c (.int .i64 3)), none⟩,
    ⟨some 14, .mv (.t 15), none⟩])
  (.cond (.t 14) (.seq (.region [⟨some 16, .buildSlice 1 false [(.c (.int .u8 0)), (.c (.int .u8 32))], none⟩,
    ⟨some 17, .appendZ (.t 16) (.c (.int .i64 32)), none⟩,
    ⟨some 2, .mv (.t 17), none⟩])
  .ret)
  (.seq (.seq (.region [⟨some 19, .bin .num .eql (.t 4) (.c (.int .i64 4)), none⟩,
    ⟨some 18, .mv (.t 19), none⟩])
  (.cond (.t 18) .skip
  (.region [⟨some 20, .bin .num .eql (.t 4) (.c (.int .i64 5)), none⟩,
    ⟨some 18, .mv (.t 20), none⟩])))
  (.cond (.t 18) (.seq (.region [⟨some 21, .mv (.t 0), none⟩,
    ⟨some 22, .bin .num .shr (.t 21) (.c (.int .u64 3)), none⟩,
    ⟨some 23, .convInt .u8 (.t 22), none⟩,
    ⟨some 24, .buildSlice 1 false [(.c (.int .u8 81)), (.c (.int .u8 32)), (.t 23)], none⟩,
    ⟨some 25, .appendZ (.t 24) (.c (.int .i64 31)), none⟩,
    ⟨some 2, .mv (.t 25), none⟩])
  .ret)
  (.seq (.region [⟨some 27, .bin .num .eql (.t 4) (.c (.int .i64 6)), none⟩,
    ⟨some 26, .mv (.t 27), none⟩])
  (.cond (.t 26) (.seq (.region [⟨some 28, .buildSlice 1 false [(.c (.int .u8 106))], none⟩,
    ⟨some 29, .mv (.t 0), none⟩,
    ⟨some 30, .bin .num .shr (.t 29) (.c (.int .u64 3)), none⟩,
    ⟨some 31, .bin .num .and (.t 30) (.c (.int .i64 31)), none⟩,
    ⟨some 32, .appendZ (.t 28) (.t 31), none⟩,
    ⟨some 2, .mv (.t 32), none⟩])
  .ret)
  .skip))))))))))))
  (.seq (.region [⟨some 33, .mv (.t 0), none⟩,
    ⟨some 34, .bin .num .shr (.t 33) (.c (.int .u64 3)), none⟩,
    ⟨some 35, .convInt .u8 (.t 34), none⟩,
    ⟨some 36, .buildSlice 1 false [(.t 35)], none⟩,
    ⟨some 2, .mv (.t 36), none⟩])
  .ret))), false⟩
def h57 : Hints := ⟨[], []⟩
theorem p57 : prepFn Tryd.prog G h57 false Tryd.f57 = some a57 := by kernel_rfl
theorem o57 : okFn Tryd.prog Tryd.f57 a57 = true := by kernel_rfl
def b9_0 : ACode := (.seq (.region [⟨some 35, .bin .num .lss (.t 34) (.t 33), none⟩])
  (.seq (.cond (.t 35) .skip
  (.exit 0))
  (.seq (.block 1 (.seq (.region [⟨some 36, .mv (.t 34), none⟩,
    ⟨some 8, .mv (.t 36), none⟩])
  (.region [⟨some 37, .fieldAddr 1 (.t 5), none⟩,
    ⟨some 38, .load false 1 (.t 37), none⟩,
    ⟨some 39, .mv (.t 8), none⟩,
    ⟨some 40, .indexS 36 (.t 38) (.t 39), none⟩,
    ⟨some 41, .fieldAddr 35 (.t 40), none⟩,
    ⟨none, .store 1 (.t 41) (.c (.slc 1 [] .tight)), none⟩])))
  (.region [⟨some 42, .bin .num .add (.t 34) (.c (.int .i64 1)), none⟩,
    ⟨some 34, .mv (.t 42), none⟩]))))
/-- lighterage/lighteragelaw4.IdsxSizes -/
def a9 : AFn := ⟨60, 2, [.tmp 4],
  (.seq (.region [⟨some 4, .mv (.c (.bool false)), none⟩])
  (.seq (.region [⟨some 9, .mv (.t 0), none⟩,
    ⟨some 10, .mv (.t 1), none⟩,
    ⟨some 11, .call 22 [(.t 9), (.t 10)], none⟩,
    ⟨some 5, .alloc [(.int .u32 0), (.slc 36 [] .tight), (.slc 2 [] .tight), (.int .u32 0)], none⟩,
    ⟨none, .store 4 (.t 5) (.t 11), none⟩])
  (.seq (.drawn [⟨some 12, .load true 4 (.t 5), none⟩,
    ⟨some 13, .callR 23 [(.t 12)], none⟩,
    ⟨some 14, .load true 4 (.t 5), none⟩,
    ⟨some 15, .callR 24 [(.t 14)], none⟩,
    ⟨some 6, .mv (.t 13), none⟩,
    ⟨some 7, .mv (.t 15), none⟩] [0, 0, 3, 0, 0, 0])
  (.seq (.seq (.region [⟨some 16, .mv (.t 7), none⟩,
    ⟨some 17, .bin .num .mul (.c (.int .i64 4)) (.t 16), none⟩,
    ⟨some 18, .mv (.t 6), none⟩,
    ⟨some 19, .bin .num .lss (.t 17) (.t 18), none⟩,
    ⟨some 20, .mv (.t 19), none⟩,
    ⟨some 21, .mv (.t 7), some (20, false)⟩,
    ⟨some 22, .bin .num .mul (.c (.int .i64 4)) (.t 21), some (20, false)⟩,
    ⟨some 23, .mv (.t 6), some (20, false)⟩,
    ⟨some 24, .bin .num .add (.t 23) (.c (.int .i64 4)), some (20, false)⟩,
    ⟨some 25, .bin .num .geq (.t 22) (.t 24), some (20, false)⟩,
    ⟨some 26, .pick (.t 20) (.c (.bool true)) (.t 25), none⟩,
    ⟨some 27, .mv (.t 26), none⟩,
    ⟨some 28, .mv (.t 7), some (27, false)⟩,
    ⟨some 29, .bin .num .lss (.t 28) (.c (.int .i64 1)), some (27, false)⟩,
    ⟨some 30, .pick (.t 27) (.c (.bool true)) (.t 29), none⟩])
  (.cond (.t 30) (.seq (.region [⟨some 4, .mv (.c (.bool false)), none⟩])
  .ret)
  .skip))
  (.seq (.seq (.region [⟨some 31, .fieldAddr 1 (.t 5), none⟩,
    ⟨some 32, .load false 1 (.t 31), none⟩,
    ⟨some 33, .lenS (.t 32), none⟩,
    ⟨some 34, .mv (.c (.int .i64 0)), none⟩])
  (.block 0 (.loop [5, 33, 34] [5, 11] b9_0)))
  (.seq (.drawn [⟨some 43, .load true 4 (.t 5), none⟩,
    ⟨some 44, .callR 23 [(.t 43)], none⟩,
    ⟨some 45, .load true 4 (.t 5), none⟩,
    ⟨some 46, .callR 24 [(.t 45)], none⟩,
    ⟨some 47, .bin .num .mul (.c (.int .i64 4)) (.t 46), none⟩,
    ⟨some 48, .bin .num .eql (.t 44) (.t 47), none⟩,
    ⟨some 49, .mv (.t 48), none⟩,
    ⟨some 50, .load true 4 (.t 5), some (49, true)⟩,
    ⟨some 51, .callR 24 [(.t 50)], some (49, true)⟩,
    ⟨some 52, .load true 4 (.t 5), some (49, true)⟩,
    ⟨some 53, .callR 25 [(.t 52)], some (49, true)⟩,
    ⟨some 54, .lenS (.t 53), some (49, true)⟩,
    ⟨some 55, .bin .num .eql (.t 51) (.t 54), some (49, true)⟩,
    ⟨some 56, .pick (.t 49) (.t 55) (.c (.bool false)), none⟩,
    ⟨some 57, .mv (.t 56), none⟩,
    ⟨some 58, .call 26 [], some (57, true)⟩,
    ⟨some 59, .pick (.t 57) (.t 58) (.c (.bool false)), none⟩,
    ⟨some 4, .mv (.t 59), none⟩] [0, 0, 3, 0, 0, 0, 0, 0, 0, 384, 0, 0, 0, 0, 0, 0, 0, 0])
  .ret)))))), false⟩
def h9 : Hints := ⟨[13, 15, 44, 46, 51, 53], [(6, ([5, 33, 34], [5, 11]))]⟩
theorem p9 : prepFn Tryd.prog G h9 false Tryd.f9 = some a9 := by kernel_rfl
theorem o9 : okFn Tryd.prog Tryd.f9 a9 = true := by kernel_rfl
/-- lighterage/lighteragelaw4.awake -/
def a26 : AFn := ⟨32, 0, [.tmp 0],
  (.seq (.region [⟨some 0, .mv (.c (.bool false)), none⟩])
  (.seq (.region [⟨some 2, .call 22 [(.c (.int .i64 5)), (.c (.int .i64 9))], none⟩,
    ⟨some 1, .alloc [(.int .u32 0), (.slc 36 [] .tight), (.slc 2 [] .tight), (.int .u32 0)], none⟩,
    ⟨none, .store 4 (.t 1) (.t 2), none⟩])
  (.seq (.drawn [⟨some 3, .load true 4 (.t 1), none⟩,
    ⟨some 4, .callR 63 [(.t 3)], none⟩,
    ⟨some 5, .load true 4 (.t 1), none⟩,
    ⟨some 6, .callR 64 [(.t 5)], none⟩,
    ⟨some 7, .eqAgg 32 false (.t 4) (.t 6), none⟩,
    ⟨some 8, .mv (.t 7), none⟩,
    ⟨some 9, .build [(.int .u32 0), (.slc 36 [] .tight), (.slc 2 [] .tight), (.int .u32 0)] [], some (8, true)⟩,
    ⟨some 10, .call 23 [(.t 9)], some (8, true)⟩,
    ⟨some 11, .bin .num .eql (.t 10) (.c (.int .i64 0)), some (8, true)⟩,
    ⟨some 12, .pick (.t 8) (.t 11) (.c (.bool false)), none⟩,
    ⟨some 13, .mv (.t 12), none⟩,
    ⟨some 14, .build [(.int .u32 0), (.slc 36 [] .tight), (.slc 2 [] .tight), (.int .u32 0)] [], some (13, true)⟩,
    ⟨some 15, .call 24 [(.t 14)], some (13, true)⟩,
    ⟨some 16, .bin .num .eql (.t 15) (.c (.int .i64 0)), some (13, true)⟩,
    ⟨some 17, .pick (.t 13) (.t 16) (.c (.bool false)), none⟩,
    ⟨some 18, .mv (.t 17), none⟩,
    ⟨some 19, .load true 4 (.t 1), some (18, true)⟩,
    ⟨some 20, .callR 24 [(.t 19)], some (18, true)⟩,
    ⟨some 21, .bin .num .gtr (.t 20) (.c (.int .i64 0)), some (18, true)⟩,
    ⟨some 22, .pick (.t 18) (.t 21) (.c (.bool false)), none⟩,
    ⟨some 23, .mv (.t 22), none⟩,
    ⟨some 24, .load true 4 (.t 1), some (23, true)⟩,
    ⟨some 25, .callR 23 [(.t 24)], some (23, true)⟩,
    ⟨some 26, .load true 4 (.t 1), some (23, true)⟩,
    ⟨some 27, .callR 24 [(.t 26)], some (23, true)⟩,
    ⟨some 28, .bin .num .mul (.c (.int .i64 4)) (.t 27), some (23, true)⟩,
    ⟨some 29, .bin .num .sub (.t 28) (.c (.int .i64 3)), some (23, true)⟩,
    ⟨some 30, .bin .num .geq (.t 25) (.t 29), some (23, true)⟩,
    ⟨some 31, .pick (.t 23) (.t 30) (.c (.bool false)), none⟩,
    ⟨some 0, .mv (.t 31), none⟩] [0, 0, 3, 0, 0, 0, 0, 0, 0, 0, 0, 0, 0, 0, 0, 0, 0, 0, 0, 0, 0, 0, 0, 6291456, 0, 0, 0, 0, 0, 0])
  .ret))), false⟩
def h26 : Hints := ⟨[4, 6, 20, 25, 27], []⟩
theorem p26 : prepFn Tryd.prog G h26 false Tryd.f26 = some a26 := by kernel_rfl
theorem o26 : okFn Tryd.prog Tryd.f26 a26 = true := by kernel_rfl
end Go.Proofs.YtiiohfojejfolaaDoor
