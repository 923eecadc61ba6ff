/-
  What is proved: the evaluator's forms of more functions of the program (data, each held against the program by the kernel). By a program of ours. Conditions: none.
-/
import Derived.Test.YtiiohfojejfolaaDoorD1
namespace Go.Proofs.YtiiohfojejfolaaDoor
open Go Go.Ev Go.Proofs
def b111_0 : ACode := (.seq (.region [⟨some 14, .bin .num .lss (.t 13) (.t 12), none⟩])
  (.seq (.cond (.t 14) .skip
  (.exit 0))
  (.seq (.block 1 (.seq (.region [⟨some 15, .mv (.t 13), none⟩,
    ⟨some 8, .mv (.t 15), none⟩])
  (.region [⟨some 16, .mv (.t 7), none⟩,
    ⟨some 17, .mv (.t 1), none⟩,
    ⟨some 18, .mv (.t 8), none⟩,
    ⟨some 19, .bin .num .mul (.c (.int .i64 8)) (.t 18), none⟩,
    ⟨some 20, .bin .num .shr (.t 17) (.t 19), none⟩,
    ⟨some 21, .convInt .u8 (.t 20), none⟩,
    ⟨some 22, .buildSlice 1 false [(.t 21)], none⟩,
    ⟨some 23, .append 1 1 (.t 16) (.t 22), none⟩,
    ⟨some 7, .mv (.t 23), none⟩])))
  (.region [⟨some 24, .bin .num .add (.t 13) (.c (.int .i64 1)), none⟩,
    ⟨some 13, .mv (.t 24), none⟩]))))
/-- lighterage/wire.low -/
def a111 : AFn := ⟨26, 3, [.tmp 6],
  (.seq (.region [⟨some 6, .mv (.c (.slc 1 [] .tight)), none⟩])
  (.seq (.region [⟨some 9, .mv (.t 0), none⟩,
    ⟨some 10, .call 52 [(.t 9)], none⟩,
    ⟨some 11, .call 51 [(.t 10)], none⟩,
    ⟨some 7, .mv (.t 11), none⟩])
  (.seq (.seq (.region [⟨some 12, .mv (.t 2), none⟩,
    ⟨some 13, .mv (.c (.int .i64 0)), none⟩])
  (.block 0 (.loop [1, 7, 12, 13] [23] b111_0)))
  (.seq (.region [⟨some 25, .mv (.t 7), none⟩,
    ⟨some 6, .mv (.t 25), none⟩])
  .ret)))), true⟩
def h111 : Hints := ⟨[], [(3, ([1, 7, 12, 13], [23]))]⟩
theorem p111 : prepFn Tryd.prog G h111 true Tryd.f111 = some a111 := by kernel_rfl
theorem o111 : okFn Tryd.prog Tryd.f111 a111 = true := by kernel_rfl
/-- lighterage/wire.Small -/
def a69 : AFn := ⟨9, 2, [.tmp 4],
  (.seq (.region [⟨some 4, .mv (.c (.slc 1 [] .tight)), none⟩])
  (.seq (.region [⟨some 5, .mv (.t 0), none⟩,
    ⟨some 6, .mv (.t 1), none⟩,
    ⟨some 7, .convInt .u64 (.t 6), none⟩,
    ⟨some 8, .call 111 [(.t 5), (.t 7), (.c (.int .i64 4))], none⟩,
    ⟨some 4, .mv (.t 8), none⟩])
  .ret)), true⟩
def h69 : Hints := ⟨[], []⟩
theorem p69 : prepFn Tryd.prog G h69 true Tryd.f69 = some a69 := by kernel_rfl
theorem o69 : okFn Tryd.prog Tryd.f69 a69 = true := by kernel_rfl
/-- lighterage/wire.Big -/
def a136 : AFn := ⟨8, 2, [.tmp 4],
  (.seq (.region [⟨some 4, .mv (.c (.slc 1 [] .tight)), none⟩])
  (.seq (.region [⟨some 5, .mv (.t 0), none⟩,
    ⟨some 6, .mv (.t 1), none⟩,
    ⟨some 7, .call 111 [(.t 5), (.t 6), (.c (.int .i64 8))], none⟩,
    ⟨some 4, .mv (.t 7), none⟩])
  .ret)), true⟩
def h136 : Hints := ⟨[], []⟩
theorem p136 : prepFn Tryd.prog G h136 true Tryd.f136 = some a136 := by kernel_rfl
theorem o136 : okFn Tryd.prog Tryd.f136 a136 = true := by kernel_rfl
/-- lighterage/wire.Count -/
def a68 : AFn := ⟨27, 2, [.tmp 4],
  (.seq (.region [⟨some 4, .mv (.c (.slc 1 [] .tight)), none⟩])
  (.seq (.region [⟨some 6, .mv (.t 1), none⟩,
    ⟨some 7, .max (.t 6) [(.c (.int .i64 0))], none⟩,
    ⟨some 8, .min (.t 7) [(.c (.int .i64 4294967295))], none⟩,
    ⟨some 9, .convInt .u64 (.t 8), none⟩,
    ⟨some 5, .mv (.t 9), none⟩])
  (.seq (.block 0 (.seq (.region [⟨some 11, .mv (.t 5), none⟩,
    ⟨some 12, .bin .num .lss (.t 11) (.c (.int .u64 253)), none⟩,
    ⟨some 10, .mv (.t 12), none⟩])
  (.cond (.t 10) (.seq (.region [⟨some 13, .mv (.t 0), none⟩,
    ⟨some 14, .mv (.t 5), none⟩,
    ⟨some 15, .call 111 [(.t 13), (.t 14), (.c (.int .i64 1))], none⟩,
    ⟨some 4, .mv (.t 15), none⟩])
  .ret)
  (.seq (.region [⟨some 17, .mv (.t 5), none⟩,
    ⟨some 18, .bin .num .lss (.t 17) (.c (.int .u64 65536)), none⟩,
    ⟨some 16, .mv (.t 18), none⟩])
  (.cond (.t 16) (.seq (.region [⟨some 19, .mv (.t 0), none⟩,
    ⟨some 20, .call 111 [(.t 19), (.c (.int .u64 253)), (.c (.int .i64 1))], none⟩,
    ⟨some 21, .mv (.t 5), none⟩,
    ⟨some 22, .call 111 [(.t 20), (.t 21), (.c (.int .i64 2))], none⟩,
    ⟨some 4, .mv (.t 22), none⟩])
  .ret)
  .skip)))))
  (.seq (.region [⟨some 23, .mv (.t 0), none⟩,
    ⟨some 24, .call 111 [(.t 23), (.c (.int .u64 254)), (.c (.int .i64 1))], none⟩,
    ⟨some 25, .mv (.t 5), none⟩,
    ⟨some 26, .call 111 [(.t 24), (.t 25), (.c (.int .i64 4))], none⟩,
    ⟨some 4, .mv (.t 26), none⟩])
  .ret)))), true⟩
def h68 : Hints := ⟨[], []⟩
theorem p68 : prepFn Tryd.prog G h68 true Tryd.f68 = some a68 := by kernel_rfl
theorem o68 : okFn Tryd.prog Tryd.f68 a68 = true := by kernel_rfl
/-- lighterage/txns.counted -/
def a105 : AFn := ⟨11, 2, [.tmp 4],
  (.seq (.region [⟨some 4, .mv (.c (.slc 1 [] .tight)), none⟩])
  (.seq (.region [⟨some 5, .mv (.t 0), none⟩,
    ⟨some 6, .mv (.t 1), none⟩,
    ⟨some 7, .lenS (.t 6), none⟩,
    ⟨some 8, .call 68 [(.t 5), (.t 7)], none⟩,
    ⟨some 9, .mv (.t 1), none⟩,
    ⟨some 10, .append 1 1 (.t 8) (.t 9), none⟩,
    ⟨some 4, .mv (.t 10), none⟩])
  .ret)), true⟩
def h105 : Hints := ⟨[], []⟩
theorem p105 : prepFn Tryd.prog G h105 true Tryd.f105 = some a105 := by kernel_rfl
theorem o105 : okFn Tryd.prog Tryd.f105 a105 = true := by kernel_rfl
def b103_0 : ACode := (.seq (.region [⟨some 18, .bin .num .lss (.t 17) (.t 16), none⟩])
  (.seq (.cond (.t 18) .skip
  (.exit 0))
  (.seq (.block 1 (.seq (.region [⟨some 19, .indexS 36 (.t 15) (.t 17), none⟩,
    ⟨some 20, .load true 36 (.t 19), none⟩,
    ⟨some 6, .alloc [(.int .u8 0), (.int .u8 0), (.int .u8 0), (.int .u8 0), (.int .u8 0), (.int .u8 0), (.int .u8 0), (.int .u8 0), (.int .u8 0), (.int .u8 0), (.int .u8 0), (.int .u8 0), (.int .u8 0), (.int .u8 0), (.int .u8 0), (.int .u8 0), (.int .u8 0), (.int .u8 0), (.int .u8 0), (.int .u8 0), (.int .u8 0), (.int .u8 0), (.int .u8 0), (.int .u8 0), (.int .u8 0), (.int .u8 0), (.int .u8 0), (.int .u8 0), (.int .u8 0), (.int .u8 0), (.int .u8 0), (.int .u8 0), (.int .u32 0), (.slc 1 [] .tight), (.int .u32 0), (.slc 1 [] .tight)], none⟩,
    ⟨none, .store 36 (.t 6) (.t 20), none⟩])
  (.seq (.drawn [⟨some 21, .mv (.t 0), none⟩,
    ⟨some 22, .fieldAddr 0 (.t 6), none⟩,
    ⟨some 23, .sliceA 32 1 (.t 22) none none none, none⟩,
    ⟨some 24, .append 1 1 (.t 21) (.t 23), none⟩,
    ⟨some 25, .fieldAddr 32 (.t 6), none⟩,
    ⟨some 26, .load false 1 (.t 25), none⟩,
    ⟨some 27, .call 69 [(.t 24), (.t 26)], none⟩,
    ⟨some 0, .mv (.t 27), none⟩] [0, 1, 1, 0, 15, 15, 0, 0])
  (.drawn [⟨some 28, .mv (.t 0), none⟩,
    ⟨some 29, .fieldAddr 33 (.t 6), none⟩,
    ⟨some 30, .load false 1 (.t 29), none⟩,
    ⟨some 31, .call 105 [(.t 28), (.t 30)], none⟩,
    ⟨some 32, .fieldAddr 34 (.t 6), none⟩,
    ⟨some 33, .load false 1 (.t 32), none⟩,
    ⟨some 34, .call 69 [(.t 31), (.t 33)], none⟩,
    ⟨some 0, .mv (.t 34), none⟩] [0, 1, 1, 0, 15, 15, 0, 0]))))
  (.region [⟨some 35, .bin .num .add (.t 17) (.c (.int .i64 1)), none⟩,
    ⟨some 17, .mv (.t 35), none⟩]))))
def b103_1 : ACode := (.seq (.region [⟨some 45, .bin .num .lss (.t 44) (.t 43), none⟩])
  (.seq (.cond (.t 45) .skip
  (.exit 2))
  (.seq (.block 3 (.seq (.region [⟨some 46, .indexS 2 (.t 42) (.t 44), none⟩,
    ⟨some 47, .load true 2 (.t 46), none⟩,
    ⟨some 8, .alloc [(.int .u64 0), (.slc 1 [] .tight)], none⟩,
    ⟨none, .store 2 (.t 8) (.t 47), none⟩])
  (.drawn [⟨some 48, .mv (.t 0), none⟩,
    ⟨some 49, .fieldAddr 0 (.t 8), none⟩,
    ⟨some 50, .load false 1 (.t 49), none⟩,
    ⟨some 51, .call 136 [(.t 48), (.t 50)], none⟩,
    ⟨some 52, .fieldAddr 1 (.t 8), none⟩,
    ⟨some 53, .load false 1 (.t 52), none⟩,
    ⟨some 54, .call 105 [(.t 51), (.t 53)], none⟩,
    ⟨some 0, .mv (.t 54), none⟩] [0, 1, 1, 0, 15, 15, 0, 0])))
  (.region [⟨some 55, .bin .num .add (.t 44) (.c (.int .i64 1)), none⟩,
    ⟨some 44, .mv (.t 55), none⟩]))))
/-- lighterage/txns.body -/
def a103 : AFn := ⟨57, 2, [.tmp 4],
  (.seq (.region [⟨some 3, .box 4 (.t 1), none⟩,
    ⟨some 4, .mv (.c (.slc 1 [] .tight)), none⟩])
  (.seq (.region [⟨some 9, .mv (.t 0), none⟩,
    ⟨some 10, .fieldAddr 1 (.t 3), none⟩,
    ⟨some 11, .load false 1 (.t 10), none⟩,
    ⟨some 12, .lenS (.t 11), none⟩,
    ⟨some 13, .call 68 [(.t 9), (.t 12)], none⟩,
    ⟨some 0, .mv (.t 13), none⟩])
  (.seq (.seq (.region [⟨some 14, .fieldAddr 1 (.t 3), none⟩,
    ⟨some 15, .load false 1 (.t 14), none⟩,
    ⟨some 16, .lenS (.t 15), none⟩,
    ⟨some 17, .mv (.c (.int .i64 0)), none⟩])
  (.block 0 (.loopR [0, 3, 15, 16, 17] [3, 13, 34] [(13, 0), (34, 0)] b103_0)))
  (.seq (.region [⟨some 36, .mv (.t 0), none⟩,
    ⟨some 37, .fieldAddr 2 (.t 3), none⟩,
    ⟨some 38, .load false 1 (.t 37), none⟩,
    ⟨some 39, .lenS (.t 38), none⟩,
    ⟨some 40, .call 68 [(.t 36), (.t 39)], none⟩,
    ⟨some 0, .mv (.t 40), none⟩])
  (.seq (.seq (.region [⟨some 41, .fieldAddr 2 (.t 3), none⟩,
    ⟨some 42, .load false 1 (.t 41), none⟩,
    ⟨some 43, .lenS (.t 42), none⟩,
    ⟨some 44, .mv (.c (.int .i64 0)), none⟩])
  (.block 2 (.loopR [0, 42, 43, 44] [3, 40, 54] [(40, 0), (54, 0)] b103_1)))
  (.seq (.region [⟨some 56, .mv (.t 0), none⟩,
    ⟨some 4, .mv (.t 56), none⟩])
  .ret)))))), true⟩
def h103 : Hints := ⟨[], [(3, ([0, 3, 15, 16, 17], [3, 13, 34])), (10, ([0, 42, 43, 44], [3, 40, 54])), (1000003, ([13, 34], [0, 0])), (1000010, ([40, 54], [0, 0]))]⟩
theorem p103 : prepFn Tryd.prog G h103 true Tryd.f103 = some a103 := by kernel_rfl
theorem o103 : okFn Tryd.prog Tryd.f103 a103 = true := by kernel_rfl
/-- lighterage/txns.Base -/
def a58 : AFn := ⟨14, 1, [.tmp 2],
  (.seq (.region [⟨some 1, .box 4 (.t 0), none⟩,
    ⟨some 2, .mv (.c (.slc 1 [] .tight)), none⟩])
  (.seq (.seq (.region [⟨some 3, .load true 4 (.t 1), none⟩,
    ⟨some 4, .call 102 [(.t 3)], none⟩,
    ⟨some 5, .un .not (.t 4), none⟩])
  (.cond (.t 5) (.seq (.region [⟨some 2, .mv (.c (.slc 1 [] .tight)), none⟩])
  .ret)
  .skip))
  (.seq (.drawn [⟨some 6, .fieldAddr 0 (.t 1), none⟩,
    ⟨some 7, .load false 1 (.t 6), none⟩,
    ⟨some 8, .call 69 [(.c (.slc 1 [] .tight)), (.t 7)], none⟩,
    ⟨some 9, .load true 4 (.t 1), none⟩,
    ⟨some 10, .call 103 [(.t 8), (.t 9)], none⟩,
    ⟨some 11, .fieldAddr 3 (.t 1), none⟩,
    ⟨some 12, .load false 1 (.t 11), none⟩,
    ⟨some 13, .call 69 [(.t 10), (.t 12)], none⟩,
    ⟨some 2, .mv (.t 13), none⟩] [0, 0, 0, 7, 0, 31, 31, 0, 0])
  .ret))), false⟩
def h58 : Hints := ⟨[], []⟩
theorem p58 : prepFn Tryd.prog G h58 false Tryd.f58 = some a58 := by kernel_rfl
theorem o58 : okFn Tryd.prog Tryd.f58 a58 = true := by kernel_rfl
def b59_0 : ACode := (.seq (.region [⟨some 41, .bin .num .lss (.t 40) (.t 39), none⟩])
  (.seq (.cond (.t 41) .skip
  (.exit 2))
  (.seq (.block 3 (.seq (.region [⟨some 42, .indexS 1 (.t 38) (.t 40), none⟩,
    ⟨some 43, .load false 1 (.t 42), none⟩,
    ⟨some 7, .mv (.t 43), none⟩])
  (.region [⟨some 44, .mv (.t 3), none⟩,
    ⟨some 45, .mv (.t 7), none⟩,
    ⟨some 46, .call 105 [(.t 44), (.t 45)], none⟩,
    ⟨some 3, .mv (.t 46), none⟩])))
  (.region [⟨some 47, .bin .num .add (.t 40) (.c (.int .i64 1)), none⟩,
    ⟨some 40, .mv (.t 47), none⟩]))))
def b59_1 : ACode := (.seq (.region [⟨some 29, .bin .num .lss (.t 28) (.t 27), none⟩])
  (.seq (.cond (.t 29) .skip
  (.exit 0))
  (.seq (.block 1 (.seq (.region [⟨some 30, .indexS 36 (.t 26) (.t 28), none⟩,
    ⟨some 31, .load true 36 (.t 30), none⟩,
    ⟨some 5, .alloc [(.int .u8 0), (.int .u8 0), (.int .u8 0), (.int .u8 0), (.int .u8 0), (.int .u8 0), (.int .u8 0), (.int .u8 0), (.int .u8 0), (.int .u8 0), (.int .u8 0), (.int .u8 0), (.int .u8 0), (.int .u8 0), (.int .u8 0), (.int .u8 0), (.int .u8 0), (.int .u8 0), (.int .u8 0), (.int .u8 0), (.int .u8 0), (.int .u8 0), (.int .u8 0), (.int .u8 0), (.int .u8 0), (.int .u8 0), (.int .u8 0), (.int .u8 0), (.int .u8 0), (.int .u8 0), (.int .u8 0), (.int .u8 0), (.int .u32 0), (.slc 1 [] .tight), (.int .u32 0), (.slc 1 [] .tight)], none⟩,
    ⟨none, .store 36 (.t 5) (.t 31), none⟩])
  (.seq (.region [⟨some 32, .mv (.t 3), none⟩,
    ⟨some 33, .fieldAddr 35 (.t 5), none⟩,
    ⟨some 34, .load false 1 (.t 33), none⟩,
    ⟨some 35, .lenS (.t 34), none⟩,
    ⟨some 36, .call 68 [(.t 32), (.t 35)], none⟩,
    ⟨some 3, .mv (.t 36), none⟩])
  (.seq (.region [⟨some 37, .fieldAddr 35 (.t 5), none⟩,
    ⟨some 38, .load false 1 (.t 37), none⟩,
    ⟨some 39, .lenS (.t 38), none⟩,
    ⟨some 40, .mv (.c (.int .i64 0)), none⟩])
  (.block 2 (.loopR [1, 3, 26, 27, 28, 38, 39, 40] [1, 36, 46] [(36, 1003), (46, 1003)] b59_0))))))
  (.region [⟨some 48, .bin .num .add (.t 28) (.c (.int .i64 1)), none⟩,
    ⟨some 28, .mv (.t 48), none⟩]))))
/-- lighterage/txns.Bytes -/
def a59 : AFn := ⟨53, 1, [.tmp 2],
  (.seq (.region [⟨some 1, .box 4 (.t 0), none⟩,
    ⟨some 2, .mv (.c (.slc 1 [] .tight)), none⟩])
  (.seq (.seq (.region [⟨some 8, .load true 4 (.t 1), none⟩,
    ⟨some 9, .call 102 [(.t 8)], none⟩,
    ⟨some 10, .un .not (.t 9), none⟩,
    ⟨some 11, .mv (.t 10), none⟩,
    ⟨some 12, .load true 4 (.t 1), some (11, false)⟩,
    ⟨some 13, .call 104 [(.t 12)], some (11, false)⟩,
    ⟨some 14, .un .not (.t 13), some (11, false)⟩,
    ⟨some 15, .pick (.t 11) (.c (.bool true)) (.t 14), none⟩])
  (.cond (.t 15) (.seq (.region [⟨some 16, .load true 4 (.t 1), none⟩,
    ⟨some 17, .call 58 [(.t 16)], none⟩,
    ⟨some 2, .mv (.t 17), none⟩])
  .ret)
  .skip))
  (.seq (.drawn [⟨some 18, .fieldAddr 0 (.t 1), none⟩,
    ⟨some 19, .load false 1 (.t 18), none⟩,
    ⟨some 20, .call 69 [(.c (.slc 1 [] .tight)), (.t 19)], none⟩,
    ⟨some 21, .buildSlice 1 false [(.c (.int .u8 0)), (.c (.int .u8 1))], none⟩,
    ⟨some 22, .append 1 1 (.t 20) (.t 21), none⟩,
    ⟨some 23, .load true 4 (.t 1), none⟩,
    ⟨some 24, .call 103 [(.t 22), (.t 23)], none⟩,
    ⟨some 3, .mv (.t 24), none⟩] [0, 0, 0, 7, 0, 31, 0, 0])
  (.seq (.seq (.region [⟨some 25, .fieldAddr 1 (.t 1), none⟩,
    ⟨some 26, .load false 1 (.t 25), none⟩,
    ⟨some 27, .lenS (.t 26), none⟩,
    ⟨some 28, .mv (.c (.int .i64 0)), none⟩])
  (.block 0 (.loopR [1, 3, 26, 27, 28] [1, 24, 1003] [(24, 1004), (1003, 1004)] b59_1)))
  (.seq (.region [⟨some 49, .mv (.t 3), none⟩,
    ⟨some 50, .fieldAddr 3 (.t 1), none⟩,
    ⟨some 51, .load false 1 (.t 50), none⟩,
    ⟨some 52, .call 69 [(.t 49), (.t 51)], none⟩,
    ⟨some 2, .mv (.t 52), none⟩])
  .ret))))), false⟩
def h59 : Hints := ⟨[], [(5, ([1, 3, 26, 27, 28], [1, 24, 1003])), (9, ([1, 3, 26, 27, 28, 38, 39, 40], [1, 36, 46])), (1000005, ([24, 1003], [1004, 1004])), (1000009, ([36, 46], [1003, 1003]))]⟩
theorem p59 : prepFn Tryd.prog G h59 false Tryd.f59 = some a59 := by kernel_rfl
theorem o59 : okFn Tryd.prog Tryd.f59 a59 = true := by kernel_rfl
def b102_0 : ACode := (.seq (.region [⟨some 11, .bin .num .lss (.t 10) (.t 9), none⟩])
  (.seq (.cond (.t 11) .skip
  (.exit 0))
  (.seq (.block 1 (.seq (.region [⟨some 12, .indexS 36 (.t 8) (.t 10), none⟩,
    ⟨some 13, .load true 36 (.t 12), none⟩,
    ⟨some 4, .alloc [(.int .u8 0), (.int .u8 0), (.int .u8 0), (.int .u8 0), (.int .u8 0), (.int .u8 0), (.int .u8 0), (.int .u8 0), (.int .u8 0), (.int .u8 0), (.int .u8 0), (.int .u8 0), (.int .u8 0), (.int .u8 0), (.int .u8 0), (.int .u8 0), (.int .u8 0), (.int .u8 0), (.int .u8 0), (.int .u8 0), (.int .u8 0), (.int .u8 0), (.int .u8 0), (.int .u8 0), (.int .u8 0), (.int .u8 0), (.int .u8 0), (.int .u8 0), (.int .u8 0), (.int .u8 0), (.int .u8 0), (.int .u8 0), (.int .u32 0), (.slc 1 [] .tight), (.int .u32 0), (.slc 1 [] .tight)], none⟩,
    ⟨none, .store 36 (.t 4) (.t 13), none⟩])
  (.seq (.region [⟨some 14, .fieldAddr 33 (.t 4), none⟩,
    ⟨some 15, .load false 1 (.t 14), none⟩,
    ⟨some 16, .call 134 [(.t 15)], none⟩,
    ⟨some 17, .mv (.t 16), none⟩,
    ⟨some 18, .fieldAddr 35 (.t 4), some (17, false)⟩,
    ⟨some 19, .load false 1 (.t 18), some (17, false)⟩,
    ⟨some 20, .lenS (.t 19), some (17, false)⟩,
    ⟨some 21, .bin .num .gtr (.t 20) (.c (.int .i64 10)), some (17, false)⟩,
    ⟨some 22, .pick (.t 17) (.c (.bool true)) (.t 21), none⟩,
    ⟨some 23, .mv (.t 22), none⟩,
    ⟨some 24, .fieldAddr 35 (.t 4), some (23, false)⟩,
    ⟨some 25, .load false 1 (.t 24), some (23, false)⟩,
    ⟨some 26, .call 135 [(.t 25), (.c (.func (.func 134) [] []))], some (23, false)⟩,
    ⟨some 27, .pick (.t 23) (.c (.bool true)) (.t 26), none⟩])
  (.cond (.t 27) (.seq (.region [⟨some 2, .mv (.c (.bool false)), none⟩])
  .ret)
  .skip))))
  (.region [⟨some 28, .bin .num .add (.t 10) (.c (.int .i64 1)), none⟩,
    ⟨some 10, .mv (.t 28), none⟩]))))
def b102_1 : ACode := (.seq (.region [⟨some 33, .bin .num .lss (.t 32) (.t 31), none⟩])
  (.seq (.cond (.t 33) .skip
  (.exit 2))
  (.seq (.block 3 (.seq (.region [⟨some 34, .indexS 2 (.t 30) (.t 32), none⟩,
    ⟨some 35, .load true 2 (.t 34), none⟩,
    ⟨some 6, .alloc [(.int .u64 0), (.slc 1 [] .tight)], none⟩,
    ⟨none, .store 2 (.t 6) (.t 35), none⟩])
  (.seq (.region [⟨some 36, .fieldAddr 1 (.t 6), none⟩,
    ⟨some 37, .load false 1 (.t 36), none⟩,
    ⟨some 38, .call 134 [(.t 37)], none⟩])
  (.cond (.t 38) (.seq (.region [⟨some 2, .mv (.c (.bool false)), none⟩])
  .ret)
  .skip))))
  (.region [⟨some 39, .bin .num .add (.t 32) (.c (.int .i64 1)), none⟩,
    ⟨some 32, .mv (.t 39), none⟩]))))
/-- lighterage/txns.May -/
def a102 : AFn := ⟨62, 1, [.tmp 2],
  (.seq (.region [⟨some 1, .box 4 (.t 0), none⟩,
    ⟨some 2, .mv (.c (.bool false)), none⟩])
  (.seq (.seq (.region [⟨some 7, .fieldAddr 1 (.t 1), none⟩,
    ⟨some 8, .load false 1 (.t 7), none⟩,
    ⟨some 9, .lenS (.t 8), none⟩,
    ⟨some 10, .mv (.c (.int .i64 0)), none⟩])
  (.block 0 (.loop [1, 8, 9, 10] [1] b102_0)))
  (.seq (.seq (.region [⟨some 29, .fieldAddr 2 (.t 1), none⟩,
    ⟨some 30, .load false 1 (.t 29), none⟩,
    ⟨some 31, .lenS (.t 30), none⟩,
    ⟨some 32, .mv (.c (.int .i64 0)), none⟩])
  (.block 2 (.loop [1, 30, 31, 32] [1] b102_1)))
  (.seq (.region [⟨some 40, .fieldAddr 1 (.t 1), none⟩,
    ⟨some 41, .load false 1 (.t 40), none⟩,
    ⟨some 42, .lenS (.t 41), none⟩,
    ⟨some 43, .bin .num .geq (.t 42) (.c (.int .i64 1)), none⟩,
    ⟨some 44, .mv (.t 43), none⟩,
    ⟨some 45, .fieldAddr 1 (.t 1), some (44, true)⟩,
    ⟨some 46, .load false 1 (.t 45), some (44, true)⟩,
    ⟨some 47, .lenS (.t 46), some (44, true)⟩,
    ⟨some 48, .bin .num .leq (.t 47) (.c (.int .i64 50)), some (44, true)⟩,
    ⟨some 49, .pick (.t 44) (.t 48) (.c (.bool false)), none⟩,
    ⟨some 50, .mv (.t 49), none⟩,
    ⟨some 51, .fieldAddr 2 (.t 1), some (50, true)⟩,
    ⟨some 52, .load false 1 (.t 51), some (50, true)⟩,
    ⟨some 53, .lenS (.t 52), some (50, true)⟩,
    ⟨some 54, .bin .num .geq (.t 53) (.c (.int .i64 1)), some (50, true)⟩,
    ⟨some 55, .pick (.t 50) (.t 54) (.c (.bool false)), none⟩,
    ⟨some 56, .mv (.t 55), none⟩,
    ⟨some 57, .fieldAddr 2 (.t 1), some (56, true)⟩,
    ⟨some 58, .load false 1 (.t 57), some (56, true)⟩,
    ⟨some 59, .lenS (.t 58), some (56, true)⟩,
    ⟨some 60, .bin .num .leq (.t 59) (.c (.int .i64 50)), some (56, true)⟩,
    ⟨some 61, .pick (.t 56) (.t 60) (.c (.bool false)), none⟩,
    ⟨some 2, .mv (.t 61), none⟩])
  .ret)))), false⟩
def h102 : Hints := ⟨[], [(2, ([1, 8, 9, 10], [1])), (8, ([1, 30, 31, 32], [1]))]⟩
theorem p102 : prepFn Tryd.prog G h102 false Tryd.f102 = some a102 := by kernel_rfl
theorem o102 : okFn Tryd.prog Tryd.f102 a102 = true := by kernel_rfl
/-- lighterage/txns.witnessed -/
def a104 : AFn := ⟨6, 1, [.tmp 2],
  (.seq (.region [⟨some 1, .box 4 (.t 0), none⟩,
    ⟨some 2, .mv (.c (.bool false)), none⟩])
  (.seq (.region [⟨some 3, .fieldAddr 1 (.t 1), none⟩,
    ⟨some 4, .load false 1 (.t 3), none⟩,
    ⟨some 5, .call 137 [(.t 4), (.c (.func (.func 138) [] []))], none⟩,
    ⟨some 2, .mv (.t 5), none⟩])
  .ret)), false⟩
def h104 : Hints := ⟨[], []⟩
theorem p104 : prepFn Tryd.prog G h104 false Tryd.f104 = some a104 := by kernel_rfl
theorem o104 : okFn Tryd.prog Tryd.f104 a104 = true := by kernel_rfl
/-- lighterage/txns.long -/
def a134 : AFn := ⟨6, 1, [.tmp 2],
  (.seq (.region [⟨some 2, .mv (.c (.bool false)), none⟩])
  (.seq (.region [⟨some 3, .mv (.t 0), none⟩,
    ⟨some 4, .lenS (.t 3), none⟩,
    ⟨some 5, .bin .num .gtr (.t 4) (.c (.int .i64 500)), none⟩,
    ⟨some 2, .mv (.t 5), none⟩])
  .ret)), false⟩
def h134 : Hints := ⟨[], []⟩
theorem p134 : prepFn Tryd.prog G h134 false Tryd.f134 = some a134 := by kernel_rfl
theorem o134 : okFn Tryd.prog Tryd.f134 a134 = true := by kernel_rfl
/-- slices.ContainsFunc[[][]byte,[]byte] -/
def a135 : AFn := ⟨9, 2, [.tmp 4],
  (.seq (.region [⟨some 4, .mv (.c (.bool false)), none⟩])
  (.seq (.region [⟨some 5, .mv (.t 0), none⟩,
    ⟨some 6, .mv (.t 1), none⟩,
    ⟨some 7, .call 146 [(.t 5), (.t 6)], none⟩,
    ⟨some 8, .bin .num .geq (.t 7) (.c (.int .i64 0)), none⟩,
    ⟨some 4, .mv (.t 8), none⟩])
  .ret)), false⟩
def h135 : Hints := ⟨[], []⟩
theorem p135 : prepFn Tryd.prog G h135 false Tryd.f135 = some a135 := by kernel_rfl
theorem o135 : okFn Tryd.prog Tryd.f135 a135 = true := by kernel_rfl
def b146_0 : ACode := (.seq (.region [⟨some 9, .bin .num .lss (.t 8) (.t 7), none⟩])
  (.seq (.cond (.t 9) .skip
  (.exit 0))
  (.seq (.block 1 (.seq (.region [⟨some 10, .mv (.t 8), none⟩,
    ⟨some 5, .mv (.t 10), none⟩])
  (.seq (.region [⟨some 11, .mv (.t 1), none⟩,
    ⟨some 12, .mv (.t 0), none⟩,
    ⟨some 13, .mv (.t 5), none⟩,
    ⟨some 14, .indexS 1 (.t 12) (.t 13), none⟩,
    ⟨some 15, .load false 1 (.t 14), none⟩,
    ⟨some 16, .callv (.t 11) [(.t 15)], none⟩])
  (.cond (.t 16) (.seq (.region [⟨some 17, .mv (.t 5), none⟩,
    ⟨some 4, .mv (.t 17), none⟩])
  .ret)
  .skip))))
  (.region [⟨some 18, .bin .num .add (.t 8) (.c (.int .i64 1)), none⟩,
    ⟨some 8, .mv (.t 18), none⟩]))))
/-- slices.IndexFunc[[][]byte,[]byte] -/
def a146 : AFn := ⟨19, 2, [.tmp 4],
  (.seq (.region [⟨some 4, .mv (.c (.int .i64 0)), none⟩])
  (.seq (.seq (.region [⟨some 6, .mv (.t 0), none⟩,
    ⟨some 7, .lenS (.t 6), none⟩,
    ⟨some 8, .mv (.c (.int .i64 0)), none⟩])
  (.block 0 (.loop [0, 1, 7, 8] [7] b146_0)))
  (.seq (.region [⟨some 4, .mv (.c (.int .i64 (-1))), none⟩])
  .ret))), false⟩
def h146 : Hints := ⟨[], [(2, ([0, 1, 7, 8], [7]))]⟩
theorem p146 : prepFn Tryd.prog G h146 false Tryd.f146 = some a146 := by kernel_rfl
theorem o146 : okFn Tryd.prog Tryd.f146 a146 = true := by kernel_rfl
/-- lighterage/txns.witnessed$1 -/
def a138 : AFn := ⟨7, 1, [.tmp 2],
  (.seq (.region [⟨some 1, .box 36 (.t 0), none⟩,
    ⟨some 2, .mv (.c (.bool false)), none⟩])
  (.seq (.region [⟨some 3, .fieldAddr 35 (.t 1), none⟩,
    ⟨some 4, .load false 1 (.t 3), none⟩,
    ⟨some 5, .lenS (.t 4), none⟩,
    ⟨some 6, .bin .num .gtr (.t 5) (.c (.int .i64 0)), none⟩,
    ⟨some 2, .mv (.t 6), none⟩])
  .ret)), false⟩
def h138 : Hints := ⟨[], []⟩
theorem p138 : prepFn Tryd.prog G h138 false Tryd.f138 = some a138 := by kernel_rfl
theorem o138 : okFn Tryd.prog Tryd.f138 a138 = true := by kernel_rfl
/-- slices.ContainsFunc[[]lighterage/api.In,lighterage/api.In] -/
def a137 : AFn := ⟨9, 2, [.tmp 4],
  (.seq (.region [⟨some 4, .mv (.c (.bool false)), none⟩])
  (.seq (.region [⟨some 5, .mv (.t 0), none⟩,
    ⟨some 6, .mv (.t 1), none⟩,
    ⟨some 7, .call 147 [(.t 5), (.t 6)], none⟩,
    ⟨some 8, .bin .num .geq (.t 7) (.c (.int .i64 0)), none⟩,
    ⟨some 4, .mv (.t 8), none⟩])
  .ret)), false⟩
def h137 : Hints := ⟨[], []⟩
theorem p137 : prepFn Tryd.prog G h137 false Tryd.f137 = some a137 := by kernel_rfl
theorem o137 : okFn Tryd.prog Tryd.f137 a137 = true := by kernel_rfl
def b147_0 : ACode := (.seq (.region [⟨some 9, .bin .num .lss (.t 8) (.t 7), none⟩])
  (.seq (.cond (.t 9) .skip
  (.exit 0))
  (.seq (.block 1 (.seq (.region [⟨some 10, .mv (.t 8), none⟩,
    ⟨some 5, .mv (.t 10), none⟩])
  (.seq (.region [⟨some 11, .mv (.t 1), none⟩,
    ⟨some 12, .mv (.t 0), none⟩,
    ⟨some 13, .mv (.t 5), none⟩,
    ⟨some 14, .indexS 36 (.t 12) (.t 13), none⟩,
    ⟨some 15, .load true 36 (.t 14), none⟩,
    ⟨some 16, .callv (.t 11) [(.t 15)], none⟩])
  (.cond (.t 16) (.seq (.region [⟨some 17, .mv (.t 5), none⟩,
    ⟨some 4, .mv (.t 17), none⟩])
  .ret)
  .skip))))
  (.region [⟨some 18, .bin .num .add (.t 8) (.c (.int .i64 1)), none⟩,
    ⟨some 8, .mv (.t 18), none⟩]))))
/-- slices.IndexFunc[[]lighterage/api.In,lighterage/api.In] -/
def a147 : AFn := ⟨19, 2, [.tmp 4],
  (.seq (.region [⟨some 4, .mv (.c (.int .i64 0)), none⟩])
  (.seq (.seq (.region [⟨some 6, .mv (.t 0), none⟩,
    ⟨some 7, .lenS (.t 6), none⟩,
    ⟨some 8, .mv (.c (.int .i64 0)), none⟩])
  (.block 0 (.loop [0, 1, 7, 8] [7] b147_0)))
  (.seq (.region [⟨some 4, .mv (.c (.int .i64 (-1))), none⟩])
  .ret))), false⟩
def h147 : Hints := ⟨[], [(2, ([0, 1, 7, 8], [7]))]⟩
theorem p147 : prepFn Tryd.prog G h147 false Tryd.f147 = some a147 := by kernel_rfl
theorem o147 : okFn Tryd.prog Tryd.f147 a147 = true := by kernel_rfl
/-- lighterage/idsx.Weight -/
def a23 : AFn := ⟨11, 1, [.tmp 2],
  (.seq (.region [⟨some 1, .box 4 (.t 0), none⟩,
    ⟨some 2, .mv (.c (.int .i64 0)), none⟩])
  (.seq (.drawn [⟨some 3, .load true 4 (.t 1), none⟩,
    ⟨some 4, .call 58 [(.t 3)], none⟩,
    ⟨some 5, .lenS (.t 4), none⟩,
    ⟨some 6, .bin .num .mul (.c (.int .i64 3)) (.t 5), none⟩,
    ⟨some 7, .load true 4 (.t 1), none⟩,
    ⟨some 8, .call 59 [(.t 7)], none⟩,
    ⟨some 9, .lenS (.t 8), none⟩,
    ⟨some 10, .bin .num .add (.t 6) (.t 9), none⟩,
    ⟨some 2, .mv (.t 10), none⟩] [0, 0, 0, 0, 15, 12, 12, 0, 0])
  .ret)), false⟩
def h23 : Hints := ⟨[], []⟩
theorem p23 : prepFn Tryd.prog G h23 false Tryd.f23 = some a23 := by kernel_rfl
theorem o23 : okFn Tryd.prog Tryd.f23 a23 = true := by kernel_rfl
/-- lighterage/idsx.Size -/
def a24 : AFn := ⟨7, 1, [.tmp 2],
  (.seq (.region [⟨some 1, .box 4 (.t 0), none⟩,
    ⟨some 2, .mv (.c (.int .i64 0)), none⟩])
  (.seq (.region [⟨some 3, .load true 4 (.t 1), none⟩,
    ⟨some 4, .call 23 [(.t 3)], none⟩,
    ⟨some 5, .bin .num .add (.t 4) (.c (.int .i64 3)), none⟩,
    ⟨some 6, .bin .num .quo (.t 5) (.c (.int .i64 4)), none⟩,
    ⟨some 2, .mv (.t 6), none⟩])
  .ret)), false⟩
def h24 : Hints := ⟨[], []⟩
theorem p24 : prepFn Tryd.prog G h24 false Tryd.f24 = some a24 := by kernel_rfl
theorem o24 : okFn Tryd.prog Tryd.f24 a24 = true := by kernel_rfl
/-- lighterage/idsx.Txid -/
def a63 : AFn := ⟨6, 1, [.cell 2 true 32],
  (.seq (.region [⟨some 1, .box 4 (.t 0), none⟩,
    ⟨some 2, .alloc [(.int .u8 0), (.int .u8 0), (.int .u8 0), (.int .u8 0), (.int .u8 0), (.int .u8 0), (.int .u8 0), (.int .u8 0), (.int .u8 0), (.int .u8 0), (.int .u8 0), (.int .u8 0), (.int .u8 0), (.int .u8 0), (.int .u8 0), (.int .u8 0), (.int .u8 0), (.int .u8 0), (.int .u8 0), (.int .u8 0), (.int .u8 0), (.int .u8 0), (.int .u8 0), (.int .u8 0), (.int .u8 0), (.int .u8 0), (.int .u8 0), (.int .u8 0), (.int .u8 0), (.int .u8 0), (.int .u8 0), (.int .u8 0)], none⟩])
  (.seq (.region [⟨some 3, .load true 4 (.t 1), none⟩,
    ⟨some 4, .call 58 [(.t 3)], none⟩,
    ⟨some 5, .call 19 [(.t 4)], none⟩,
    ⟨none, .store 32 (.t 2) (.t 5), none⟩])
  .ret)), false⟩
def h63 : Hints := ⟨[], []⟩
theorem p63 : prepFn Tryd.prog G h63 false Tryd.f63 = some a63 := by kernel_rfl
theorem o63 : okFn Tryd.prog Tryd.f63 a63 = true := by kernel_rfl
/-- lighterage/lighterageref1.Small -/
def a61 : AFn := ⟨21, 2, [.tmp 4],
  (.seq (.region [⟨some 4, .mv (.c (.slc 1 [] .tight)), none⟩])
  (.seq (.region [⟨some 5, .buildSlice 1 false [], none⟩,
    ⟨some 6, .mv (.t 0), none⟩,
    ⟨some 7, .append 1 1 (.t 5) (.t 6), none⟩,
    ⟨some 8, .mv (.t 1), none⟩,
    ⟨some 9, .convInt .u8 (.t 8), none⟩,
    ⟨some 10, .mv (.t 1), none⟩,
    ⟨some 11, .bin .num .shr (.t 10) (.c (.int .u64 8)), none⟩,
    ⟨some 12, .convInt .u8 (.t 11), none⟩,
    ⟨some 13, .mv (.t 1), none⟩,
    ⟨some 14, .bin .num .shr (.t 13) (.c (.int .u64 16)), none⟩,
    ⟨some 15, .convInt .u8 (.t 14), none⟩,
    ⟨some 16, .mv (.t 1), none⟩,
    ⟨some 17, .bin .num .shr (.t 16) (.c (.int .u64 24)), none⟩,
    ⟨some 18, .convInt .u8 (.t 17), none⟩,
    ⟨some 19, .buildSlice 1 false [(.t 9), (.t 12), (.t 15), (.t 18)], none⟩,
    ⟨some 20, .append 1 1 (.t 7) (.t 19), none⟩,
    ⟨some 4, .mv (.t 20), none⟩])
  .ret)), true⟩
def h61 : Hints := ⟨[], []⟩
theorem p61 : prepFn Tryd.prog G h61 true Tryd.f61 = some a61 := by kernel_rfl
theorem o61 : okFn Tryd.prog Tryd.f61 a61 = true := by kernel_rfl
/-- lighterage/lighterageref1.Big -/
def a107 : AFn := ⟨13, 2, [.tmp 4],
  (.seq (.region [⟨some 4, .mv (.c (.slc 1 [] .tight)), none⟩])
  (.seq (.region [⟨some 5, .mv (.t 0), none⟩,
    ⟨some 6, .mv (.t 1), none⟩,
    ⟨some 7, .convInt .u32 (.t 6), none⟩,
    ⟨some 8, .call 61 [(.t 5), (.t 7)], none⟩,
    ⟨some 9, .mv (.t 1), none⟩,
    ⟨some 10, .bin .num .shr (.t 9) (.c (.int .u64 32)), none⟩,
    ⟨some 11, .convInt .u32 (.t 10), none⟩,
    ⟨some 12, .call 61 [(.t 8), (.t 11)], none⟩,
    ⟨some 4, .mv (.t 12), none⟩])
  .ret)), true⟩
def h107 : Hints := ⟨[], []⟩
theorem p107 : prepFn Tryd.prog G h107 true Tryd.f107 = some a107 := by kernel_rfl
theorem o107 : okFn Tryd.prog Tryd.f107 a107 = true := by kernel_rfl
/-- lighterage/lighterageref1.Count -/
def a65 : AFn := ⟨37, 2, [.tmp 4],
  (.seq (.region [⟨some 4, .mv (.c (.slc 1 [] .tight)), none⟩])
  (.seq (.region [⟨some 6, .mv (.t 1), none⟩,
    ⟨some 7, .max (.t 6) [(.c (.int .i64 0))], none⟩,
    ⟨some 8, .min (.t 7) [(.c (.int .i64 4294967295))], none⟩,
    ⟨some 1, .mv (.t 8), none⟩])
  (.seq (.region [⟨some 9, .buildSlice 1 false [], none⟩,
    ⟨some 10, .mv (.t 0), none⟩,
    ⟨some 11, .append 1 1 (.t 9) (.t 10), none⟩,
    ⟨some 5, .mv (.t 11), none⟩])
  (.seq (.block 0 (.seq (.region [⟨some 13, .mv (.t 1), none⟩,
    ⟨some 14, .bin .num .lss (.t 13) (.c (.int .i64 253)), none⟩,
    ⟨some 12, .mv (.t 14), none⟩])
  (.cond (.t 12) (.seq (.region [⟨some 15, .mv (.t 5), none⟩,
    ⟨some 16, .mv (.t 1), none⟩,
    ⟨some 17, .convInt .u8 (.t 16), none⟩,
    ⟨some 18, .buildSlice 1 false [(.t 17)], none⟩,
    ⟨some 19, .append 1 1 (.t 15) (.t 18), none⟩,
    ⟨some 4, .mv (.t 19), none⟩])
  .ret)
  (.seq (.region [⟨some 21, .mv (.t 1), none⟩,
    ⟨some 22, .bin .num .leq (.t 21) (.c (.int .i64 65535)), none⟩,
    ⟨some 20, .mv (.t 22), none⟩])
  (.cond (.t 20) (.seq (.region [⟨some 23, .mv (.t 5), none⟩,
    ⟨some 24, .mv (.t 1), none⟩,
    ⟨some 25, .convInt .u8 (.t 24), none⟩,
    ⟨some 26, .mv (.t 1), none⟩,
    ⟨some 27, .bin .num .shr (.t 26) (.c (.int .u64 8)), none⟩,
    ⟨some 28, .convInt .u8 (.t 27), none⟩,
    ⟨some 29, .buildSlice 1 false [(.c (.int .u8 253)), (.t 25), (.t 28)], none⟩,
    ⟨some 30, .append 1 1 (.t 23) (.t 29), none⟩,
    ⟨some 4, .mv (.t 30), none⟩])
  .ret)
  .skip)))))
  (.seq (.region [⟨some 31, .mv (.t 5), none⟩,
    ⟨some 32, .buildSlice 1 false [(.c (.int .u8 254))], none⟩,
    ⟨some 33, .append 1 1 (.t 31) (.t 32), none⟩,
    ⟨some 34, .mv (.t 1), none⟩,
    ⟨some 35, .convInt .u32 (.t 34), none⟩,
    ⟨some 36, .call 61 [(.t 33), (.t 35)], none⟩,
    ⟨some 4, .mv (.t 36), none⟩])
  .ret))))), true⟩
def h65 : Hints := ⟨[], []⟩
theorem p65 : prepFn Tryd.prog G h65 true Tryd.f65 = some a65 := by kernel_rfl
theorem o65 : okFn Tryd.prog Tryd.f65 a65 = true := by kernel_rfl
/-- lighterage/lighterageref1.bytes -/
def a106 : AFn := ⟨11, 2, [.tmp 4],
  (.seq (.region [⟨some 4, .mv (.c (.slc 1 [] .tight)), none⟩])
  (.seq (.region [⟨some 5, .mv (.t 0), none⟩,
    ⟨some 6, .mv (.t 1), none⟩,
    ⟨some 7, .lenS (.t 6), none⟩,
    ⟨some 8, .call 65 [(.t 5), (.t 7)], none⟩,
    ⟨some 9, .mv (.t 1), none⟩,
    ⟨some 10, .append 1 1 (.t 8) (.t 9), none⟩,
    ⟨some 4, .mv (.t 10), none⟩])
  .ret)), true⟩
def h106 : Hints := ⟨[], []⟩
theorem p106 : prepFn Tryd.prog G h106 true Tryd.f106 = some a106 := by kernel_rfl
theorem o106 : okFn Tryd.prog Tryd.f106 a106 = true := by kernel_rfl
def b62_0 : ACode := (.seq (.seq (.region [⟨some 13, .mv (.t 5), none⟩,
    ⟨some 14, .fieldAddr 1 (.t 3), none⟩,
    ⟨some 15, .load false 1 (.t 14), none⟩,
    ⟨some 16, .lenS (.t 15), none⟩,
    ⟨some 17, .bin .num .lss (.t 13) (.t 16), none⟩])
  (.cond (.t 17) .skip
  (.exit 0)))
  (.seq (.block 1 (.seq (.region [⟨some 20, .fieldAddr 1 (.t 3), none⟩,
    ⟨some 21, .load false 1 (.t 20), none⟩,
    ⟨some 22, .mv (.t 5), none⟩,
    ⟨some 23, .indexS 36 (.t 21) (.t 22), none⟩,
    ⟨some 24, .load true 36 (.t 23), none⟩,
    ⟨some 6, .alloc [(.int .u8 0), (.int .u8 0), (.int .u8 0), (.int .u8 0), (.int .u8 0), (.int .u8 0), (.int .u8 0), (.int .u8 0), (.int .u8 0), (.int .u8 0), (.int .u8 0), (.int .u8 0), (.int .u8 0), (.int .u8 0), (.int .u8 0), (.int .u8 0), (.int .u8 0), (.int .u8 0), (.int .u8 0), (.int .u8 0), (.int .u8 0), (.int .u8 0), (.int .u8 0), (.int .u8 0), (.int .u8 0), (.int .u8 0), (.int .u8 0), (.int .u8 0), (.int .u8 0), (.int .u8 0), (.int .u8 0), (.int .u8 0), (.int .u32 0), (.slc 1 [] .tight), (.int .u32 0), (.slc 1 [] .tight)], none⟩,
    ⟨none, .store 36 (.t 6) (.t 24), none⟩])
  (.drawn [⟨some 25, .mv (.t 0), none⟩,
    ⟨some 26, .fieldAddr 0 (.t 6), none⟩,
    ⟨some 27, .sliceA 32 1 (.t 26) none none none, none⟩,
    ⟨some 28, .append 1 1 (.t 25) (.t 27), none⟩,
    ⟨some 29, .fieldAddr 32 (.t 6), none⟩,
    ⟨some 30, .load false 1 (.t 29), none⟩,
    ⟨some 31, .call 61 [(.t 28), (.t 30)], none⟩,
    ⟨some 32, .fieldAddr 33 (.t 6), none⟩,
    ⟨some 33, .load false 1 (.t 32), none⟩,
    ⟨some 34, .call 106 [(.t 31), (.t 33)], none⟩,
    ⟨some 35, .fieldAddr 34 (.t 6), none⟩,
    ⟨some 36, .load false 1 (.t 35), none⟩,
    ⟨some 37, .call 61 [(.t 34), (.t 36)], none⟩,
    ⟨some 0, .mv (.t 37), none⟩] [0, 1, 1, 0, 15, 15, 0, 127, 127, 0, 1023, 1023, 0, 0])))
  (.region [⟨some 18, .mv (.t 5), none⟩,
    ⟨some 19, .bin .num .add (.t 18) (.c (.int .i64 1)), none⟩,
    ⟨some 5, .mv (.t 19), none⟩])))
def b62_1 : ACode := (.seq (.seq (.region [⟨some 43, .mv (.t 7), none⟩,
    ⟨some 44, .fieldAddr 2 (.t 3), none⟩,
    ⟨some 45, .load false 1 (.t 44), none⟩,
    ⟨some 46, .lenS (.t 45), none⟩,
    ⟨some 47, .bin .num .lss (.t 43) (.t 46), none⟩])
  (.cond (.t 47) .skip
  (.exit 2)))
  (.seq (.block 3 (.drawn [⟨some 50, .mv (.t 0), none⟩,
    ⟨some 51, .fieldAddr 2 (.t 3), none⟩,
    ⟨some 52, .load false 1 (.t 51), none⟩,
    ⟨some 53, .mv (.t 7), none⟩,
    ⟨some 54, .indexS 2 (.t 52) (.t 53), none⟩,
    ⟨some 55, .fieldAddr 0 (.t 54), none⟩,
    ⟨some 56, .load false 1 (.t 55), none⟩,
    ⟨some 57, .call 107 [(.t 50), (.t 56)], none⟩,
    ⟨some 58, .fieldAddr 2 (.t 3), none⟩,
    ⟨some 59, .load false 1 (.t 58), none⟩,
    ⟨some 60, .mv (.t 7), none⟩,
    ⟨some 61, .indexS 2 (.t 59) (.t 60), none⟩,
    ⟨some 62, .fieldAddr 1 (.t 61), none⟩,
    ⟨some 63, .load false 1 (.t 62), none⟩,
    ⟨some 64, .call 106 [(.t 57), (.t 63)], none⟩,
    ⟨some 0, .mv (.t 64), none⟩] [0, 1, 1, 7, 1, 1, 1, 0, 255, 255, 1023, 255, 255, 255, 0, 0]))
  (.region [⟨some 48, .mv (.t 7), none⟩,
    ⟨some 49, .bin .num .add (.t 48) (.c (.int .i64 1)), none⟩,
    ⟨some 7, .mv (.t 49), none⟩])))
/-- lighterage/lighterageref1.body -/
def a62 : AFn := ⟨66, 2, [.tmp 4],
  (.seq (.region [⟨some 3, .box 4 (.t 1), none⟩,
    ⟨some 4, .mv (.c (.slc 1 [] .tight)), none⟩])
  (.seq (.region [⟨some 8, .mv (.t 0), none⟩,
    ⟨some 9, .fieldAddr 1 (.t 3), none⟩,
    ⟨some 10, .load false 1 (.t 9), none⟩,
    ⟨some 11, .lenS (.t 10), none⟩,
    ⟨some 12, .call 65 [(.t 8), (.t 11)], none⟩,
    ⟨some 0, .mv (.t 12), none⟩])
  (.seq (.seq (.region [⟨some 5, .mv (.c (.int .i64 0)), none⟩])
  (.block 0 (.loopR [0, 3, 5] [3, 12, 37] [(12, 0), (37, 0)] b62_0)))
  (.seq (.region [⟨some 38, .mv (.t 0), none⟩,
    ⟨some 39, .fieldAddr 2 (.t 3), none⟩,
    ⟨some 40, .load false 1 (.t 39), none⟩,
    ⟨some 41, .lenS (.t 40), none⟩,
    ⟨some 42, .call 65 [(.t 38), (.t 41)], none⟩,
    ⟨some 0, .mv (.t 42), none⟩])
  (.seq (.seq (.region [⟨some 7, .mv (.c (.int .i64 0)), none⟩])
  (.block 2 (.loopR [0, 3, 7] [3, 42, 64] [(42, 0), (64, 0)] b62_1)))
  (.seq (.region [⟨some 65, .mv (.t 0), none⟩,
    ⟨some 4, .mv (.t 65), none⟩])
  .ret)))))), true⟩
def h62 : Hints := ⟨[], [(3, ([0, 3, 5], [3, 12, 37])), (9, ([0, 3, 7], [3, 42, 64])), (1000003, ([12, 37], [0, 0])), (1000009, ([42, 64], [0, 0]))]⟩
theorem p62 : prepFn Tryd.prog G h62 true Tryd.f62 = some a62 := by kernel_rfl
theorem o62 : okFn Tryd.prog Tryd.f62 a62 = true := by kernel_rfl
/-- lighterage/lighterageref1.Base -/
def a25 : AFn := ⟨14, 1, [.tmp 2],
  (.seq (.region [⟨some 1, .box 4 (.t 0), none⟩,
    ⟨some 2, .mv (.c (.slc 1 [] .tight)), none⟩])
  (.seq (.seq (.region [⟨some 3, .load true 4 (.t 1), none⟩,
    ⟨some 4, .call 60 [(.t 3)], none⟩,
    ⟨some 5, .un .not (.t 4), none⟩])
  (.cond (.t 5) (.seq (.region [⟨some 2, .mv (.c (.slc 1 [] .tight)), none⟩])
  .ret)
  .skip))
  (.seq (.drawn [⟨some 6, .fieldAddr 0 (.t 1), none⟩,
    ⟨some 7, .load false 1 (.t 6), none⟩,
    ⟨some 8, .call 61 [(.c (.slc 1 [] .tight)), (.t 7)], none⟩,
    ⟨some 9, .load true 4 (.t 1), none⟩,
    ⟨some 10, .call 62 [(.t 8), (.t 9)], none⟩,
    ⟨some 11, .fieldAddr 3 (.t 1), none⟩,
    ⟨some 12, .load false 1 (.t 11), none⟩,
    ⟨some 13, .call 61 [(.t 10), (.t 12)], none⟩,
    ⟨some 2, .mv (.t 13), none⟩] [0, 0, 0, 7, 0, 31, 31, 0, 0])
  .ret))), false⟩
def h25 : Hints := ⟨[], []⟩
theorem p25 : prepFn Tryd.prog G h25 false Tryd.f25 = some a25 := by kernel_rfl
theorem o25 : okFn Tryd.prog Tryd.f25 a25 = true := by kernel_rfl
def b60_0 : ACode := (.seq (.seq (.region [⟨some 53, .mv (.t 4), none⟩,
    ⟨some 54, .fieldAddr 1 (.t 1), none⟩,
    ⟨some 55, .load false 1 (.t 54), none⟩,
    ⟨some 56, .mv (.t 3), none⟩,
    ⟨some 57, .indexS 36 (.t 55) (.t 56), none⟩,
    ⟨some 58, .fieldAddr 35 (.t 57), none⟩,
    ⟨some 59, .load false 1 (.t 58), none⟩,
    ⟨some 60, .lenS (.t 59), none⟩,
    ⟨some 61, .bin .num .lss (.t 53) (.t 60), none⟩])
  (.cond (.t 61) .skip
  (.exit 2)))
  (.seq (.block 3 (.seq (.region [⟨some 64, .fieldAddr 1 (.t 1), none⟩,
    ⟨some 65, .load false 1 (.t 64), none⟩,
    ⟨some 66, .mv (.t 3), none⟩,
    ⟨some 67, .indexS 36 (.t 65) (.t 66), none⟩,
    ⟨some 68, .fieldAddr 35 (.t 67), none⟩,
    ⟨some 69, .load false 1 (.t 68), none⟩,
    ⟨some 70, .mv (.t 4), none⟩,
    ⟨some 71, .indexS 1 (.t 69) (.t 70), none⟩,
    ⟨some 72, .load false 1 (.t 71), none⟩,
    ⟨some 73, .lenS (.t 72), none⟩,
    ⟨some 74, .bin .num .gtr (.t 73) (.c (.int .i64 500)), none⟩])
  (.cond (.t 74) (.seq (.region [⟨some 2, .mv (.c (.bool false)), none⟩])
  .ret)
  .skip)))
  (.region [⟨some 62, .mv (.t 4), none⟩,
    ⟨some 63, .bin .num .add (.t 62) (.c (.int .i64 1)), none⟩,
    ⟨some 4, .mv (.t 63), none⟩])))
def b60_1 : ACode := (.seq (.seq (.region [⟨some 28, .mv (.t 3), none⟩,
    ⟨some 29, .fieldAddr 1 (.t 1), none⟩,
    ⟨some 30, .load false 1 (.t 29), none⟩,
    ⟨some 31, .lenS (.t 30), none⟩,
    ⟨some 32, .bin .num .lss (.t 28) (.t 31), none⟩])
  (.cond (.t 32) .skip
  (.exit 0)))
  (.seq (.block 1 (.seq (.seq (.region [⟨some 35, .fieldAddr 1 (.t 1), none⟩,
    ⟨some 36, .load false 1 (.t 35), none⟩,
    ⟨some 37, .mv (.t 3), none⟩,
    ⟨some 38, .indexS 36 (.t 36) (.t 37), none⟩,
    ⟨some 39, .fieldAddr 33 (.t 38), none⟩,
    ⟨some 40, .load false 1 (.t 39), none⟩,
    ⟨some 41, .lenS (.t 40), none⟩,
    ⟨some 42, .bin .num .gtr (.t 41) (.c (.int .i64 500)), none⟩,
    ⟨some 43, .mv (.t 42), none⟩,
    ⟨some 44, .fieldAddr 1 (.t 1), some (43, false)⟩,
    ⟨some 45, .load false 1 (.t 44), some (43, false)⟩,
    ⟨some 46, .mv (.t 3), some (43, false)⟩,
    ⟨some 47, .indexS 36 (.t 45) (.t 46), some (43, false)⟩,
    ⟨some 48, .fieldAddr 35 (.t 47), some (43, false)⟩,
    ⟨some 49, .load false 1 (.t 48), some (43, false)⟩,
    ⟨some 50, .lenS (.t 49), some (43, false)⟩,
    ⟨some 51, .bin .num .gtr (.t 50) (.c (.int .i64 10)), some (43, false)⟩,
    ⟨some 52, .pick (.t 43) (.c (.bool true)) (.t 51), none⟩])
  (.cond (.t 52) (.seq (.region [⟨some 2, .mv (.c (.bool false)), none⟩])
  .ret)
  .skip))
  (.seq (.region [⟨some 4, .mv (.c (.int .i64 0)), none⟩])
  (.block 2 (.loop [1, 3, 4] [1] b60_0)))))
  (.region [⟨some 33, .mv (.t 3), none⟩,
    ⟨some 34, .bin .num .add (.t 33) (.c (.int .i64 1)), none⟩,
    ⟨some 3, .mv (.t 34), none⟩])))
def b60_2 : ACode := (.seq (.seq (.region [⟨some 75, .mv (.t 5), none⟩,
    ⟨some 76, .fieldAddr 2 (.t 1), none⟩,
    ⟨some 77, .load false 1 (.t 76), none⟩,
    ⟨some 78, .lenS (.t 77), none⟩,
    ⟨some 79, .bin .num .lss (.t 75) (.t 78), none⟩])
  (.cond (.t 79) .skip
  (.exit 4)))
  (.seq (.block 5 (.seq (.region [⟨some 82, .fieldAddr 2 (.t 1), none⟩,
    ⟨some 83, .load false 1 (.t 82), none⟩,
    ⟨some 84, .mv (.t 5), none⟩,
    ⟨some 85, .indexS 2 (.t 83) (.t 84), none⟩,
    ⟨some 86, .fieldAddr 1 (.t 85), none⟩,
    ⟨some 87, .load false 1 (.t 86), none⟩,
    ⟨some 88, .lenS (.t 87), none⟩,
    ⟨some 89, .bin .num .gtr (.t 88) (.c (.int .i64 500)), none⟩])
  (.cond (.t 89) (.seq (.region [⟨some 2, .mv (.c (.bool false)), none⟩])
  .ret)
  .skip)))
  (.region [⟨some 80, .mv (.t 5), none⟩,
    ⟨some 81, .bin .num .add (.t 80) (.c (.int .i64 1)), none⟩,
    ⟨some 5, .mv (.t 81), none⟩])))
/-- lighterage/lighterageref1.May -/
def a60 : AFn := ⟨90, 1, [.tmp 2],
  (.seq (.region [⟨some 1, .box 4 (.t 0), none⟩,
    ⟨some 2, .mv (.c (.bool false)), none⟩])
  (.seq (.seq (.region [⟨some 6, .fieldAddr 1 (.t 1), none⟩,
    ⟨some 7, .load false 1 (.t 6), none⟩,
    ⟨some 8, .lenS (.t 7), none⟩,
    ⟨some 9, .bin .num .lss (.t 8) (.c (.int .i64 1)), none⟩,
    ⟨some 10, .mv (.t 9), none⟩,
    ⟨some 11, .fieldAddr 1 (.t 1), some (10, false)⟩,
    ⟨some 12, .load false 1 (.t 11), some (10, false)⟩,
    ⟨some 13, .lenS (.t 12), some (10, false)⟩,
    ⟨some 14, .bin .num .gtr (.t 13) (.c (.int .i64 50)), some (10, false)⟩,
    ⟨some 15, .pick (.t 10) (.c (.bool true)) (.t 14), none⟩,
    ⟨some 16, .mv (.t 15), none⟩,
    ⟨some 17, .fieldAddr 2 (.t 1), some (16, false)⟩,
    ⟨some 18, .load false 1 (.t 17), some (16, false)⟩,
    ⟨some 19, .lenS (.t 18), some (16, false)⟩,
    ⟨some 20, .bin .num .lss (.t 19) (.c (.int .i64 1)), some (16, false)⟩,
    ⟨some 21, .pick (.t 16) (.c (.bool true)) (.t 20), none⟩,
    ⟨some 22, .mv (.t 21), none⟩,
    ⟨some 23, .fieldAddr 2 (.t 1), some (22, false)⟩,
    ⟨some 24, .load false 1 (.t 23), some (22, false)⟩,
    ⟨some 25, .lenS (.t 24), some (22, false)⟩,
    ⟨some 26, .bin .num .gtr (.t 25) (.c (.int .i64 50)), some (22, false)⟩,
    ⟨some 27, .pick (.t 22) (.c (.bool true)) (.t 26), none⟩])
  (.cond (.t 27) (.seq (.region [⟨some 2, .mv (.c (.bool false)), none⟩])
  .ret)
  .skip))
  (.seq (.seq (.region [⟨some 3, .mv (.c (.int .i64 0)), none⟩])
  (.block 0 (.loop [1, 3] [1] b60_1)))
  (.seq (.seq (.region [⟨some 5, .mv (.c (.int .i64 0)), none⟩])
  (.block 4 (.loop [1, 5] [1] b60_2)))
  (.seq (.region [⟨some 2, .mv (.c (.bool true)), none⟩])
  .ret))))), false⟩
def h60 : Hints := ⟨[], [(4, ([1, 3], [1])), (9, ([1, 3, 4], [1])), (14, ([1, 5], [1]))]⟩
theorem p60 : prepFn Tryd.prog G h60 false Tryd.f60 = some a60 := by kernel_rfl
theorem o60 : okFn Tryd.prog Tryd.f60 a60 = true := by kernel_rfl
/-- lighterage/lighterageref1.Txid -/
def a64 : AFn := ⟨6, 1, [.cell 2 true 32],
  (.seq (.region [⟨some 1, .box 4 (.t 0), none⟩,
    ⟨some 2, .alloc [(.int .u8 0), (.int .u8 0), (.int .u8 0), (.int .u8 0), (.int .u8 0), (.int .u8 0), (.int .u8 0), (.int .u8 0), (.int .u8 0), (.int .u8 0), (.int .u8 0), (.int .u8 0), (.int .u8 0), (.int .u8 0), (.int .u8 0), (.int .u8 0), (.int .u8 0), (.int .u8 0), (.int .u8 0), (.int .u8 0), (.int .u8 0), (.int .u8 0), (.int .u8 0), (.int .u8 0), (.int .u8 0), (.int .u8 0), (.int .u8 0), (.int .u8 0), (.int .u8 0), (.int .u8 0), (.int .u8 0), (.int .u8 0)], none⟩])
  (.seq (.region [⟨some 3, .load true 4 (.t 1), none⟩,
    ⟨some 4, .call 25 [(.t 3)], none⟩,
    ⟨some 5, .call 20 [(.t 4)], none⟩,
    ⟨none, .store 32 (.t 2) (.t 5), none⟩])
  .ret)), false⟩
def h64 : Hints := ⟨[], []⟩
theorem p64 : prepFn Tryd.prog G h64 false Tryd.f64 = some a64 := by kernel_rfl
theorem o64 : okFn Tryd.prog Tryd.f64 a64 = true := by kernel_rfl
def b66_0 : ACode := (.seq (.seq (.region [⟨some 39, .mv (.t 5), none⟩,
    ⟨some 40, .fieldAddr 1 (.t 1), none⟩,
    ⟨some 41, .load false 1 (.t 40), none⟩,
    ⟨some 42, .mv (.t 4), none⟩,
    ⟨some 43, .indexS 36 (.t 41) (.t 42), none⟩,
    ⟨some 44, .fieldAddr 35 (.t 43), none⟩,
    ⟨some 45, .load false 1 (.t 44), none⟩,
    ⟨some 46, .lenS (.t 45), none⟩,
    ⟨some 47, .bin .num .lss (.t 39) (.t 46), none⟩])
  (.cond (.t 47) .skip
  (.exit 2)))
  (.seq (.block 3 (.region [⟨some 50, .mv (.t 3), none⟩,
    ⟨some 51, .fieldAddr 1 (.t 1), none⟩,
    ⟨some 52, .load false 1 (.t 51), none⟩,
    ⟨some 53, .mv (.t 4), none⟩,
    ⟨some 54, .indexS 36 (.t 52) (.t 53), none⟩,
    ⟨some 55, .fieldAddr 35 (.t 54), none⟩,
    ⟨some 56, .load false 1 (.t 55), none⟩,
    ⟨some 57, .mv (.t 5), none⟩,
    ⟨some 58, .indexS 1 (.t 56) (.t 57), none⟩,
    ⟨some 59, .load false 1 (.t 58), none⟩,
    ⟨some 60, .call 106 [(.t 50), (.t 59)], none⟩,
    ⟨some 3, .mv (.t 60), none⟩]))
  (.region [⟨some 48, .mv (.t 5), none⟩,
    ⟨some 49, .bin .num .add (.t 48) (.c (.int .i64 1)), none⟩,
    ⟨some 5, .mv (.t 49), none⟩])))
def b66_1 : ACode := (.seq (.seq (.region [⟨some 23, .mv (.t 4), none⟩,
    ⟨some 24, .fieldAddr 1 (.t 1), none⟩,
    ⟨some 25, .load false 1 (.t 24), none⟩,
    ⟨some 26, .lenS (.t 25), none⟩,
    ⟨some 27, .bin .num .lss (.t 23) (.t 26), none⟩])
  (.cond (.t 27) .skip
  (.exit 0)))
  (.seq (.block 1 (.seq (.region [⟨some 30, .mv (.t 3), none⟩,
    ⟨some 31, .fieldAddr 1 (.t 1), none⟩,
    ⟨some 32, .load false 1 (.t 31), none⟩,
    ⟨some 33, .mv (.t 4), none⟩,
    ⟨some 34, .indexS 36 (.t 32) (.t 33), none⟩,
    ⟨some 35, .fieldAddr 35 (.t 34), none⟩,
    ⟨some 36, .load false 1 (.t 35), none⟩,
    ⟨some 37, .lenS (.t 36), none⟩,
    ⟨some 38, .call 65 [(.t 30), (.t 37)], none⟩,
    ⟨some 3, .mv (.t 38), none⟩])
  (.seq (.region [⟨some 5, .mv (.c (.int .i64 0)), none⟩])
  (.block 2 (.loopR [1, 3, 4, 5] [1, 38, 60] [(38, 1003), (60, 1003)] b66_0)))))
  (.region [⟨some 28, .mv (.t 4), none⟩,
    ⟨some 29, .bin .num .add (.t 28) (.c (.int .i64 1)), none⟩,
    ⟨some 4, .mv (.t 29), none⟩])))
/-- lighterage/lighterageref1.Bytes -/
def a66 : AFn := ⟨65, 1, [.tmp 2],
  (.seq (.region [⟨some 1, .box 4 (.t 0), none⟩,
    ⟨some 2, .mv (.c (.slc 1 [] .tight)), none⟩])
  (.seq (.seq (.region [⟨some 6, .load true 4 (.t 1), none⟩,
    ⟨some 7, .call 60 [(.t 6)], none⟩,
    ⟨some 8, .un .not (.t 7), none⟩,
    ⟨some 9, .mv (.t 8), none⟩,
    ⟨some 10, .load true 4 (.t 1), some (9, false)⟩,
    ⟨some 11, .call 108 [(.t 10)], some (9, false)⟩,
    ⟨some 12, .un .not (.t 11), some (9, false)⟩,
    ⟨some 13, .pick (.t 9) (.c (.bool true)) (.t 12), none⟩])
  (.cond (.t 13) (.seq (.region [⟨some 14, .load true 4 (.t 1), none⟩,
    ⟨some 15, .call 25 [(.t 14)], none⟩,
    ⟨some 2, .mv (.t 15), none⟩])
  .ret)
  .skip))
  (.seq (.drawn [⟨some 16, .fieldAddr 0 (.t 1), none⟩,
    ⟨some 17, .load false 1 (.t 16), none⟩,
    ⟨some 18, .call 61 [(.c (.slc 1 [] .tight)), (.t 17)], none⟩,
    ⟨some 19, .buildSlice 1 false [(.c (.int .u8 0)), (.c (.int .u8 1))], none⟩,
    ⟨some 20, .append 1 1 (.t 18) (.t 19), none⟩,
    ⟨some 21, .load true 4 (.t 1), none⟩,
    ⟨some 22, .call 62 [(.t 20), (.t 21)], none⟩,
    ⟨some 3, .mv (.t 22), none⟩] [0, 0, 0, 7, 0, 31, 0, 0])
  (.seq (.seq (.region [⟨some 4, .mv (.c (.int .i64 0)), none⟩])
  (.block 0 (.loopR [1, 3, 4] [1, 22, 1003] [(22, 1004), (1003, 1004)] b66_1)))
  (.seq (.region [⟨some 61, .mv (.t 3), none⟩,
    ⟨some 62, .fieldAddr 3 (.t 1), none⟩,
    ⟨some 63, .load false 1 (.t 62), none⟩,
    ⟨some 64, .call 61 [(.t 61), (.t 63)], none⟩,
    ⟨some 2, .mv (.t 64), none⟩])
  .ret))))), false⟩
def h66 : Hints := ⟨[], [(5, ([1, 3, 4], [1, 22, 1003])), (9, ([1, 3, 4, 5], [1, 38, 60])), (1000005, ([22, 1003], [1004, 1004])), (1000009, ([38, 60], [1003, 1003]))]⟩
theorem p66 : prepFn Tryd.prog G h66 false Tryd.f66 = some a66 := by kernel_rfl
theorem o66 : okFn Tryd.prog Tryd.f66 a66 = true := by kernel_rfl
def b108_0 : ACode := (.seq (.seq (.region [⟨some 4, .mv (.t 3), none⟩,
    ⟨some 5, .fieldAddr 1 (.t 1), none⟩,
    ⟨some 6, .load false 1 (.t 5), none⟩,
    ⟨some 7, .lenS (.t 6), none⟩,
    ⟨some 8, .bin .num .lss (.t 4) (.t 7), none⟩])
  (.cond (.t 8) .skip
  (.exit 0)))
  (.seq (.block 1 (.seq (.region [⟨some 11, .fieldAddr 1 (.t 1), none⟩,
    ⟨some 12, .load false 1 (.t 11), none⟩,
    ⟨some 13, .mv (.t 3), none⟩,
    ⟨some 14, .indexS 36 (.t 12) (.t 13), none⟩,
    ⟨some 15, .fieldAddr 35 (.t 14), none⟩,
    ⟨some 16, .load false 1 (.t 15), none⟩,
    ⟨some 17, .lenS (.t 16), none⟩,
    ⟨some 18, .bin .num .gtr (.t 17) (.c (.int .i64 0)), none⟩])
  (.cond (.t 18) (.seq (.region [⟨some 2, .mv (.c (.bool true)), none⟩])
  .ret)
  .skip)))
  (.region [⟨some 9, .mv (.t 3), none⟩,
    ⟨some 10, .bin .num .add (.t 9) (.c (.int .i64 1)), none⟩,
    ⟨some 3, .mv (.t 10), none⟩])))
/-- lighterage/lighterageref1.witness -/
def a108 : AFn := ⟨19, 1, [.tmp 2],
  (.seq (.region [⟨some 1, .box 4 (.t 0), none⟩,
    ⟨some 2, .mv (.c (.bool false)), none⟩])
  (.seq (.seq (.region [⟨some 3, .mv (.c (.int .i64 0)), none⟩])
  (.block 0 (.loop [1, 3] [1] b108_0)))
  (.seq (.region [⟨some 2, .mv (.c (.bool false)), none⟩])
  .ret))), false⟩
def h108 : Hints := ⟨[], [(2, ([1, 3], [1]))]⟩
theorem p108 : prepFn Tryd.prog G h108 false Tryd.f108 = some a108 := by kernel_rfl
theorem o108 : okFn Tryd.prog Tryd.f108 a108 = true := by kernel_rfl
end Go.Proofs.YtiiohfojejfolaaDoor
