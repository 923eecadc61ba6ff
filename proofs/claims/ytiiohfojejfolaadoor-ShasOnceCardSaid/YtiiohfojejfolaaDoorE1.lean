/-
  What is proved: the evaluator's forms of more functions of the program (data, each held against the program by the kernel). By a program of ours. Conditions: none.
-/
import Derived.Test.YtiiohfojejfolaaDoorD1
namespace Go.Proofs.YtiiohfojejfolaaDoor
open Go Go.Ev Go.Proofs
/-- lighterage/lighteragelaw1.ShasOrder -/
def a4 : AFn := ⟨67, 3, [.tmp 6],
  (.seq (.region [⟨some 3, .box 32 (.t 0), none⟩,
    ⟨some 4, .box 32 (.t 1), none⟩,
    ⟨some 6, .mv (.c (.bool false)), none⟩])
  (.seq (.region [⟨some 9, .mv (.t 2), none⟩,
    ⟨some 10, .bin .num .and (.t 9) (.c (.int .i64 31)), none⟩,
    ⟨some 7, .mv (.t 10), none⟩])
  (.seq (.region [⟨some 11, .load true 32 (.t 3), none⟩,
    ⟨some 8, .alloc [(.int .u8 0), (.int .u8 0), (.int .u8 0), (.int .u8 0), (.int .u8 0), (.int .u8 0), (.int .u8 0), (.int .u8 0), (.int .u8 0), (.int .u8 0), (.int .u8 0), (.int .u8 0), (.int .u8 0), (.int .u8 0), (.int .u8 0), (.int .u8 0), (.int .u8 0), (.int .u8 0), (.int .u8 0), (.int .u8 0), (.int .u8 0), (.int .u8 0), (.int .u8 0), (.int .u8 0), (.int .u8 0), (.int .u8 0), (.int .u8 0), (.int .u8 0), (.int .u8 0), (.int .u8 0), (.int .u8 0), (.int .u8 0)], none⟩,
    ⟨none, .store 32 (.t 8) (.t 11), none⟩])
  (.seq (.region [⟨some 12, .mv (.t 7), none⟩,
    ⟨some 13, .mv (.t 7), none⟩,
    ⟨some 14, .indexA 32 1 (.t 4) (.t 13), none⟩,
    ⟨some 15, .load false 1 (.t 14), none⟩,
    ⟨some 16, .indexA 32 1 (.t 8) (.t 12), none⟩,
    ⟨none, .store 1 (.t 16) (.t 15), none⟩])
  (.seq (.seq (.drawn [⟨some 17, .load true 32 (.t 3), none⟩,
    ⟨some 18, .load true 32 (.t 8), none⟩,
    ⟨some 19, .call 16 [(.t 17), (.t 18)], none⟩,
    ⟨some 20, .mv (.t 7), none⟩,
    ⟨some 21, .indexA 32 1 (.t 3) (.t 20), none⟩,
    ⟨some 22, .load false 1 (.t 21), none⟩,
    ⟨some 23, .mv (.t 7), none⟩,
    ⟨some 24, .indexA 32 1 (.t 8) (.t 23), none⟩,
    ⟨some 25, .load false 1 (.t 24), none⟩,
    ⟨some 26, .bin .num .lss (.t 22) (.t 25), none⟩,
    ⟨some 27, .bin .bool .neq (.t 19) (.t 26), none⟩,
    ⟨some 28, .mv (.t 27), none⟩,
    ⟨some 29, .load true 32 (.t 8), some (28, false)⟩,
    ⟨some 30, .load true 32 (.t 3), some (28, false)⟩,
    ⟨some 31, .call 16 [(.t 29), (.t 30)], some (28, false)⟩,
    ⟨some 32, .mv (.t 7), some (28, false)⟩,
    ⟨some 33, .indexA 32 1 (.t 8) (.t 32), some (28, false)⟩,
    ⟨some 34, .load false 1 (.t 33), some (28, false)⟩,
    ⟨some 35, .mv (.t 7), some (28, false)⟩,
    ⟨some 36, .indexA 32 1 (.t 3) (.t 35), some (28, false)⟩,
    ⟨some 37, .load false 1 (.t 36), some (28, false)⟩,
    ⟨some 38, .bin .num .lss (.t 34) (.t 37), some (28, false)⟩,
    ⟨some 39, .bin .bool .neq (.t 31) (.t 38), some (28, false)⟩,
    ⟨some 40, .pick (.t 28) (.c (.bool true)) (.t 39), none⟩] [0, 1, 0, 7, 7, 7, 63, 63, 63, 7, 0, 0, 0, 4096, 0, 28672, 28672, 28672, 258048, 258048, 258048, 28672, 0, 0])
  (.cond (.t 40) (.seq (.region [⟨some 6, .mv (.c (.bool false)), none⟩])
  .ret)
  .skip))
  (.seq (.seq (.region [⟨some 41, .load true 32 (.t 3), none⟩,
    ⟨some 42, .load true 32 (.t 4), none⟩,
    ⟨some 43, .call 16 [(.t 41), (.t 42)], none⟩,
    ⟨some 44, .mv (.t 43), none⟩,
    ⟨some 45, .load true 32 (.t 4), some (44, true)⟩,
    ⟨some 46, .load true 32 (.t 3), some (44, true)⟩,
    ⟨some 47, .call 16 [(.t 45), (.t 46)], some (44, true)⟩,
    ⟨some 48, .pick (.t 44) (.t 47) (.c (.bool false)), none⟩,
    ⟨some 49, .mv (.t 48), none⟩,
    ⟨some 50, .load true 32 (.t 3), some (49, false)⟩,
    ⟨some 51, .load true 32 (.t 4), some (49, false)⟩,
    ⟨some 52, .call 16 [(.t 50), (.t 51)], some (49, false)⟩,
    ⟨some 53, .un .not (.t 52), some (49, false)⟩,
    ⟨some 54, .mv (.t 53), some (49, false)⟩,
    ⟨some 55, .load true 32 (.t 4), some (54, true)⟩,
    ⟨some 56, .load true 32 (.t 3), some (54, true)⟩,
    ⟨some 57, .call 16 [(.t 55), (.t 56)], some (54, true)⟩,
    ⟨some 58, .un .not (.t 57), some (54, true)⟩,
    ⟨some 59, .pick (.t 54) (.t 58) (.c (.bool false)), some (49, false)⟩,
    ⟨some 60, .mv (.t 59), some (49, false)⟩,
    ⟨some 61, .load true 32 (.t 3), some (60, true)⟩,
    ⟨some 62, .load true 32 (.t 4), some (60, true)⟩,
    ⟨some 63, .eqAgg 32 true (.t 61) (.t 62), some (60, true)⟩,
    ⟨some 64, .pick (.t 60) (.t 63) (.c (.bool false)), some (49, false)⟩,
    ⟨some 65, .pick (.t 49) (.c (.bool true)) (.t 64), none⟩])
  (.cond (.t 65) (.seq (.region [⟨some 6, .mv (.c (.bool false)), none⟩])
  .ret)
  .skip))
  (.seq (.region [⟨some 66, .call 17 [], none⟩,
    ⟨some 6, .mv (.t 66), none⟩])
  .ret))))))), false⟩
def h4 : Hints := ⟨[], []⟩
theorem p4 : prepFn Tryd.prog G h4 false Tryd.f4 = some a4 := by kernel_rfl
theorem o4 : okFn Tryd.prog Tryd.f4 a4 = true := by kernel_rfl
/-- lighterage/lighteragelaw1.ShasForms -/
def a7 : AFn := ⟨51, 1, [.tmp 2],
  (.seq (.region [⟨some 2, .mv (.c (.bool false)), none⟩])
  (.seq (.region [⟨some 6, .build [(.str ⟨#[]⟩), (.int .u32 0)] [(0, 1, (.c (.str ⟨#[]⟩))), (1, 1, (.c (.int .u32 3820012610)))], none⟩,
    ⟨some 7, .build [(.str ⟨#[]⟩), (.int .u32 0)] [(0, 1, (.c (.str ⟨#[97]⟩))), (1, 1, (.c (.int .u32 3398926610)))], none⟩,
    ⟨some 8, .build [(.str ⟨#[]⟩), (.int .u32 0)] [(0, 1, (.c (.str ⟨#[97, 98, 99]⟩))), (1, 1, (.c (.int .u32 3128432319)))], none⟩,
    ⟨some 9, .build [(.str ⟨#[]⟩), (.int .u32 0)] [(0, 1, (.c (.str ⟨#[109, 101, 115, 115, 97, 103, 101, 32, 100, 105, 103, 101, 115, 116]⟩))), (1, 1, (.c (.int .u32 4152651605)))], none⟩,
    ⟨some 10, .build [(.str ⟨#[]⟩), (.int .u32 0)] [(0, 1, (.c (.str ⟨#[97, 98, 99, 100, 101, 102, 103, 104, 105, 106, 107, 108, 109, 110, 111, 112, 113, 114, 115, 116, 117, 118, 119, 120, 121, 122]⟩))), (1, 1, (.c (.int .u32 1908703455)))], none⟩,
    ⟨some 11, .build [(.str ⟨#[]⟩), (.int .u32 0)] [(0, 1, (.c (.str ⟨#[97, 98, 99, 100, 98, 99, 100, 101, 99, 100, 101, 102, 100, 101, 102, 103, 101, 102, 103, 104, 102, 103, 104, 105, 103, 104, 105, 106, 104, 105, 106, 107, 105, 106, 107, 108, 106, 107, 108, 109, 107, 108, 109, 110, 108, 109, 110, 111, 109, 110, 111, 112, 110, 111, 112, 113]⟩))), (1, 1, (.c (.int .u32 613247585)))], none⟩,
    ⟨some 12, .build [(.str ⟨#[]⟩), (.int .u32 0)] [(0, 1, (.c (.str ⟨#[84, 104, 101, 32, 113, 117, 105, 99, 107, 32, 98, 114, 111, 119, 110, 32, 102, 111, 120, 32, 106, 117, 109, 112, 115, 32, 111, 118, 101, 114, 32, 116, 104, 101, 32, 108, 97, 122, 121, 32, 100, 111, 103]⟩))), (1, 1, (.c (.int .u32 3618175923)))], none⟩,
    ⟨some 13, .build [(.str ⟨#[]⟩), (.int .u32 0)] [(0, 1, (.c (.str ⟨#[84, 104, 101, 32, 113, 117, 105, 99, 107, 32, 98, 114, 111, 119, 110, 32, 102, 111, 120, 32, 106, 117, 109, 112, 115, 32, 111, 118, 101, 114, 32, 116, 104, 101, 32, 108, 97, 122, 121, 32, 100, 111, 103, 46]⟩))), (1, 1, (.c (.int .u32 4015226661)))], none⟩,
    ⟨some 14, .buildSlice 2 true [(.t 6), (.t 7), (.t 8), (.t 9), (.t 10), (.t 11), (.t 12), (.t 13)], none⟩,
    ⟨some 3, .mv (.t 14), none⟩])
  (.seq (.region [⟨some 15, .mv (.t 3), none⟩,
    ⟨some 16, .mv (.t 0), none⟩,
    ⟨some 17, .bin .num .and (.t 16) (.c (.int .i64 255)), none⟩,
    ⟨some 18, .mv (.t 3), none⟩,
    ⟨some 19, .lenS (.t 18), none⟩,
    ⟨some 20, .bin .num .rem (.t 17) (.t 19), none⟩,
    ⟨some 21, .indexS 2 (.t 15) (.t 20), none⟩,
    ⟨some 22, .load true 2 (.t 21), none⟩,
    ⟨some 4, .alloc [(.str ⟨#[]⟩), (.int .u32 0)], none⟩,
    ⟨none, .store 2 (.t 4) (.t 22), none⟩])
  (.seq (.region [⟨some 23, .fieldAddr 0 (.t 4), none⟩,
    ⟨some 24, .load false 1 (.t 23), none⟩,
    ⟨some 25, .bytesOf (.t 24), none⟩,
    ⟨some 26, .call 15 [(.t 25)], none⟩,
    ⟨some 5, .alloc [(.int .u8 0), (.int .u8 0), (.int .u8 0), (.int .u8 0), (.int .u8 0), (.int .u8 0), (.int .u8 0), (.int .u8 0), (.int .u8 0), (.int .u8 0), (.int .u8 0), (.int .u8 0), (.int .u8 0), (.int .u8 0), (.int .u8 0), (.int .u8 0), (.int .u8 0), (.int .u8 0), (.int .u8 0), (.int .u8 0), (.int .u8 0), (.int .u8 0), (.int .u8 0), (.int .u8 0), (.int .u8 0), (.int .u8 0), (.int .u8 0), (.int .u8 0), (.int .u8 0), (.int .u8 0), (.int .u8 0), (.int .u8 0)], none⟩,
    ⟨none, .store 32 (.t 5) (.t 26), none⟩])
  (.seq (.region [⟨some 27, .indexA 32 1 (.t 5) (.c (.int .i64 0)), none⟩,
    ⟨some 28, .load false 1 (.t 27), none⟩,
    ⟨some 29, .convInt .u32 (.t 28), none⟩,
    ⟨some 30, .bin .num .shl (.t 29) (.c (.int .u64 24)), none⟩,
    ⟨some 31, .indexA 32 1 (.t 5) (.c (.int .i64 1)), none⟩,
    ⟨some 32, .load false 1 (.t 31), none⟩,
    ⟨some 33, .convInt .u32 (.t 32), none⟩,
    ⟨some 34, .bin .num .shl (.t 33) (.c (.int .u64 16)), none⟩,
    ⟨some 35, .bin .num .or (.t 30) (.t 34), none⟩,
    ⟨some 36, .indexA 32 1 (.t 5) (.c (.int .i64 2)), none⟩,
    ⟨some 37, .load false 1 (.t 36), none⟩,
    ⟨some 38, .convInt .u32 (.t 37), none⟩,
    ⟨some 39, .bin .num .shl (.t 38) (.c (.int .u64 8)), none⟩,
    ⟨some 40, .bin .num .or (.t 35) (.t 39), none⟩,
    ⟨some 41, .indexA 32 1 (.t 5) (.c (.int .i64 3)), none⟩,
    ⟨some 42, .load false 1 (.t 41), none⟩,
    ⟨some 43, .convInt .u32 (.t 42), none⟩,
    ⟨some 44, .bin .num .or (.t 40) (.t 43), none⟩,
    ⟨some 45, .fieldAddr 1 (.t 4), none⟩,
    ⟨some 46, .load false 1 (.t 45), none⟩,
    ⟨some 47, .bin .num .eql (.t 44) (.t 46), none⟩,
    ⟨some 48, .mv (.t 47), none⟩,
    ⟨some 49, .call 17 [], some (48, true)⟩,
    ⟨some 50, .pick (.t 48) (.t 49) (.c (.bool false)), none⟩,
    ⟨some 2, .mv (.t 50), none⟩])
  .ret))))), false⟩
def h7 : Hints := ⟨[], []⟩
theorem p7 : prepFn Tryd.prog G h7 false Tryd.f7 = some a7 := by kernel_rfl
theorem o7 : okFn Tryd.prog Tryd.f7 a7 = true := by kernel_rfl
end Go.Proofs.YtiiohfojejfolaaDoor
