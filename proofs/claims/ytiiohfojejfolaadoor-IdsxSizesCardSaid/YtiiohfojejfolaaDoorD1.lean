/-
  What is proved: the evaluator's forms of the program's functions (data, each held against the program by the kernel). By a program of ours. Conditions: none.
-/
import Derived.Test.YtiiohfojejfolaaDoorProg
import Derived.Test.YtiiohfojejfolaaDoorEvG
set_option linter.unusedVariables false
set_option linter.unusedSimpArgs false
namespace Go.Proofs.YtiiohfojejfolaaDoor
open Go Go.Ev Go.Proofs
def squaresI : List Int := [1779033703, 3144134277, 1013904242, 2773480762, 1359893119, 2600822924, 528734635, 1541459225]
def cubesI : List Int := [1116352408, 1899447441, 3049323471, 3921009573, 961987163, 1508970993, 2453635748, 2870763221, 3624381080, 310598401, 607225278, 1426881987, 1925078388, 2162078206, 2614888103, 3248222580, 3835390401, 4022224774, 264347078, 604807628, 770255983, 1249150122, 1555081692, 1996064986, 2554220882, 2821834349, 2952996808, 3210313671, 3336571891, 3584528711, 113926993, 338241895, 666307205, 773529912, 1294757372, 1396182291, 1695183700, 1986661051, 2177026350, 2456956037, 2730485921, 2820302411, 3259730800, 3345764771, 3516065817, 3600352804, 4094571909, 275423344, 430227734, 506948616, 659060556, 883997877, 958139571, 1322822218, 1537002063, 1747873779, 1955562222, 2024104815, 2227730452, 2361852424, 2428436474, 2756734187, 3204031479, 3329325298]
def squares : List V := squaresI.map (V.int .u32)
def cubes : List V := cubesI.map (V.int .u32)
def G : Globals := [(0, squares), (1, cubes)]
/-- math/bits.RotateLeft32 -/
def a132 : AFn := ⟨17, 2, [.tmp 4],
  (.seq (.region [⟨some 4, .mv (.c (.int .u32 0)), none⟩])
  (.seq (.region [⟨some 6, .mv (.t 1), none⟩,
    ⟨some 7, .convInt .u64 (.t 6), none⟩,
    ⟨some 8, .bin .num .and (.t 7) (.c (.int .u64 31)), none⟩,
    ⟨some 5, .mv (.t 8), none⟩])
  (.seq (.region [⟨some 9, .mv (.t 0), none⟩,
    ⟨some 10, .mv (.t 5), none⟩,
    ⟨some 11, .bin .num .shl (.t 9) (.t 10), none⟩,
    ⟨some 12, .mv (.t 0), none⟩,
    ⟨some 13, .mv (.t 5), none⟩,
    ⟨some 14, .bin .num .sub (.c (.int .u64 32)) (.t 13), none⟩,
    ⟨some 15, .bin .num .shr (.t 12) (.t 14), none⟩,
    ⟨some 16, .bin .num .or (.t 11) (.t 15), none⟩,
    ⟨some 4, .mv (.t 16), none⟩])
  .ret))), false⟩
def h132 : Hints := ⟨[], []⟩
theorem p132 : prepFn Tryd.prog G h132 false Tryd.f132 = some a132 := by kernel_rfl
theorem o132 : okFn Tryd.prog Tryd.f132 a132 = true := by kernel_rfl
/-- lighterage/shas.turned -/
def a100 : AFn := ⟨9, 2, [.tmp 4],
  (.seq (.region [⟨some 4, .mv (.c (.int .u32 0)), none⟩])
  (.seq (.region [⟨some 5, .mv (.t 0), none⟩,
    ⟨some 6, .mv (.t 1), none⟩,
    ⟨some 7, .un .neg (.t 6), none⟩,
    ⟨some 8, .call 132 [(.t 5), (.t 7)], none⟩,
    ⟨some 4, .mv (.t 8), none⟩])
  .ret)), false⟩
def h100 : Hints := ⟨[], []⟩
theorem p100 : prepFn Tryd.prog G h100 false Tryd.f100 = some a100 := by kernel_rfl
theorem o100 : okFn Tryd.prog Tryd.f100 a100 = true := by kernel_rfl
def b99_0 : ACode := (.seq (.region [⟨some 11, .bin .num .lss (.t 10) (.c (.int .i64 16)), none⟩])
  (.seq (.cond (.t 11) .skip
  (.exit 0))
  (.seq (.block 1 (.seq (.region [⟨some 12, .mv (.t 10), none⟩,
    ⟨some 4, .mv (.t 12), none⟩])
  (.drawn [⟨some 13, .mv (.t 4), none⟩,
    ⟨some 14, .mv (.t 0), none⟩,
    ⟨some 15, .mv (.t 4), none⟩,
    ⟨some 16, .bin .num .mul (.c (.int .i64 4)) (.t 15), none⟩,
    ⟨some 17, .indexS 1 (.t 14) (.t 16), none⟩,
    ⟨some 18, .load false 1 (.t 17), none⟩,
    ⟨some 19, .convInt .u32 (.t 18), none⟩,
    ⟨some 20, .bin .num .shl (.t 19) (.c (.int .u64 24)), none⟩,
    ⟨some 21, .mv (.t 0), none⟩,
    ⟨some 22, .mv (.t 4), none⟩,
    ⟨some 23, .bin .num .mul (.c (.int .i64 4)) (.t 22), none⟩,
    ⟨some 24, .bin .num .add (.t 23) (.c (.int .i64 1)), none⟩,
    ⟨some 25, .indexS 1 (.t 21) (.t 24), none⟩,
    ⟨some 26, .load false 1 (.t 25), none⟩,
    ⟨some 27, .convInt .u32 (.t 26), none⟩,
    ⟨some 28, .bin .num .shl (.t 27) (.c (.int .u64 16)), none⟩,
    ⟨some 29, .bin .num .or (.t 20) (.t 28), none⟩,
    ⟨some 30, .mv (.t 0), none⟩,
    ⟨some 31, .mv (.t 4), none⟩,
    ⟨some 32, .bin .num .mul (.c (.int .i64 4)) (.t 31), none⟩,
    ⟨some 33, .bin .num .add (.t 32) (.c (.int .i64 2)), none⟩,
    ⟨some 34, .indexS 1 (.t 30) (.t 33), none⟩,
    ⟨some 35, .load false 1 (.t 34), none⟩,
    ⟨some 36, .convInt .u32 (.t 35), none⟩,
    ⟨some 37, .bin .num .shl (.t 36) (.c (.int .u64 8)), none⟩,
    ⟨some 38, .bin .num .or (.t 29) (.t 37), none⟩,
    ⟨some 39, .mv (.t 0), none⟩,
    ⟨some 40, .mv (.t 4), none⟩,
    ⟨some 41, .bin .num .mul (.c (.int .i64 4)) (.t 40), none⟩,
    ⟨some 42, .bin .num .add (.t 41) (.c (.int .i64 3)), none⟩,
    ⟨some 43, .indexS 1 (.t 39) (.t 42), none⟩,
    ⟨some 44, .load false 1 (.t 43), none⟩,
    ⟨some 45, .convInt .u32 (.t 44), none⟩,
    ⟨some 46, .bin .num .or (.t 38) (.t 45), none⟩,
    ⟨some 47, .indexA 64 1 (.t 3) (.t 13), none⟩,
    ⟨none, .store 1 (.t 47) (.t 46), none⟩] [0, 1, 3, 3, 1, 1, 1, 1, 255, 511, 511, 511, 255, 255, 255, 255, 1, 131071, 262143, 262143, 262143, 131071, 131071, 131071, 131071, 1, 67108863, 134217727, 134217727, 134217727, 67108863, 67108863, 67108863, 1, 0, 0])))
  (.region [⟨some 48, .bin .num .add (.t 10) (.c (.int .i64 1)), none⟩,
    ⟨some 10, .mv (.t 48), none⟩]))))
def b99_1 : ACode := (.seq (.seq (.region [⟨some 49, .mv (.t 5), none⟩,
    ⟨some 50, .bin .num .lss (.t 49) (.c (.int .i64 64)), none⟩])
  (.cond (.t 50) .skip
  (.exit 2)))
  (.seq (.block 3 (.seq (.drawn [⟨some 53, .mv (.t 5), none⟩,
    ⟨some 54, .bin .num .sub (.t 53) (.c (.int .i64 15)), none⟩,
    ⟨some 55, .indexA 64 1 (.t 3) (.t 54), none⟩,
    ⟨some 56, .load false 1 (.t 55), none⟩,
    ⟨some 57, .mv (.t 5), none⟩,
    ⟨some 58, .bin .num .sub (.t 57) (.c (.int .i64 2)), none⟩,
    ⟨some 59, .indexA 64 1 (.t 3) (.t 58), none⟩,
    ⟨some 60, .load false 1 (.t 59), none⟩,
    ⟨some 6, .mv (.t 56), none⟩,
    ⟨some 7, .mv (.t 60), none⟩] [0, 0, 0, 0, 15, 15, 15, 15, 240, 0])
  (.seq (.region [⟨some 61, .mv (.t 6), none⟩,
    ⟨some 62, .call 100 [(.t 61), (.c (.int .i64 7))], none⟩,
    ⟨some 63, .mv (.t 6), none⟩,
    ⟨some 64, .call 100 [(.t 63), (.c (.int .i64 18))], none⟩,
    ⟨some 65, .bin .num .xor (.t 62) (.t 64), none⟩,
    ⟨some 66, .mv (.t 6), none⟩,
    ⟨some 67, .bin .num .shr (.t 66) (.c (.int .u64 3)), none⟩,
    ⟨some 68, .bin .num .xor (.t 65) (.t 67), none⟩,
    ⟨some 8, .mv (.t 68), none⟩])
  (.seq (.region [⟨some 69, .mv (.t 7), none⟩,
    ⟨some 70, .call 100 [(.t 69), (.c (.int .i64 17))], none⟩,
    ⟨some 71, .mv (.t 7), none⟩,
    ⟨some 72, .call 100 [(.t 71), (.c (.int .i64 19))], none⟩,
    ⟨some 73, .bin .num .xor (.t 70) (.t 72), none⟩,
    ⟨some 74, .mv (.t 7), none⟩,
    ⟨some 75, .bin .num .shr (.t 74) (.c (.int .u64 10)), none⟩,
    ⟨some 76, .bin .num .xor (.t 73) (.t 75), none⟩,
    ⟨some 9, .mv (.t 76), none⟩])
  (.drawn [⟨some 77, .mv (.t 5), none⟩,
    ⟨some 78, .mv (.t 5), none⟩,
    ⟨some 79, .bin .num .sub (.t 78) (.c (.int .i64 16)), none⟩,
    ⟨some 80, .indexA 64 1 (.t 3) (.t 79), none⟩,
    ⟨some 81, .load false 1 (.t 80), none⟩,
    ⟨some 82, .mv (.t 8), none⟩,
    ⟨some 83, .bin .num .add (.t 81) (.t 82), none⟩,
    ⟨some 84, .mv (.t 5), none⟩,
    ⟨some 85, .bin .num .sub (.t 84) (.c (.int .i64 7)), none⟩,
    ⟨some 86, .indexA 64 1 (.t 3) (.t 85), none⟩,
    ⟨some 87, .load false 1 (.t 86), none⟩,
    ⟨some 88, .bin .num .add (.t 83) (.t 87), none⟩,
    ⟨some 89, .mv (.t 9), none⟩,
    ⟨some 90, .bin .num .add (.t 88) (.t 89), none⟩,
    ⟨some 91, .indexA 64 1 (.t 3) (.t 77), none⟩,
    ⟨none, .store 1 (.t 91) (.t 90), none⟩] [0, 1, 1, 1, 1, 31, 1, 127, 127, 127, 127, 1, 4095, 1, 0, 0])))))
  (.region [⟨some 51, .mv (.t 5), none⟩,
    ⟨some 52, .bin .num .add (.t 51) (.c (.int .i64 1)), none⟩,
    ⟨some 5, .mv (.t 52), none⟩])))
/-- lighterage/shas.spread -/
def a99 : AFn := ⟨93, 1, [.cell 2 true 64],
  (.seq (.region [⟨some 2, .alloc [(.int .u32 0), (.int .u32 0), (.int .u32 0), (.int .u32 0), (.int .u32 0), (.int .u32 0), (.int .u32 0), (.int .u32 0), (.int .u32 0), (.int .u32 0), (.int .u32 0), (.int .u32 0), (.int .u32 0), (.int .u32 0), (.int .u32 0), (.int .u32 0), (.int .u32 0), (.int .u32 0), (.int .u32 0), (.int .u32 0), (.int .u32 0), (.int .u32 0), (.int .u32 0), (.int .u32 0), (.int .u32 0), (.int .u32 0), (.int .u32 0), (.int .u32 0), (.int .u32 0), (.int .u32 0), (.int .u32 0), (.int .u32 0), (.int .u32 0), (.int .u32 0), (.int .u32 0), (.int .u32 0), (.int .u32 0), (.int .u32 0), (.int .u32 0), (.int .u32 0), (.int .u32 0), (.int .u32 0), (.int .u32 0), (.int .u32 0), (.int .u32 0), (.int .u32 0), (.int .u32 0), (.int .u32 0), (.int .u32 0), (.int .u32 0), (.int .u32 0), (.int .u32 0), (.int .u32 0), (.int .u32 0), (.int .u32 0), (.int .u32 0), (.int .u32 0), (.int .u32 0), (.int .u32 0), (.int .u32 0), (.int .u32 0), (.int .u32 0), (.int .u32 0), (.int .u32 0)], none⟩])
  (.seq (.region [⟨some 3, .alloc [(.int .u32 0), (.int .u32 0), (.int .u32 0), (.int .u32 0), (.int .u32 0), (.int .u32 0), (.int .u32 0), (.int .u32 0), (.int .u32 0), (.int .u32 0), (.int .u32 0), (.int .u32 0), (.int .u32 0), (.int .u32 0), (.int .u32 0), (.int .u32 0), (.int .u32 0), (.int .u32 0), (.int .u32 0), (.int .u32 0), (.int .u32 0), (.int .u32 0), (.int .u32 0), (.int .u32 0), (.int .u32 0), (.int .u32 0), (.int .u32 0), (.int .u32 0), (.int .u32 0), (.int .u32 0), (.int .u32 0), (.int .u32 0), (.int .u32 0), (.int .u32 0), (.int .u32 0), (.int .u32 0), (.int .u32 0), (.int .u32 0), (.int .u32 0), (.int .u32 0), (.int .u32 0), (.int .u32 0), (.int .u32 0), (.int .u32 0), (.int .u32 0), (.int .u32 0), (.int .u32 0), (.int .u32 0), (.int .u32 0), (.int .u32 0), (.int .u32 0), (.int .u32 0), (.int .u32 0), (.int .u32 0), (.int .u32 0), (.int .u32 0), (.int .u32 0), (.int .u32 0), (.int .u32 0), (.int .u32 0), (.int .u32 0), (.int .u32 0), (.int .u32 0), (.int .u32 0)], none⟩])
  (.seq (.seq (.region [⟨some 10, .mv (.c (.int .i64 0)), none⟩])
  (.block 0 (.loop [0, 2, 3, 10] [2, 3, 62, 64, 70, 72] b99_0)))
  (.seq (.seq (.region [⟨some 5, .mv (.c (.int .i64 16)), none⟩])
  (.block 2 (.loop [2, 3, 5] [2, 3] b99_1)))
  (.seq (.region [⟨some 92, .load true 64 (.t 3), none⟩,
    ⟨none, .store 64 (.t 2) (.t 92), none⟩])
  .ret))))), false⟩
def h99 : Hints := ⟨[], [(3, ([0, 2, 3, 10], [2, 3, 62, 64, 70, 72])), (8, ([2, 3, 5], [2, 3]))]⟩
theorem p99 : prepFn Tryd.prog G h99 false Tryd.f99 = some a99 := by kernel_rfl
theorem o99 : okFn Tryd.prog Tryd.f99 a99 = true := by kernel_rfl
def b53_0 : ACode := (.seq (.region [⟨some 18, .bin .num .lss (.t 17) (.c (.int .i64 64)), none⟩])
  (.seq (.cond (.t 18) .skip
  (.exit 0))
  (.seq (.block 1 (.seq (.region [⟨some 19, .mv (.t 17), none⟩,
    ⟨some 7, .mv (.t 19), none⟩])
  (.seq (.drawn [⟨some 20, .indexA 8 1 (.t 6) (.c (.int .i64 4)), none⟩,
    ⟨some 21, .load false 1 (.t 20), none⟩,
    ⟨some 22, .call 100 [(.t 21), (.c (.int .i64 6))], none⟩,
    ⟨some 23, .indexA 8 1 (.t 6) (.c (.int .i64 4)), none⟩,
    ⟨some 24, .load false 1 (.t 23), none⟩,
    ⟨some 25, .call 100 [(.t 24), (.c (.int .i64 11))], none⟩,
    ⟨some 26, .bin .num .xor (.t 22) (.t 25), none⟩,
    ⟨some 27, .indexA 8 1 (.t 6) (.c (.int .i64 4)), none⟩,
    ⟨some 28, .load false 1 (.t 27), none⟩,
    ⟨some 29, .call 100 [(.t 28), (.c (.int .i64 25))], none⟩,
    ⟨some 30, .bin .num .xor (.t 26) (.t 29), none⟩,
    ⟨some 8, .mv (.t 30), none⟩] [0, 0, 0, 7, 7, 0, 0, 127, 127, 64, 0, 0])
  (.seq (.region [⟨some 31, .indexA 8 1 (.t 6) (.c (.int .i64 4)), none⟩,
    ⟨some 32, .load false 1 (.t 31), none⟩,
    ⟨some 33, .indexA 8 1 (.t 6) (.c (.int .i64 5)), none⟩,
    ⟨some 34, .load false 1 (.t 33), none⟩,
    ⟨some 35, .bin .num .and (.t 32) (.t 34), none⟩,
    ⟨some 36, .indexA 8 1 (.t 6) (.c (.int .i64 4)), none⟩,
    ⟨some 37, .load false 1 (.t 36), none⟩,
    ⟨some 38, .un .xor (.t 37), none⟩,
    ⟨some 39, .indexA 8 1 (.t 6) (.c (.int .i64 6)), none⟩,
    ⟨some 40, .load false 1 (.t 39), none⟩,
    ⟨some 41, .bin .num .and (.t 38) (.t 40), none⟩,
    ⟨some 42, .bin .num .xor (.t 35) (.t 41), none⟩,
    ⟨some 9, .mv (.t 42), none⟩])
  (.seq (.drawn [⟨some 43, .indexA 8 1 (.t 6) (.c (.int .i64 7)), none⟩,
    ⟨some 44, .load false 1 (.t 43), none⟩,
    ⟨some 45, .mv (.t 8), none⟩,
    ⟨some 46, .bin .num .add (.t 44) (.t 45), none⟩,
    ⟨some 47, .mv (.t 9), none⟩,
    ⟨some 48, .bin .num .add (.t 46) (.t 47), none⟩,
    ⟨some 49, .mv (.t 7), none⟩,
    ⟨some 50, .indexA 64 1 (.c (.elem [(.int .u32 1116352408), (.int .u32 1899447441), (.int .u32 3049323471), (.int .u32 3921009573), (.int .u32 961987163), (.int .u32 1508970993), (.int .u32 2453635748), (.int .u32 2870763221), (.int .u32 3624381080), (.int .u32 310598401), (.int .u32 607225278), (.int .u32 1426881987), (.int .u32 1925078388), (.int .u32 2162078206), (.int .u32 2614888103), (.int .u32 3248222580), (.int .u32 3835390401), (.int .u32 4022224774), (.int .u32 264347078), (.int .u32 604807628), (.int .u32 770255983), (.int .u32 1249150122), (.int .u32 1555081692), (.int .u32 1996064986), (.int .u32 2554220882), (.int .u32 2821834349), (.int .u32 2952996808), (.int .u32 3210313671), (.int .u32 3336571891), (.int .u32 3584528711), (.int .u32 113926993), (.int .u32 338241895), (.int .u32 666307205), (.int .u32 773529912), (.int .u32 1294757372), (.int .u32 1396182291), (.int .u32 1695183700), (.int .u32 1986661051), (.int .u32 2177026350), (.int .u32 2456956037), (.int .u32 2730485921), (.int .u32 2820302411), (.int .u32 3259730800), (.int .u32 3345764771), (.int .u32 3516065817), (.int .u32 3600352804), (.int .u32 4094571909), (.int .u32 275423344), (.int .u32 430227734), (.int .u32 506948616), (.int .u32 659060556), (.int .u32 883997877), (.int .u32 958139571), (.int .u32 1322822218), (.int .u32 1537002063), (.int .u32 1747873779), (.int .u32 1955562222), (.int .u32 2024104815), (.int .u32 2227730452), (.int .u32 2361852424), (.int .u32 2428436474), (.int .u32 2756734187), (.int .u32 3204031479), (.int .u32 3329325298)])) (.t 49), none⟩,
    ⟨some 51, .load false 1 (.t 50), none⟩,
    ⟨some 52, .bin .num .add (.t 48) (.t 51), none⟩,
    ⟨some 53, .mv (.t 7), none⟩,
    ⟨some 54, .indexA 64 1 (.t 5) (.t 53), none⟩,
    ⟨some 55, .load false 1 (.t 54), none⟩,
    ⟨some 56, .bin .num .add (.t 52) (.t 55), none⟩,
    ⟨some 10, .mv (.t 56), none⟩] [0, 0, 3, 0, 15, 0, 63, 63, 63, 0, 1023, 1023, 1023, 0, 0])
  (.seq (.drawn [⟨some 57, .indexA 8 1 (.t 6) (.c (.int .i64 0)), none⟩,
    ⟨some 58, .load false 1 (.t 57), none⟩,
    ⟨some 59, .call 100 [(.t 58), (.c (.int .i64 2))], none⟩,
    ⟨some 60, .indexA 8 1 (.t 6) (.c (.int .i64 0)), none⟩,
    ⟨some 61, .load false 1 (.t 60), none⟩,
    ⟨some 62, .call 100 [(.t 61), (.c (.int .i64 13))], none⟩,
    ⟨some 63, .bin .num .xor (.t 59) (.t 62), none⟩,
    ⟨some 64, .indexA 8 1 (.t 6) (.c (.int .i64 0)), none⟩,
    ⟨some 65, .load false 1 (.t 64), none⟩,
    ⟨some 66, .call 100 [(.t 65), (.c (.int .i64 22))], none⟩,
    ⟨some 67, .bin .num .xor (.t 63) (.t 66), none⟩,
    ⟨some 11, .mv (.t 67), none⟩] [0, 0, 0, 7, 7, 0, 0, 127, 127, 64, 0, 0])
  (.seq (.region [⟨some 68, .indexA 8 1 (.t 6) (.c (.int .i64 0)), none⟩,
    ⟨some 69, .load false 1 (.t 68), none⟩,
    ⟨some 70, .indexA 8 1 (.t 6) (.c (.int .i64 1)), none⟩,
    ⟨some 71, .load false 1 (.t 70), none⟩,
    ⟨some 72, .bin .num .and (.t 69) (.t 71), none⟩,
    ⟨some 73, .indexA 8 1 (.t 6) (.c (.int .i64 0)), none⟩,
    ⟨some 74, .load false 1 (.t 73), none⟩,
    ⟨some 75, .indexA 8 1 (.t 6) (.c (.int .i64 2)), none⟩,
    ⟨some 76, .load false 1 (.t 75), none⟩,
    ⟨some 77, .bin .num .and (.t 74) (.t 76), none⟩,
    ⟨some 78, .bin .num .xor (.t 72) (.t 77), none⟩,
    ⟨some 79, .indexA 8 1 (.t 6) (.c (.int .i64 1)), none⟩,
    ⟨some 80, .load false 1 (.t 79), none⟩,
    ⟨some 81, .indexA 8 1 (.t 6) (.c (.int .i64 2)), none⟩,
    ⟨some 82, .load false 1 (.t 81), none⟩,
    ⟨some 83, .bin .num .and (.t 80) (.t 82), none⟩,
    ⟨some 84, .bin .num .xor (.t 78) (.t 83), none⟩,
    ⟨some 12, .mv (.t 84), none⟩])
  (.region [⟨some 85, .mv (.t 10), none⟩,
    ⟨some 86, .mv (.t 11), none⟩,
    ⟨some 87, .bin .num .add (.t 85) (.t 86), none⟩,
    ⟨some 88, .mv (.t 12), none⟩,
    ⟨some 89, .bin .num .add (.t 87) (.t 88), none⟩,
    ⟨some 90, .indexA 8 1 (.t 6) (.c (.int .i64 0)), none⟩,
    ⟨some 91, .load false 1 (.t 90), none⟩,
    ⟨some 92, .indexA 8 1 (.t 6) (.c (.int .i64 1)), none⟩,
    ⟨some 93, .load false 1 (.t 92), none⟩,
    ⟨some 94, .indexA 8 1 (.t 6) (.c (.int .i64 2)), none⟩,
    ⟨some 95, .load false 1 (.t 94), none⟩,
    ⟨some 96, .indexA 8 1 (.t 6) (.c (.int .i64 3)), none⟩,
    ⟨some 97, .load false 1 (.t 96), none⟩,
    ⟨some 98, .mv (.t 10), none⟩,
    ⟨some 99, .bin .num .add (.t 97) (.t 98), none⟩,
    ⟨some 100, .indexA 8 1 (.t 6) (.c (.int .i64 4)), none⟩,
    ⟨some 101, .load false 1 (.t 100), none⟩,
    ⟨some 102, .indexA 8 1 (.t 6) (.c (.int .i64 5)), none⟩,
    ⟨some 103, .load false 1 (.t 102), none⟩,
    ⟨some 104, .indexA 8 1 (.t 6) (.c (.int .i64 6)), none⟩,
    ⟨some 105, .load false 1 (.t 104), none⟩,
    ⟨some 106, .build [(.int .u32 0), (.int .u32 0), (.int .u32 0), (.int .u32 0), (.int .u32 0), (.int .u32 0), (.int .u32 0), (.int .u32 0)] [(0, 1, (.t 89)), (1, 1, (.t 91)), (2, 1, (.t 93)), (3, 1, (.t 95)), (4, 1, (.t 99)), (5, 1, (.t 101)), (6, 1, (.t 103)), (7, 1, (.t 105))], none⟩,
    ⟨none, .store 8 (.t 6) (.t 106), none⟩]))))))))
  (.region [⟨some 107, .bin .num .add (.t 17) (.c (.int .i64 1)), none⟩,
    ⟨some 17, .mv (.t 107), none⟩]))))
def b53_1 : ACode := (.seq (.region [⟨some 109, .bin .num .lss (.t 108) (.c (.int .i64 8)), none⟩])
  (.seq (.cond (.t 109) .skip
  (.exit 2))
  (.seq (.block 3 (.seq (.region [⟨some 110, .mv (.t 108), none⟩,
    ⟨some 13, .mv (.t 110), none⟩])
  (.drawn [⟨some 111, .mv (.t 13), none⟩,
    ⟨some 112, .indexA 8 1 (.t 6) (.t 111), none⟩,
    ⟨some 113, .load false 1 (.t 112), none⟩,
    ⟨some 114, .mv (.t 13), none⟩,
    ⟨some 115, .indexA 8 1 (.t 2) (.t 114), none⟩,
    ⟨some 116, .load false 1 (.t 115), none⟩,
    ⟨some 117, .bin .num .add (.t 113) (.t 116), none⟩,
    ⟨some 118, .indexA 8 1 (.t 6) (.t 111), none⟩,
    ⟨none, .store 1 (.t 118) (.t 117), none⟩] [0, 0, 0, 7, 7, 7, 0, 0, 0])))
  (.region [⟨some 119, .bin .num .add (.t 108) (.c (.int .i64 1)), none⟩,
    ⟨some 108, .mv (.t 119), none⟩]))))
/-- lighterage/shas.mix -/
def a53 : AFn := ⟨121, 2, [.cell 4 true 8],
  (.seq (.region [⟨some 2, .box 8 (.t 0), none⟩,
    ⟨some 4, .alloc [(.int .u32 0), (.int .u32 0), (.int .u32 0), (.int .u32 0), (.int .u32 0), (.int .u32 0), (.int .u32 0), (.int .u32 0)], none⟩])
  (.seq (.drawn [⟨some 14, .mv (.t 1), none⟩,
    ⟨some 15, .call 99 [(.t 14)], none⟩,
    ⟨some 16, .load true 8 (.t 2), none⟩,
    ⟨some 5, .alloc [(.int .u32 0), (.int .u32 0), (.int .u32 0), (.int .u32 0), (.int .u32 0), (.int .u32 0), (.int .u32 0), (.int .u32 0), (.int .u32 0), (.int .u32 0), (.int .u32 0), (.int .u32 0), (.int .u32 0), (.int .u32 0), (.int .u32 0), (.int .u32 0), (.int .u32 0), (.int .u32 0), (.int .u32 0), (.int .u32 0), (.int .u32 0), (.int .u32 0), (.int .u32 0), (.int .u32 0), (.int .u32 0), (.int .u32 0), (.int .u32 0), (.int .u32 0), (.int .u32 0), (.int .u32 0), (.int .u32 0), (.int .u32 0), (.int .u32 0), (.int .u32 0), (.int .u32 0), (.int .u32 0), (.int .u32 0), (.int .u32 0), (.int .u32 0), (.int .u32 0), (.int .u32 0), (.int .u32 0), (.int .u32 0), (.int .u32 0), (.int .u32 0), (.int .u32 0), (.int .u32 0), (.int .u32 0), (.int .u32 0), (.int .u32 0), (.int .u32 0), (.int .u32 0), (.int .u32 0), (.int .u32 0), (.int .u32 0), (.int .u32 0), (.int .u32 0), (.int .u32 0), (.int .u32 0), (.int .u32 0), (.int .u32 0), (.int .u32 0), (.int .u32 0), (.int .u32 0)], none⟩,
    ⟨some 6, .alloc [(.int .u32 0), (.int .u32 0), (.int .u32 0), (.int .u32 0), (.int .u32 0), (.int .u32 0), (.int .u32 0), (.int .u32 0)], none⟩,
    ⟨none, .store 64 (.t 5) (.t 15), none⟩,
    ⟨none, .store 8 (.t 6) (.t 16), none⟩] [0, 0, 3, 7, 15, 4, 0])
  (.seq (.seq (.region [⟨some 17, .mv (.c (.int .i64 0)), none⟩])
  (.block 0 (.loop [2, 4, 5, 6, 17] [2, 4, 15, 5, 6] b53_0)))
  (.seq (.seq (.region [⟨some 108, .mv (.c (.int .i64 0)), none⟩])
  (.block 2 (.loop [2, 4, 6, 108] [2, 4, 15, 5, 6, 22, 25, 29, 59, 62, 66] b53_1)))
  (.seq (.region [⟨some 120, .load true 8 (.t 6), none⟩,
    ⟨none, .store 8 (.t 4) (.t 120), none⟩])
  .ret))))), false⟩
def h53 : Hints := ⟨[], [(3, ([2, 4, 5, 6, 17], [2, 4, 15, 5, 6])), (13, ([2, 4, 6, 108], [2, 4, 15, 5, 6, 22, 25, 29, 59, 62, 66]))]⟩
theorem p53 : prepFn Tryd.prog G h53 false Tryd.f53 = some a53 := by kernel_rfl
theorem o53 : okFn Tryd.prog Tryd.f53 a53 = true := by kernel_rfl
/-- slices.Clone[[]byte,byte] -/
def a52 : AFn := ⟨8, 1, [.tmp 2],
  (.seq (.region [⟨some 2, .mv (.c (.slc 1 [] .tight)), none⟩])
  (.seq (.seq (.region [⟨some 3, .mv (.t 0), none⟩,
    ⟨some 4, .bin .slc .eql (.t 3) (.c .nilslc), none⟩])
  (.cond (.t 4) (.seq (.region [⟨some 2, .mv (.c (.slc 1 [] .tight)), none⟩])
  .ret)
  .skip))
  (.seq (.region [⟨some 5, .buildSlice 1 false [], none⟩,
    ⟨some 6, .mv (.t 0), none⟩,
    ⟨some 7, .append 1 1 (.t 5) (.t 6), none⟩,
    ⟨some 2, .mv (.t 7), none⟩])
  .ret))), false⟩
def h52 : Hints := ⟨[], []⟩
theorem p52 : prepFn Tryd.prog G h52 false Tryd.f52 = some a52 := by kernel_rfl
theorem o52 : okFn Tryd.prog Tryd.f52 a52 = true := by kernel_rfl
/-- slices.Clip[[]byte,byte] -/
def a51 : AFn := ⟨9, 1, [.tmp 2],
  (.seq (.region [⟨some 2, .mv (.c (.slc 1 [] .tight)), none⟩])
  (.seq (.region [⟨some 3, .mv (.t 0), none⟩,
    ⟨some 4, .mv (.t 0), none⟩,
    ⟨some 5, .lenS (.t 4), none⟩,
    ⟨some 6, .mv (.t 0), none⟩,
    ⟨some 7, .lenS (.t 6), none⟩,
    ⟨some 8, .sliceS 1 (.t 3) none (some (.t 5)) (some (.t 7)), none⟩,
    ⟨some 2, .mv (.t 8), none⟩])
  .ret)), true⟩
def h51 : Hints := ⟨[], []⟩
theorem p51 : prepFn Tryd.prog G h51 true Tryd.f51 = some a51 := by kernel_rfl
theorem o51 : okFn Tryd.prog Tryd.f51 a51 = true := by kernel_rfl
def b15_0 : ACode := (.seq (.seq (.region [⟨some 18, .mv (.t 4), none⟩,
    ⟨some 19, .lenS (.t 18), none⟩,
    ⟨some 20, .bin .num .rem (.t 19) (.c (.int .i64 64)), none⟩,
    ⟨some 21, .bin .num .neq (.t 20) (.c (.int .i64 56)), none⟩])
  (.cond (.t 21) .skip
  (.exit 0)))
  (.block 1 (.region [⟨some 22, .mv (.t 4), none⟩,
    ⟨some 23, .buildSlice 1 false [(.c (.int .u8 0))], none⟩,
    ⟨some 24, .append 1 1 (.t 22) (.t 23), none⟩,
    ⟨some 4, .mv (.t 24), none⟩])))
def b15_1 : ACode := (.seq (.seq (.region [⟨some 25, .mv (.t 5), none⟩,
    ⟨some 26, .bin .num .geq (.t 25) (.c (.int .i64 0)), none⟩])
  (.cond (.t 26) .skip
  (.exit 2)))
  (.seq (.block 3 (.region [⟨some 29, .mv (.t 4), none⟩,
    ⟨some 30, .mv (.t 3), none⟩,
    ⟨some 31, .mv (.t 5), none⟩,
    ⟨some 32, .bin .num .mul (.c (.int .i64 8)) (.t 31), none⟩,
    ⟨some 33, .bin .num .shr (.t 30) (.t 32), none⟩,
    ⟨some 34, .convInt .u8 (.t 33), none⟩,
    ⟨some 35, .buildSlice 1 false [(.t 34)], none⟩,
    ⟨some 36, .append 1 1 (.t 29) (.t 35), none⟩,
    ⟨some 4, .mv (.t 36), none⟩]))
  (.region [⟨some 27, .mv (.t 5), none⟩,
    ⟨some 28, .bin .num .sub (.t 27) (.c (.int .i64 1)), none⟩,
    ⟨some 5, .mv (.t 28), none⟩])))
def b15_2 : ACode := (.seq (.seq (.region [⟨some 38, .mv (.t 4), none⟩,
    ⟨some 39, .lenS (.t 38), none⟩,
    ⟨some 40, .bin .num .gtr (.t 39) (.c (.int .i64 0)), none⟩])
  (.cond (.t 40) .skip
  (.exit 4)))
  (.seq (.block 5 (.drawn [⟨some 43, .load true 8 (.t 6), none⟩,
    ⟨some 44, .mv (.t 4), none⟩,
    ⟨some 45, .sliceS 1 (.t 44) none (some (.c (.int .i64 64))) none, none⟩,
    ⟨some 46, .call 53 [(.t 43), (.t 45)], none⟩,
    ⟨none, .store 8 (.t 6) (.t 46), none⟩] [0, 1, 1, 0, 0]))
  (.region [⟨some 41, .mv (.t 4), none⟩,
    ⟨some 42, .sliceS 1 (.t 41) (some (.c (.int .i64 64))) none none, none⟩,
    ⟨some 4, .mv (.t 42), none⟩])))
def b15_3 : ACode := (.seq (.region [⟨some 48, .bin .num .lss (.t 47) (.c (.int .i64 32)), none⟩])
  (.seq (.cond (.t 48) .skip
  (.exit 6))
  (.seq (.block 7 (.seq (.region [⟨some 49, .mv (.t 47), none⟩,
    ⟨some 8, .mv (.t 49), none⟩])
  (.region [⟨some 50, .mv (.t 8), none⟩,
    ⟨some 51, .mv (.t 8), none⟩,
    ⟨some 52, .bin .num .quo (.t 51) (.c (.int .i64 4)), none⟩,
    ⟨some 53, .indexA 8 1 (.t 6) (.t 52), none⟩,
    ⟨some 54, .load false 1 (.t 53), none⟩,
    ⟨some 55, .mv (.t 8), none⟩,
    ⟨some 56, .bin .num .rem (.t 55) (.c (.int .i64 4)), none⟩,
    ⟨some 57, .bin .num .mul (.c (.int .i64 8)) (.t 56), none⟩,
    ⟨some 58, .bin .num .sub (.c (.int .i64 24)) (.t 57), none⟩,
    ⟨some 59, .bin .num .shr (.t 54) (.t 58), none⟩,
    ⟨some 60, .convInt .u8 (.t 59), none⟩,
    ⟨some 61, .indexA 32 1 (.t 7) (.t 50), none⟩,
    ⟨none, .store 1 (.t 61) (.t 60), none⟩])))
  (.region [⟨some 62, .bin .num .add (.t 47) (.c (.int .i64 1)), none⟩,
    ⟨some 47, .mv (.t 62), none⟩]))))
/-- lighterage/shas.Sum -/
def a15 : AFn := ⟨64, 1, [.cell 2 true 32],
  (.seq (.region [⟨some 2, .alloc [(.int .u8 0), (.int .u8 0), (.int .u8 0), (.int .u8 0), (.int .u8 0), (.int .u8 0), (.int .u8 0), (.int .u8 0), (.int .u8 0), (.int .u8 0), (.int .u8 0), (.int .u8 0), (.int .u8 0), (.int .u8 0), (.int .u8 0), (.int .u8 0), (.int .u8 0), (.int .u8 0), (.int .u8 0), (.int .u8 0), (.int .u8 0), (.int .u8 0), (.int .u8 0), (.int .u8 0), (.int .u8 0), (.int .u8 0), (.int .u8 0), (.int .u8 0), (.int .u8 0), (.int .u8 0), (.int .u8 0), (.int .u8 0)], none⟩])
  (.seq (.region [⟨some 9, .mv (.t 0), none⟩,
    ⟨some 10, .lenS (.t 9), none⟩,
    ⟨some 11, .convInt .u64 (.t 10), none⟩,
    ⟨some 12, .bin .num .mul (.t 11) (.c (.int .u64 8)), none⟩,
    ⟨some 3, .mv (.t 12), none⟩])
  (.seq (.region [⟨some 13, .mv (.t 0), none⟩,
    ⟨some 14, .call 52 [(.t 13)], none⟩,
    ⟨some 15, .call 51 [(.t 14)], none⟩,
    ⟨some 16, .buildSlice 1 false [(.c (.int .u8 128))], none⟩,
    ⟨some 17, .append 1 1 (.t 15) (.t 16), none⟩,
    ⟨some 4, .mv (.t 17), none⟩])
  (.seq (.block 0 (.loop [2, 3, 4] [2, 10, 14, 15, 16, 17, 35, 36, 6, 39, 46, 7] b15_0))
  (.seq (.seq (.region [⟨some 5, .mv (.c (.int .i64 7)), none⟩])
  (.block 2 (.loop [2, 3, 4, 5] [2, 10, 14, 15, 16, 17, 19, 23, 24, 6, 39, 46, 7] b15_1)))
  (.seq (.region [⟨some 37, .load true 8 (.c (.elem [(.int .u32 1779033703), (.int .u32 3144134277), (.int .u32 1013904242), (.int .u32 2773480762), (.int .u32 1359893119), (.int .u32 2600822924), (.int .u32 528734635), (.int .u32 1541459225)])), none⟩,
    ⟨some 6, .alloc [(.int .u32 0), (.int .u32 0), (.int .u32 0), (.int .u32 0), (.int .u32 0), (.int .u32 0), (.int .u32 0), (.int .u32 0)], none⟩,
    ⟨none, .store 8 (.t 6) (.t 37), none⟩])
  (.seq (.block 4 (.loop [2, 4, 6] [2, 10, 14, 15, 16, 17, 19, 23, 24, 35, 36, 6, 7] b15_2))
  (.seq (.region [⟨some 7, .alloc [(.int .u8 0), (.int .u8 0), (.int .u8 0), (.int .u8 0), (.int .u8 0), (.int .u8 0), (.int .u8 0), (.int .u8 0), (.int .u8 0), (.int .u8 0), (.int .u8 0), (.int .u8 0), (.int .u8 0), (.int .u8 0), (.int .u8 0), (.int .u8 0), (.int .u8 0), (.int .u8 0), (.int .u8 0), (.int .u8 0), (.int .u8 0), (.int .u8 0), (.int .u8 0), (.int .u8 0), (.int .u8 0), (.int .u8 0), (.int .u8 0), (.int .u8 0), (.int .u8 0), (.int .u8 0), (.int .u8 0), (.int .u8 0)], none⟩])
  (.seq (.seq (.region [⟨some 47, .mv (.c (.int .i64 0)), none⟩])
  (.block 6 (.loop [2, 6, 7, 47] [2, 10, 14, 15, 16, 17, 19, 23, 24, 35, 36, 6, 39, 46, 7] b15_3)))
  (.seq (.region [⟨some 63, .load true 32 (.t 7), none⟩,
    ⟨none, .store 32 (.t 2) (.t 63), none⟩])
  .ret)))))))))), false⟩
def h15 : Hints := ⟨[], [(3, ([2, 3, 4], [2, 10, 14, 15, 16, 17, 35, 36, 6, 39, 46, 7])), (6, ([2, 3, 4, 5], [2, 10, 14, 15, 16, 17, 19, 23, 24, 6, 39, 46, 7])), (10, ([2, 4, 6], [2, 10, 14, 15, 16, 17, 19, 23, 24, 35, 36, 6, 7])), (15, ([2, 6, 7, 47], [2, 10, 14, 15, 16, 17, 19, 23, 24, 35, 36, 6, 39, 46, 7]))]⟩
theorem p15 : prepFn Tryd.prog G h15 false Tryd.f15 = some a15 := by kernel_rfl
theorem o15 : okFn Tryd.prog Tryd.f15 a15 = true := by kernel_rfl
/-- lighterage/lighteragelaw0.all -/
def a14 : AFn := ⟨70, 0, [.tmp 0],
  (.seq (.region [⟨some 0, .mv (.c (.slc 2 [] .tight)), none⟩])
  (.seq (.region [⟨some 1, .build [(.int .i64 0), (.int .i64 0)] [(0, 1, (.c (.int .i64 1))), (1, 1, (.c (.int .i64 1)))], none⟩,
    ⟨some 2, .build [(.int .i64 0), (.int .i64 0)] [(0, 1, (.c (.int .i64 2))), (1, 1, (.c (.int .i64 2)))], none⟩,
    ⟨some 3, .build [(.int .i64 0), (.int .i64 0)] [(0, 1, (.c (.int .i64 3))), (1, 1, (.c (.int .i64 3)))], none⟩,
    ⟨some 4, .build [(.int .i64 0), (.int .i64 0)] [(0, 1, (.c (.int .i64 4))), (1, 1, (.c (.int .i64 4)))], none⟩,
    ⟨some 5, .build [(.int .i64 0), (.int .i64 0)] [(0, 1, (.c (.int .i64 5))), (1, 1, (.c (.int .i64 5)))], none⟩,
    ⟨some 6, .build [(.int .i64 0), (.int .i64 0)] [(0, 1, (.c (.int .i64 6))), (1, 1, (.c (.int .i64 6)))], none⟩,
    ⟨some 7, .build [(.int .i64 0), (.int .i64 0)] [(0, 1, (.c (.int .i64 7))), (1, 1, (.c (.int .i64 7)))], none⟩,
    ⟨some 8, .build [(.int .i64 0), (.int .i64 0)] [(0, 1, (.c (.int .i64 8))), (1, 1, (.c (.int .i64 8)))], none⟩,
    ⟨some 9, .build [(.int .i64 0), (.int .i64 0)] [(0, 1, (.c (.int .i64 9))), (1, 1, (.c (.int .i64 9)))], none⟩,
    ⟨some 10, .build [(.int .i64 0), (.int .i64 0)] [(0, 1, (.c (.int .i64 10))), (1, 1, (.c (.int .i64 10)))], none⟩,
    ⟨some 11, .build [(.int .i64 0), (.int .i64 0)] [(0, 1, (.c (.int .i64 11))), (1, 1, (.c (.int .i64 11)))], none⟩,
    ⟨some 12, .build [(.int .i64 0), (.int .i64 0)] [(0, 1, (.c (.int .i64 12))), (1, 1, (.c (.int .i64 12)))], none⟩,
    ⟨some 13, .build [(.int .i64 0), (.int .i64 0)] [(0, 1, (.c (.int .i64 13))), (1, 1, (.c (.int .i64 13)))], none⟩,
    ⟨some 14, .build [(.int .i64 0), (.int .i64 0)] [(0, 1, (.c (.int .i64 14))), (1, 1, (.c (.int .i64 14)))], none⟩,
    ⟨some 15, .build [(.int .i64 0), (.int .i64 0)] [(0, 1, (.c (.int .i64 15))), (1, 1, (.c (.int .i64 15)))], none⟩,
    ⟨some 16, .build [(.int .i64 0), (.int .i64 0)] [(0, 1, (.c (.int .i64 16))), (1, 1, (.c (.int .i64 16)))], none⟩,
    ⟨some 17, .build [(.int .i64 0), (.int .i64 0)] [(0, 1, (.c (.int .i64 17))), (1, 1, (.c (.int .i64 17)))], none⟩,
    ⟨some 18, .build [(.int .i64 0), (.int .i64 0)] [(0, 1, (.c (.int .i64 18))), (1, 1, (.c (.int .i64 18)))], none⟩,
    ⟨some 19, .build [(.int .i64 0), (.int .i64 0)] [(0, 1, (.c (.int .i64 19))), (1, 1, (.c (.int .i64 19)))], none⟩,
    ⟨some 20, .build [(.int .i64 0), (.int .i64 0)] [(0, 1, (.c (.int .i64 20))), (1, 1, (.c (.int .i64 20)))], none⟩,
    ⟨some 21, .build [(.int .i64 0), (.int .i64 0)] [(0, 1, (.c (.int .i64 21))), (1, 1, (.c (.int .i64 21)))], none⟩,
    ⟨some 22, .build [(.int .i64 0), (.int .i64 0)] [(0, 1, (.c (.int .i64 22))), (1, 1, (.c (.int .i64 22)))], none⟩,
    ⟨some 23, .build [(.int .i64 0), (.int .i64 0)] [(0, 1, (.c (.int .i64 23))), (1, 1, (.c (.int .i64 23)))], none⟩,
    ⟨some 24, .build [(.int .i64 0), (.int .i64 0)] [(0, 1, (.c (.int .i64 24))), (1, 1, (.c (.int .i64 24)))], none⟩,
    ⟨some 25, .build [(.int .i64 0), (.int .i64 0)] [(0, 1, (.c (.int .i64 25))), (1, 1, (.c (.int .i64 25)))], none⟩,
    ⟨some 26, .build [(.int .i64 0), (.int .i64 0)] [(0, 1, (.c (.int .i64 26))), (1, 1, (.c (.int .i64 26)))], none⟩,
    ⟨some 27, .build [(.int .i64 0), (.int .i64 0)] [(0, 1, (.c (.int .i64 27))), (1, 1, (.c (.int .i64 27)))], none⟩,
    ⟨some 28, .build [(.int .i64 0), (.int .i64 0)] [(0, 1, (.c (.int .i64 28))), (1, 1, (.c (.int .i64 28)))], none⟩,
    ⟨some 29, .build [(.int .i64 0), (.int .i64 0)] [(0, 1, (.c (.int .i64 29))), (1, 1, (.c (.int .i64 29)))], none⟩,
    ⟨some 30, .build [(.int .i64 0), (.int .i64 0)] [(0, 1, (.c (.int .i64 30))), (1, 1, (.c (.int .i64 30)))], none⟩,
    ⟨some 31, .build [(.int .i64 0), (.int .i64 0)] [(0, 1, (.c (.int .i64 1))), (1, 1, (.c (.int .i64 1)))], none⟩,
    ⟨some 32, .build [(.int .i64 0), (.int .i64 0)] [(0, 1, (.c (.int .i64 2))), (1, 1, (.c (.int .i64 2)))], none⟩,
    ⟨some 33, .build [(.int .i64 0), (.int .i64 0)] [(0, 1, (.c (.int .i64 3))), (1, 1, (.c (.int .i64 3)))], none⟩,
    ⟨some 34, .build [(.int .i64 0), (.int .i64 0)] [(0, 1, (.c (.int .i64 4))), (1, 1, (.c (.int .i64 4)))], none⟩,
    ⟨some 35, .build [(.int .i64 0), (.int .i64 0)] [(0, 1, (.c (.int .i64 5))), (1, 1, (.c (.int .i64 5)))], none⟩,
    ⟨some 36, .build [(.int .i64 0), (.int .i64 0)] [(0, 1, (.c (.int .i64 6))), (1, 1, (.c (.int .i64 6)))], none⟩,
    ⟨some 37, .build [(.int .i64 0), (.int .i64 0)] [(0, 1, (.c (.int .i64 7))), (1, 1, (.c (.int .i64 7)))], none⟩,
    ⟨some 38, .build [(.int .i64 0), (.int .i64 0)] [(0, 1, (.c (.int .i64 8))), (1, 1, (.c (.int .i64 8)))], none⟩,
    ⟨some 39, .build [(.int .i64 0), (.int .i64 0)] [(0, 1, (.c (.int .i64 9))), (1, 1, (.c (.int .i64 9)))], none⟩,
    ⟨some 40, .build [(.int .i64 0), (.int .i64 0)] [(0, 1, (.c (.int .i64 10))), (1, 1, (.c (.int .i64 10)))], none⟩,
    ⟨some 41, .build [(.int .i64 0), (.int .i64 0)] [(0, 1, (.c (.int .i64 11))), (1, 1, (.c (.int .i64 11)))], none⟩,
    ⟨some 42, .build [(.int .i64 0), (.int .i64 0)] [(0, 1, (.c (.int .i64 12))), (1, 1, (.c (.int .i64 12)))], none⟩,
    ⟨some 43, .build [(.int .i64 0), (.int .i64 0)] [(0, 1, (.c (.int .i64 13))), (1, 1, (.c (.int .i64 13)))], none⟩,
    ⟨some 44, .build [(.int .i64 0), (.int .i64 0)] [(0, 1, (.c (.int .i64 0))), (1, 1, (.c (.int .i64 0)))], none⟩,
    ⟨some 45, .build [(.int .i64 0), (.int .i64 0)] [(0, 1, (.c (.int .i64 1))), (1, 1, (.c (.int .i64 1)))], none⟩,
    ⟨some 46, .build [(.int .i64 0), (.int .i64 0)] [(0, 1, (.c (.int .i64 2))), (1, 1, (.c (.int .i64 2)))], none⟩,
    ⟨some 47, .build [(.int .i64 0), (.int .i64 0)] [(0, 1, (.c (.int .i64 3))), (1, 1, (.c (.int .i64 3)))], none⟩,
    ⟨some 48, .build [(.int .i64 0), (.int .i64 0)] [(0, 1, (.c (.int .i64 4))), (1, 1, (.c (.int .i64 4)))], none⟩,
    ⟨some 49, .build [(.int .i64 0), (.int .i64 0)] [(0, 1, (.c (.int .i64 5))), (1, 1, (.c (.int .i64 5)))], none⟩,
    ⟨some 50, .build [(.int .i64 0), (.int .i64 0)] [(0, 1, (.c (.int .i64 1))), (1, 1, (.c (.int .i64 1)))], none⟩,
    ⟨some 51, .build [(.int .i64 0), (.int .i64 0)] [(0, 1, (.c (.int .i64 2))), (1, 1, (.c (.int .i64 2)))], none⟩,
    ⟨some 52, .build [(.int .i64 0), (.int .i64 0)] [(0, 1, (.c (.int .i64 3))), (1, 1, (.c (.int .i64 3)))], none⟩,
    ⟨some 53, .build [(.int .i64 0), (.int .i64 0)] [(0, 1, (.c (.int .i64 4))), (1, 1, (.c (.int .i64 4)))], none⟩,
    ⟨some 54, .build [(.int .i64 0), (.int .i64 0)] [(0, 1, (.c (.int .i64 5))), (1, 1, (.c (.int .i64 5)))], none⟩,
    ⟨some 55, .build [(.int .i64 0), (.int .i64 0)] [(0, 1, (.c (.int .i64 6))), (1, 1, (.c (.int .i64 6)))], none⟩,
    ⟨some 56, .build [(.int .i64 0), (.int .i64 0)] [(0, 1, (.c (.int .i64 7))), (1, 1, (.c (.int .i64 7)))], none⟩,
    ⟨some 57, .build [(.int .i64 0), (.int .i64 0)] [(0, 1, (.c (.int .i64 8))), (1, 1, (.c (.int .i64 8)))], none⟩,
    ⟨some 58, .build [(.int .i64 0), (.int .i64 0)] [(0, 1, (.c (.int .i64 9))), (1, 1, (.c (.int .i64 9)))], none⟩,
    ⟨some 59, .build [(.int .i64 0), (.int .i64 0)] [(0, 1, (.c (.int .i64 1))), (1, 1, (.c (.int .i64 1)))], none⟩,
    ⟨some 60, .build [(.int .i64 0), (.int .i64 0)] [(0, 1, (.c (.int .i64 2))), (1, 1, (.c (.int .i64 2)))], none⟩,
    ⟨some 61, .build [(.int .i64 0), (.int .i64 0)] [(0, 1, (.c (.int .i64 3))), (1, 1, (.c (.int .i64 3)))], none⟩,
    ⟨some 62, .build [(.int .i64 0), (.int .i64 0)] [(0, 1, (.c (.int .i64 4))), (1, 1, (.c (.int .i64 4)))], none⟩,
    ⟨some 63, .build [(.int .i64 0), (.int .i64 0)] [(0, 1, (.c (.int .i64 5))), (1, 1, (.c (.int .i64 5)))], none⟩,
    ⟨some 64, .build [(.int .i64 0), (.int .i64 0)] [(0, 1, (.c (.int .i64 6))), (1, 1, (.c (.int .i64 6)))], none⟩,
    ⟨some 65, .build [(.int .i64 0), (.int .i64 0)] [(0, 1, (.c (.int .i64 7))), (1, 1, (.c (.int .i64 7)))], none⟩,
    ⟨some 66, .build [(.int .i64 0), (.int .i64 0)] [(0, 1, (.c (.int .i64 8))), (1, 1, (.c (.int .i64 8)))], none⟩,
    ⟨some 67, .build [(.int .i64 0), (.int .i64 0)] [(0, 1, (.c (.int .i64 9))), (1, 1, (.c (.int .i64 9)))], none⟩,
    ⟨some 68, .build [(.int .i64 0), (.int .i64 0)] [(0, 1, (.c (.int .i64 10))), (1, 1, (.c (.int .i64 10)))], none⟩,
    ⟨some 69, .buildSlice 2 true [(.t 1), (.t 2), (.t 3), (.t 4), (.t 5), (.t 6), (.t 7), (.t 8), (.t 9), (.t 10), (.t 11), (.t 12), (.t 13), (.t 14), (.t 15), (.t 16), (.t 17), (.t 18), (.t 19), (.t 20), (.t 21), (.t 22), (.t 23), (.t 24), (.t 25), (.t 26), (.t 27), (.t 28), (.t 29), (.t 30), (.t 31), (.t 32), (.t 33), (.t 34), (.t 35), (.t 36), (.t 37), (.t 38), (.t 39), (.t 40), (.t 41), (.t 42), (.t 43), (.t 44), (.t 45), (.t 46), (.t 47), (.t 48), (.t 49), (.t 50), (.t 51), (.t 52), (.t 53), (.t 54), (.t 55), (.t 56), (.t 57), (.t 58), (.t 59), (.t 60), (.t 61), (.t 62), (.t 63), (.t 64), (.t 65), (.t 66), (.t 67), (.t 68)], none⟩,
    ⟨some 0, .mv (.t 69), none⟩])
  .ret)), false⟩
def h14 : Hints := ⟨[], []⟩
theorem p14 : prepFn Tryd.prog G h14 false Tryd.f14 = some a14 := by kernel_rfl
theorem o14 : okFn Tryd.prog Tryd.f14 a14 = true := by kernel_rfl
def b3_0 : ACode := (.seq (.seq (.region [⟨some 5, .mv (.t 2), none⟩,
    ⟨some 6, .mv (.t 1), none⟩,
    ⟨some 7, .lenS (.t 6), none⟩,
    ⟨some 8, .bin .num .lss (.t 5) (.t 7), none⟩])
  (.cond (.t 8) .skip
  (.exit 0)))
  (.seq (.block 1 (.seq (.drawn [⟨some 11, .mv (.t 1), none⟩,
    ⟨some 12, .mv (.t 2), none⟩,
    ⟨some 13, .indexS 2 (.t 11) (.t 12), none⟩,
    ⟨some 14, .fieldAddr 0 (.t 13), none⟩,
    ⟨some 15, .load false 1 (.t 14), none⟩,
    ⟨some 16, .mv (.t 1), none⟩,
    ⟨some 17, .mv (.t 2), none⟩,
    ⟨some 18, .indexS 2 (.t 16) (.t 17), none⟩,
    ⟨some 19, .fieldAddr 1 (.t 18), none⟩,
    ⟨some 20, .load false 1 (.t 19), none⟩,
    ⟨some 21, .bin .num .neq (.t 15) (.t 20), none⟩] [0, 1, 0, 0, 0, 31, 63, 31, 31, 31, 0])
  (.cond (.t 21) (.seq (.region [⟨some 0, .mv (.c (.bool false)), none⟩])
  .ret)
  .skip)))
  (.region [⟨some 9, .mv (.t 2), none⟩,
    ⟨some 10, .bin .num .add (.t 9) (.c (.int .i64 1)), none⟩,
    ⟨some 2, .mv (.t 10), none⟩])))
/-- lighterage/lighteragelaw0.NamesNumbers -/
def a3 : AFn := ⟨31, 0, [.tmp 0],
  (.seq (.region [⟨some 0, .mv (.c (.bool false)), none⟩])
  (.seq (.region [⟨some 4, .call 14 [], none⟩,
    ⟨some 1, .mv (.t 4), none⟩])
  (.seq (.seq (.region [⟨some 2, .mv (.c (.int .i64 0)), none⟩])
  (.block 0 (.loop [1, 2] [4, 22, 3] b3_0)))
  (.seq (.region [⟨some 22, .call 15 [(.c (.slc 1 [] .tight))], none⟩,
    ⟨some 3, .alloc [(.int .u8 0), (.int .u8 0), (.int .u8 0), (.int .u8 0), (.int .u8 0), (.int .u8 0), (.int .u8 0), (.int .u8 0), (.int .u8 0), (.int .u8 0), (.int .u8 0), (.int .u8 0), (.int .u8 0), (.int .u8 0), (.int .u8 0), (.int .u8 0), (.int .u8 0), (.int .u8 0), (.int .u8 0), (.int .u8 0), (.int .u8 0), (.int .u8 0), (.int .u8 0), (.int .u8 0), (.int .u8 0), (.int .u8 0), (.int .u8 0), (.int .u8 0), (.int .u8 0), (.int .u8 0), (.int .u8 0), (.int .u8 0)], none⟩,
    ⟨none, .store 32 (.t 3) (.t 22), none⟩])
  (.seq (.region [⟨some 23, .indexA 32 1 (.t 3) (.c (.int .i64 0)), none⟩,
    ⟨some 24, .load false 1 (.t 23), none⟩,
    ⟨some 25, .bin .num .eql (.t 24) (.c (.int .u8 227)), none⟩,
    ⟨some 26, .mv (.t 25), none⟩,
    ⟨some 27, .indexA 32 1 (.t 3) (.c (.int .i64 31)), some (26, true)⟩,
    ⟨some 28, .load false 1 (.t 27), some (26, true)⟩,
    ⟨some 29, .bin .num .eql (.t 28) (.c (.int .u8 85)), some (26, true)⟩,
    ⟨some 30, .pick (.t 26) (.t 29) (.c (.bool false)), none⟩,
    ⟨some 0, .mv (.t 30), none⟩])
  .ret))))), false⟩
def h3 : Hints := ⟨[], [(3, ([1, 2], [4, 22, 3]))]⟩
theorem p3 : prepFn Tryd.prog G h3 false Tryd.f3 = some a3 := by kernel_rfl
theorem o3 : okFn Tryd.prog Tryd.f3 a3 = true := by kernel_rfl
/-- lighterage/lighterageref1.numbers -/
def a55 : AFn := ⟨2, 0, [.cell 0 true 64],
  (.seq (.region [⟨some 0, .alloc [(.int .u32 0), (.int .u32 0), (.int .u32 0), (.int .u32 0), (.int .u32 0), (.int .u32 0), (.int .u32 0), (.int .u32 0), (.int .u32 0), (.int .u32 0), (.int .u32 0), (.int .u32 0), (.int .u32 0), (.int .u32 0), (.int .u32 0), (.int .u32 0), (.int .u32 0), (.int .u32 0), (.int .u32 0), (.int .u32 0), (.int .u32 0), (.int .u32 0), (.int .u32 0), (.int .u32 0), (.int .u32 0), (.int .u32 0), (.int .u32 0), (.int .u32 0), (.int .u32 0), (.int .u32 0), (.int .u32 0), (.int .u32 0), (.int .u32 0), (.int .u32 0), (.int .u32 0), (.int .u32 0), (.int .u32 0), (.int .u32 0), (.int .u32 0), (.int .u32 0), (.int .u32 0), (.int .u32 0), (.int .u32 0), (.int .u32 0), (.int .u32 0), (.int .u32 0), (.int .u32 0), (.int .u32 0), (.int .u32 0), (.int .u32 0), (.int .u32 0), (.int .u32 0), (.int .u32 0), (.int .u32 0), (.int .u32 0), (.int .u32 0), (.int .u32 0), (.int .u32 0), (.int .u32 0), (.int .u32 0), (.int .u32 0), (.int .u32 0), (.int .u32 0), (.int .u32 0)], none⟩])
  (.seq (.region [⟨some 1, .build [(.int .u32 0), (.int .u32 0), (.int .u32 0), (.int .u32 0), (.int .u32 0), (.int .u32 0), (.int .u32 0), (.int .u32 0), (.int .u32 0), (.int .u32 0), (.int .u32 0), (.int .u32 0), (.int .u32 0), (.int .u32 0), (.int .u32 0), (.int .u32 0), (.int .u32 0), (.int .u32 0), (.int .u32 0), (.int .u32 0), (.int .u32 0), (.int .u32 0), (.int .u32 0), (.int .u32 0), (.int .u32 0), (.int .u32 0), (.int .u32 0), (.int .u32 0), (.int .u32 0), (.int .u32 0), (.int .u32 0), (.int .u32 0), (.int .u32 0), (.int .u32 0), (.int .u32 0), (.int .u32 0), (.int .u32 0), (.int .u32 0), (.int .u32 0), (.int .u32 0), (.int .u32 0), (.int .u32 0), (.int .u32 0), (.int .u32 0), (.int .u32 0), (.int .u32 0), (.int .u32 0), (.int .u32 0), (.int .u32 0), (.int .u32 0), (.int .u32 0), (.int .u32 0), (.int .u32 0), (.int .u32 0), (.int .u32 0), (.int .u32 0), (.int .u32 0), (.int .u32 0), (.int .u32 0), (.int .u32 0), (.int .u32 0), (.int .u32 0), (.int .u32 0), (.int .u32 0)] [(0, 1, (.c (.int .u32 1116352408))), (1, 1, (.c (.int .u32 1899447441))), (2, 1, (.c (.int .u32 3049323471))), (3, 1, (.c (.int .u32 3921009573))), (4, 1, (.c (.int .u32 961987163))), (5, 1, (.c (.int .u32 1508970993))), (6, 1, (.c (.int .u32 2453635748))), (7, 1, (.c (.int .u32 2870763221))), (8, 1, (.c (.int .u32 3624381080))), (9, 1, (.c (.int .u32 310598401))), (10, 1, (.c (.int .u32 607225278))), (11, 1, (.c (.int .u32 1426881987))), (12, 1, (.c (.int .u32 1925078388))), (13, 1, (.c (.int .u32 2162078206))), (14, 1, (.c (.int .u32 2614888103))), (15, 1, (.c (.int .u32 3248222580))), (16, 1, (.c (.int .u32 3835390401))), (17, 1, (.c (.int .u32 4022224774))), (18, 1, (.c (.int .u32 264347078))), (19, 1, (.c (.int .u32 604807628))), (20, 1, (.c (.int .u32 770255983))), (21, 1, (.c (.int .u32 1249150122))), (22, 1, (.c (.int .u32 1555081692))), (23, 1, (.c (.int .u32 1996064986))), (24, 1, (.c (.int .u32 2554220882))), (25, 1, (.c (.int .u32 2821834349))), (26, 1, (.c (.int .u32 2952996808))), (27, 1, (.c (.int .u32 3210313671))), (28, 1, (.c (.int .u32 3336571891))), (29, 1, (.c (.int .u32 3584528711))), (30, 1, (.c (.int .u32 113926993))), (31, 1, (.c (.int .u32 338241895))), (32, 1, (.c (.int .u32 666307205))), (33, 1, (.c (.int .u32 773529912))), (34, 1, (.c (.int .u32 1294757372))), (35, 1, (.c (.int .u32 1396182291))), (36, 1, (.c (.int .u32 1695183700))), (37, 1, (.c (.int .u32 1986661051))), (38, 1, (.c (.int .u32 2177026350))), (39, 1, (.c (.int .u32 2456956037))), (40, 1, (.c (.int .u32 2730485921))), (41, 1, (.c (.int .u32 2820302411))), (42, 1, (.c (.int .u32 3259730800))), (43, 1, (.c (.int .u32 3345764771))), (44, 1, (.c (.int .u32 3516065817))), (45, 1, (.c (.int .u32 3600352804))), (46, 1, (.c (.int .u32 4094571909))), (47, 1, (.c (.int .u32 275423344))), (48, 1, (.c (.int .u32 430227734))), (49, 1, (.c (.int .u32 506948616))), (50, 1, (.c (.int .u32 659060556))), (51, 1, (.c (.int .u32 883997877))), (52, 1, (.c (.int .u32 958139571))), (53, 1, (.c (.int .u32 1322822218))), (54, 1, (.c (.int .u32 1537002063))), (55, 1, (.c (.int .u32 1747873779))), (56, 1, (.c (.int .u32 1955562222))), (57, 1, (.c (.int .u32 2024104815))), (58, 1, (.c (.int .u32 2227730452))), (59, 1, (.c (.int .u32 2361852424))), (60, 1, (.c (.int .u32 2428436474))), (61, 1, (.c (.int .u32 2756734187))), (62, 1, (.c (.int .u32 3204031479))), (63, 1, (.c (.int .u32 3329325298)))], none⟩,
    ⟨none, .store 64 (.t 0) (.t 1), none⟩])
  .ret)), false⟩
def h55 : Hints := ⟨[], []⟩
theorem p55 : prepFn Tryd.prog G h55 false Tryd.f55 = some a55 := by kernel_rfl
theorem o55 : okFn Tryd.prog Tryd.f55 a55 = true := by kernel_rfl
/-- lighterage/lighterageref1.turned -/
def a56 : AFn := ⟨13, 2, [.tmp 4],
  (.seq (.region [⟨some 4, .mv (.c (.int .u32 0)), none⟩])
  (.seq (.region [⟨some 5, .mv (.t 0), none⟩,
    ⟨some 6, .mv (.t 1), none⟩,
    ⟨some 7, .bin .num .shr (.t 5) (.t 6), none⟩,
    ⟨some 8, .mv (.t 0), none⟩,
    ⟨some 9, .mv (.t 1), none⟩,
    ⟨some 10, .bin .num .sub (.c (.int .u64 32)) (.t 9), none⟩,
    ⟨some 11, .bin .num .shl (.t 8) (.t 10), none⟩,
    ⟨some 12, .bin .num .or (.t 7) (.t 11), none⟩,
    ⟨some 4, .mv (.t 12), none⟩])
  .ret)), false⟩
def h56 : Hints := ⟨[], []⟩
theorem p56 : prepFn Tryd.prog G h56 false Tryd.f56 = some a56 := by kernel_rfl
theorem o56 : okFn Tryd.prog Tryd.f56 a56 = true := by kernel_rfl
def b18_0 : ACode := (.seq (.seq (.region [⟨some 29, .mv (.t 3), none⟩,
    ⟨some 30, .lenS (.t 29), none⟩,
    ⟨some 31, .bin .num .rem (.t 30) (.c (.int .i64 64)), none⟩,
    ⟨some 32, .bin .num .neq (.t 31) (.c (.int .i64 56)), none⟩])
  (.cond (.t 32) .skip
  (.exit 0)))
  (.block 1 (.region [⟨some 33, .mv (.t 3), none⟩,
    ⟨some 34, .buildSlice 1 false [(.c (.int .u8 0))], none⟩,
    ⟨some 35, .append 1 1 (.t 33) (.t 34), none⟩,
    ⟨some 3, .mv (.t 35), none⟩])))
def b18_1 : ACode := (.seq (.seq (.region [⟨some 40, .mv (.t 5), none⟩,
    ⟨some 41, .bin .num .geq (.t 40) (.c (.int .i64 0)), none⟩])
  (.cond (.t 41) .skip
  (.exit 2)))
  (.seq (.block 3 (.region [⟨some 44, .mv (.t 3), none⟩,
    ⟨some 45, .mv (.t 4), none⟩,
    ⟨some 46, .mv (.t 5), none⟩,
    ⟨some 47, .bin .num .mul (.c (.int .i64 8)) (.t 46), none⟩,
    ⟨some 48, .convInt .u64 (.t 47), none⟩,
    ⟨some 49, .bin .num .shr (.t 45) (.t 48), none⟩,
    ⟨some 50, .convInt .u8 (.t 49), none⟩,
    ⟨some 51, .buildSlice 1 false [(.t 50)], none⟩,
    ⟨some 52, .append 1 1 (.t 44) (.t 51), none⟩,
    ⟨some 3, .mv (.t 52), none⟩]))
  (.region [⟨some 42, .mv (.t 5), none⟩,
    ⟨some 43, .bin .num .sub (.t 42) (.c (.int .i64 1)), none⟩,
    ⟨some 5, .mv (.t 43), none⟩])))
def b18_2 : ACode := (.seq (.seq (.region [⟨some 61, .mv (.t 10), none⟩,
    ⟨some 62, .bin .num .lss (.t 61) (.c (.int .i64 16)), none⟩])
  (.cond (.t 62) .skip
  (.exit 6)))
  (.seq (.block 7 (.seq (.region [⟨some 65, .mv (.t 8), none⟩,
    ⟨some 66, .mv (.t 10), none⟩,
    ⟨some 67, .bin .num .mul (.c (.int .i64 4)) (.t 66), none⟩,
    ⟨some 68, .bin .num .add (.t 65) (.t 67), none⟩,
    ⟨some 11, .mv (.t 68), none⟩])
  (.drawn [⟨some 69, .mv (.t 10), none⟩,
    ⟨some 70, .mv (.t 3), none⟩,
    ⟨some 71, .mv (.t 11), none⟩,
    ⟨some 72, .indexS 1 (.t 70) (.t 71), none⟩,
    ⟨some 73, .load false 1 (.t 72), none⟩,
    ⟨some 74, .convInt .u32 (.t 73), none⟩,
    ⟨some 75, .bin .num .shl (.t 74) (.c (.int .u64 24)), none⟩,
    ⟨some 76, .mv (.t 3), none⟩,
    ⟨some 77, .mv (.t 11), none⟩,
    ⟨some 78, .bin .num .add (.t 77) (.c (.int .i64 1)), none⟩,
    ⟨some 79, .indexS 1 (.t 76) (.t 78), none⟩,
    ⟨some 80, .load false 1 (.t 79), none⟩,
    ⟨some 81, .convInt .u32 (.t 80), none⟩,
    ⟨some 82, .bin .num .shl (.t 81) (.c (.int .u64 16)), none⟩,
    ⟨some 83, .bin .num .or (.t 75) (.t 82), none⟩,
    ⟨some 84, .mv (.t 3), none⟩,
    ⟨some 85, .mv (.t 11), none⟩,
    ⟨some 86, .bin .num .add (.t 85) (.c (.int .i64 2)), none⟩,
    ⟨some 87, .indexS 1 (.t 84) (.t 86), none⟩,
    ⟨some 88, .load false 1 (.t 87), none⟩,
    ⟨some 89, .convInt .u32 (.t 88), none⟩,
    ⟨some 90, .bin .num .shl (.t 89) (.c (.int .u64 8)), none⟩,
    ⟨some 91, .bin .num .or (.t 83) (.t 90), none⟩,
    ⟨some 92, .mv (.t 3), none⟩,
    ⟨some 93, .mv (.t 11), none⟩,
    ⟨some 94, .bin .num .add (.t 93) (.c (.int .i64 3)), none⟩,
    ⟨some 95, .indexS 1 (.t 92) (.t 94), none⟩,
    ⟨some 96, .load false 1 (.t 95), none⟩,
    ⟨some 97, .convInt .u32 (.t 96), none⟩,
    ⟨some 98, .bin .num .or (.t 91) (.t 97), none⟩,
    ⟨some 99, .indexA 64 1 (.t 9) (.t 69), none⟩,
    ⟨none, .store 1 (.t 99) (.t 98), none⟩] [0, 1, 3, 1, 1, 1, 1, 127, 255, 255, 127, 127, 127, 127, 1, 32767, 65535, 65535, 32767, 32767, 32767, 32767, 1, 8388607, 16777215, 16777215, 8388607, 8388607, 8388607, 1, 0, 0])))
  (.region [⟨some 63, .mv (.t 10), none⟩,
    ⟨some 64, .bin .num .add (.t 63) (.c (.int .i64 1)), none⟩,
    ⟨some 10, .mv (.t 64), none⟩])))
def b18_3 : ACode := (.seq (.seq (.region [⟨some 100, .mv (.t 12), none⟩,
    ⟨some 101, .bin .num .lss (.t 100) (.c (.int .i64 64)), none⟩])
  (.cond (.t 101) .skip
  (.exit 8)))
  (.seq (.block 9 (.seq (.drawn [⟨some 104, .mv (.t 12), none⟩,
    ⟨some 105, .bin .num .sub (.t 104) (.c (.int .i64 15)), none⟩,
    ⟨some 106, .indexA 64 1 (.t 9) (.t 105), none⟩,
    ⟨some 107, .load false 1 (.t 106), none⟩,
    ⟨some 108, .mv (.t 12), none⟩,
    ⟨some 109, .bin .num .sub (.t 108) (.c (.int .i64 2)), none⟩,
    ⟨some 110, .indexA 64 1 (.t 9) (.t 109), none⟩,
    ⟨some 111, .load false 1 (.t 110), none⟩,
    ⟨some 13, .mv (.t 107), none⟩,
    ⟨some 14, .mv (.t 111), none⟩] [0, 0, 0, 0, 15, 15, 15, 15, 240, 0])
  (.drawn [⟨some 112, .mv (.t 12), none⟩,
    ⟨some 113, .mv (.t 12), none⟩,
    ⟨some 114, .bin .num .sub (.t 113) (.c (.int .i64 16)), none⟩,
    ⟨some 115, .indexA 64 1 (.t 9) (.t 114), none⟩,
    ⟨some 116, .load false 1 (.t 115), none⟩,
    ⟨some 117, .mv (.t 13), none⟩,
    ⟨some 118, .call 56 [(.t 117), (.c (.int .u64 7))], none⟩,
    ⟨some 119, .mv (.t 13), none⟩,
    ⟨some 120, .call 56 [(.t 119), (.c (.int .u64 18))], none⟩,
    ⟨some 121, .bin .num .xor (.t 118) (.t 120), none⟩,
    ⟨some 122, .mv (.t 13), none⟩,
    ⟨some 123, .bin .num .shr (.t 122) (.c (.int .u64 3)), none⟩,
    ⟨some 124, .bin .num .xor (.t 121) (.t 123), none⟩,
    ⟨some 125, .bin .num .add (.t 116) (.t 124), none⟩,
    ⟨some 126, .mv (.t 12), none⟩,
    ⟨some 127, .bin .num .sub (.t 126) (.c (.int .i64 7)), none⟩,
    ⟨some 128, .indexA 64 1 (.t 9) (.t 127), none⟩,
    ⟨some 129, .load false 1 (.t 128), none⟩,
    ⟨some 130, .bin .num .add (.t 125) (.t 129), none⟩,
    ⟨some 131, .mv (.t 14), none⟩,
    ⟨some 132, .call 56 [(.t 131), (.c (.int .u64 17))], none⟩,
    ⟨some 133, .mv (.t 14), none⟩,
    ⟨some 134, .call 56 [(.t 133), (.c (.int .u64 19))], none⟩,
    ⟨some 135, .bin .num .xor (.t 132) (.t 134), none⟩,
    ⟨some 136, .mv (.t 14), none⟩,
    ⟨some 137, .bin .num .shr (.t 136) (.c (.int .u64 10)), none⟩,
    ⟨some 138, .bin .num .xor (.t 135) (.t 137), none⟩,
    ⟨some 139, .bin .num .add (.t 130) (.t 138), none⟩,
    ⟨some 140, .indexA 64 1 (.t 9) (.t 112), none⟩,
    ⟨none, .store 1 (.t 140) (.t 139), none⟩] [0, 1, 1, 1, 1, 31, 31, 127, 31, 31, 1023, 1023, 31, 1, 16383, 16383, 16383, 16383, 1, 524287, 523807, 2097151, 523807, 523807, 16777215, 16777215, 523807, 1, 0, 0])))
  (.region [⟨some 102, .mv (.t 12), none⟩,
    ⟨some 103, .bin .num .add (.t 102) (.c (.int .i64 1)), none⟩,
    ⟨some 12, .mv (.t 103), none⟩])))
def b18_4 : ACode := (.seq (.seq (.region [⟨some 142, .mv (.t 16), none⟩,
    ⟨some 143, .bin .num .lss (.t 142) (.c (.int .i64 64)), none⟩])
  (.cond (.t 143) .skip
  (.exit 10)))
  (.seq (.block 11 (.seq (.drawn [⟨some 146, .indexA 8 1 (.t 15) (.c (.int .i64 4)), none⟩,
    ⟨some 147, .load false 1 (.t 146), none⟩,
    ⟨some 148, .indexA 8 1 (.t 15) (.c (.int .i64 0)), none⟩,
    ⟨some 149, .load false 1 (.t 148), none⟩,
    ⟨some 17, .mv (.t 147), none⟩,
    ⟨some 18, .mv (.t 149), none⟩] [0, 0, 3, 3, 12, 0])
  (.seq (.drawn [⟨some 150, .indexA 8 1 (.t 15) (.c (.int .i64 7)), none⟩,
    ⟨some 151, .load false 1 (.t 150), none⟩,
    ⟨some 152, .mv (.t 17), none⟩,
    ⟨some 153, .call 56 [(.t 152), (.c (.int .u64 6))], none⟩,
    ⟨some 154, .mv (.t 17), none⟩,
    ⟨some 155, .call 56 [(.t 154), (.c (.int .u64 11))], none⟩,
    ⟨some 156, .bin .num .xor (.t 153) (.t 155), none⟩,
    ⟨some 157, .mv (.t 17), none⟩,
    ⟨some 158, .call 56 [(.t 157), (.c (.int .u64 25))], none⟩,
    ⟨some 159, .bin .num .xor (.t 156) (.t 158), none⟩,
    ⟨some 160, .bin .num .add (.t 151) (.t 159), none⟩,
    ⟨some 161, .mv (.t 17), none⟩,
    ⟨some 162, .indexA 8 1 (.t 15) (.c (.int .i64 5)), none⟩,
    ⟨some 163, .load false 1 (.t 162), none⟩,
    ⟨some 164, .bin .num .and (.t 161) (.t 163), none⟩,
    ⟨some 165, .mv (.t 17), none⟩,
    ⟨some 166, .un .xor (.t 165), none⟩,
    ⟨some 167, .indexA 8 1 (.t 15) (.c (.int .i64 6)), none⟩,
    ⟨some 168, .load false 1 (.t 167), none⟩,
    ⟨some 169, .bin .num .and (.t 166) (.t 168), none⟩,
    ⟨some 170, .bin .num .xor (.t 164) (.t 169), none⟩,
    ⟨some 171, .bin .num .add (.t 160) (.t 170), none⟩,
    ⟨some 172, .mv (.t 16), none⟩,
    ⟨some 173, .indexA 64 1 (.t 6) (.t 172), none⟩,
    ⟨some 174, .load false 1 (.t 173), none⟩,
    ⟨some 175, .bin .num .add (.t 171) (.t 174), none⟩,
    ⟨some 176, .mv (.t 16), none⟩,
    ⟨some 177, .indexA 64 1 (.t 9) (.t 176), none⟩,
    ⟨some 178, .load false 1 (.t 177), none⟩,
    ⟨some 179, .bin .num .add (.t 175) (.t 178), none⟩,
    ⟨some 19, .mv (.t 179), none⟩] [0, 0, 3, 3, 15, 3, 3, 127, 67, 3, 0, 2047, 4095, 4095, 2047, 32767, 32767, 131071, 131071, 32767, 2047, 0, 4194303, 4194303, 4194303, 0, 67108863, 67108863, 67108863, 0, 0])
  (.seq (.drawn [⟨some 180, .mv (.t 18), none⟩,
    ⟨some 181, .call 56 [(.t 180), (.c (.int .u64 2))], none⟩,
    ⟨some 182, .mv (.t 18), none⟩,
    ⟨some 183, .call 56 [(.t 182), (.c (.int .u64 13))], none⟩,
    ⟨some 184, .bin .num .xor (.t 181) (.t 183), none⟩,
    ⟨some 185, .mv (.t 18), none⟩,
    ⟨some 186, .call 56 [(.t 185), (.c (.int .u64 22))], none⟩,
    ⟨some 187, .bin .num .xor (.t 184) (.t 186), none⟩,
    ⟨some 188, .mv (.t 18), none⟩,
    ⟨some 189, .indexA 8 1 (.t 15) (.c (.int .i64 1)), none⟩,
    ⟨some 190, .load false 1 (.t 189), none⟩,
    ⟨some 191, .bin .num .and (.t 188) (.t 190), none⟩,
    ⟨some 192, .mv (.t 18), none⟩,
    ⟨some 193, .indexA 8 1 (.t 15) (.c (.int .i64 2)), none⟩,
    ⟨some 194, .load false 1 (.t 193), none⟩,
    ⟨some 195, .bin .num .and (.t 192) (.t 194), none⟩,
    ⟨some 196, .bin .num .xor (.t 191) (.t 195), none⟩,
    ⟨some 197, .indexA 8 1 (.t 15) (.c (.int .i64 1)), none⟩,
    ⟨some 198, .load false 1 (.t 197), none⟩,
    ⟨some 199, .indexA 8 1 (.t 15) (.c (.int .i64 2)), none⟩,
    ⟨some 200, .load false 1 (.t 199), none⟩,
    ⟨some 201, .bin .num .and (.t 198) (.t 200), none⟩,
    ⟨some 202, .bin .num .xor (.t 196) (.t 201), none⟩,
    ⟨some 203, .bin .num .add (.t 187) (.t 202), none⟩,
    ⟨some 20, .mv (.t 203), none⟩] [0, 0, 3, 0, 0, 31, 16, 0, 255, 511, 511, 255, 4095, 8191, 8191, 4095, 255, 131071, 131071, 524287, 524287, 131071, 255, 0, 0])
  (.region [⟨some 204, .mv (.t 19), none⟩,
    ⟨some 205, .mv (.t 20), none⟩,
    ⟨some 206, .bin .num .add (.t 204) (.t 205), none⟩,
    ⟨some 207, .indexA 8 1 (.t 15) (.c (.int .i64 0)), none⟩,
    ⟨some 208, .load false 1 (.t 207), none⟩,
    ⟨some 209, .indexA 8 1 (.t 15) (.c (.int .i64 1)), none⟩,
    ⟨some 210, .load false 1 (.t 209), none⟩,
    ⟨some 211, .indexA 8 1 (.t 15) (.c (.int .i64 2)), none⟩,
    ⟨some 212, .load false 1 (.t 211), none⟩,
    ⟨some 213, .indexA 8 1 (.t 15) (.c (.int .i64 3)), none⟩,
    ⟨some 214, .load false 1 (.t 213), none⟩,
    ⟨some 215, .mv (.t 19), none⟩,
    ⟨some 216, .bin .num .add (.t 214) (.t 215), none⟩,
    ⟨some 217, .indexA 8 1 (.t 15) (.c (.int .i64 4)), none⟩,
    ⟨some 218, .load false 1 (.t 217), none⟩,
    ⟨some 219, .indexA 8 1 (.t 15) (.c (.int .i64 5)), none⟩,
    ⟨some 220, .load false 1 (.t 219), none⟩,
    ⟨some 221, .indexA 8 1 (.t 15) (.c (.int .i64 6)), none⟩,
    ⟨some 222, .load false 1 (.t 221), none⟩,
    ⟨some 223, .build [(.int .u32 0), (.int .u32 0), (.int .u32 0), (.int .u32 0), (.int .u32 0), (.int .u32 0), (.int .u32 0), (.int .u32 0)] [(0, 1, (.t 206)), (1, 1, (.t 208)), (2, 1, (.t 210)), (3, 1, (.t 212)), (4, 1, (.t 216)), (5, 1, (.t 218)), (6, 1, (.t 220)), (7, 1, (.t 222))], none⟩,
    ⟨none, .store 8 (.t 15) (.t 223), none⟩])))))
  (.region [⟨some 144, .mv (.t 16), none⟩,
    ⟨some 145, .bin .num .add (.t 144) (.c (.int .i64 1)), none⟩,
    ⟨some 16, .mv (.t 145), none⟩])))
def b18_5 : ACode := (.seq (.seq (.region [⟨some 224, .mv (.t 21), none⟩,
    ⟨some 225, .bin .num .lss (.t 224) (.c (.int .i64 8)), none⟩])
  (.cond (.t 225) .skip
  (.exit 12)))
  (.seq (.block 13 (.drawn [⟨some 228, .mv (.t 21), none⟩,
    ⟨some 229, .mv (.t 21), none⟩,
    ⟨some 230, .indexA 8 1 (.t 7) (.t 229), none⟩,
    ⟨some 231, .load false 1 (.t 230), none⟩,
    ⟨some 232, .mv (.t 21), none⟩,
    ⟨some 233, .indexA 8 1 (.t 15) (.t 232), none⟩,
    ⟨some 234, .load false 1 (.t 233), none⟩,
    ⟨some 235, .bin .num .add (.t 231) (.t 234), none⟩,
    ⟨some 236, .indexA 8 1 (.t 7) (.t 228), none⟩,
    ⟨none, .store 1 (.t 236) (.t 235), none⟩] [0, 1, 1, 1, 15, 15, 15, 1, 0, 0]))
  (.region [⟨some 226, .mv (.t 21), none⟩,
    ⟨some 227, .bin .num .add (.t 226) (.c (.int .i64 1)), none⟩,
    ⟨some 21, .mv (.t 227), none⟩])))
def b18_6 : ACode := (.seq (.seq (.region [⟨some 55, .mv (.t 8), none⟩,
    ⟨some 56, .mv (.t 3), none⟩,
    ⟨some 57, .lenS (.t 56), none⟩,
    ⟨some 58, .bin .num .lss (.t 55) (.t 57), none⟩])
  (.cond (.t 58) .skip
  (.exit 4)))
  (.seq (.block 5 (.seq (.region [⟨some 9, .alloc [(.int .u32 0), (.int .u32 0), (.int .u32 0), (.int .u32 0), (.int .u32 0), (.int .u32 0), (.int .u32 0), (.int .u32 0), (.int .u32 0), (.int .u32 0), (.int .u32 0), (.int .u32 0), (.int .u32 0), (.int .u32 0), (.int .u32 0), (.int .u32 0), (.int .u32 0), (.int .u32 0), (.int .u32 0), (.int .u32 0), (.int .u32 0), (.int .u32 0), (.int .u32 0), (.int .u32 0), (.int .u32 0), (.int .u32 0), (.int .u32 0), (.int .u32 0), (.int .u32 0), (.int .u32 0), (.int .u32 0), (.int .u32 0), (.int .u32 0), (.int .u32 0), (.int .u32 0), (.int .u32 0), (.int .u32 0), (.int .u32 0), (.int .u32 0), (.int .u32 0), (.int .u32 0), (.int .u32 0), (.int .u32 0), (.int .u32 0), (.int .u32 0), (.int .u32 0), (.int .u32 0), (.int .u32 0), (.int .u32 0), (.int .u32 0), (.int .u32 0), (.int .u32 0), (.int .u32 0), (.int .u32 0), (.int .u32 0), (.int .u32 0), (.int .u32 0), (.int .u32 0), (.int .u32 0), (.int .u32 0), (.int .u32 0), (.int .u32 0), (.int .u32 0), (.int .u32 0)], none⟩])
  (.seq (.seq (.region [⟨some 10, .mv (.c (.int .i64 0)), none⟩])
  (.block 6 (.loop [2, 3, 6, 7, 8, 9, 10] [2, 24, 26, 27, 28, 30, 34, 35, 37, 51, 52, 53, 6, 7, 57, 9, 118, 120, 132, 134, 15, 153, 155, 158, 181, 183, 186, 22] b18_2)))
  (.seq (.seq (.region [⟨some 12, .mv (.c (.int .i64 16)), none⟩])
  (.block 8 (.loop [2, 3, 6, 7, 8, 9, 12] [2, 24, 26, 27, 28, 30, 34, 35, 37, 51, 52, 53, 6, 7, 57, 9, 15, 153, 155, 158, 181, 183, 186, 22] b18_3)))
  (.seq (.region [⟨some 141, .load true 8 (.t 7), none⟩,
    ⟨some 15, .alloc [(.int .u32 0), (.int .u32 0), (.int .u32 0), (.int .u32 0), (.int .u32 0), (.int .u32 0), (.int .u32 0), (.int .u32 0)], none⟩,
    ⟨none, .store 8 (.t 15) (.t 141), none⟩])
  (.seq (.seq (.region [⟨some 16, .mv (.c (.int .i64 0)), none⟩])
  (.block 10 (.loop [2, 3, 6, 7, 8, 9, 15, 16] [2, 24, 26, 27, 28, 30, 34, 35, 37, 51, 52, 53, 6, 7, 57, 9, 118, 120, 132, 134, 15, 22] b18_4)))
  (.seq (.region [⟨some 21, .mv (.c (.int .i64 0)), none⟩])
  (.block 12 (.loop [2, 3, 6, 7, 8, 15, 21] [2, 24, 26, 27, 28, 30, 34, 35, 37, 51, 52, 53, 6, 7, 57, 9, 118, 120, 132, 134, 15, 153, 155, 158, 181, 183, 186, 22] b18_5)))))))))
  (.region [⟨some 59, .mv (.t 8), none⟩,
    ⟨some 60, .bin .num .add (.t 59) (.c (.int .i64 64)), none⟩,
    ⟨some 8, .mv (.t 60), none⟩])))
def b18_7 : ACode := (.seq (.seq (.region [⟨some 237, .mv (.t 23), none⟩,
    ⟨some 238, .bin .num .lss (.t 237) (.c (.int .i64 32)), none⟩])
  (.cond (.t 238) .skip
  (.exit 14)))
  (.seq (.block 15 (.region [⟨some 241, .mv (.t 23), none⟩,
    ⟨some 242, .mv (.t 23), none⟩,
    ⟨some 243, .bin .num .quo (.t 242) (.c (.int .i64 4)), none⟩,
    ⟨some 244, .indexA 8 1 (.t 7) (.t 243), none⟩,
    ⟨some 245, .load false 1 (.t 244), none⟩,
    ⟨some 246, .mv (.t 23), none⟩,
    ⟨some 247, .bin .num .rem (.t 246) (.c (.int .i64 4)), none⟩,
    ⟨some 248, .bin .num .mul (.c (.int .i64 8)) (.t 247), none⟩,
    ⟨some 249, .bin .num .sub (.c (.int .i64 24)) (.t 248), none⟩,
    ⟨some 250, .convInt .u64 (.t 249), none⟩,
    ⟨some 251, .bin .num .shr (.t 245) (.t 250), none⟩,
    ⟨some 252, .convInt .u8 (.t 251), none⟩,
    ⟨some 253, .indexA 32 1 (.t 22) (.t 241), none⟩,
    ⟨none, .store 1 (.t 253) (.t 252), none⟩]))
  (.region [⟨some 239, .mv (.t 23), none⟩,
    ⟨some 240, .bin .num .add (.t 239) (.c (.int .i64 1)), none⟩,
    ⟨some 23, .mv (.t 240), none⟩])))
/-- lighterage/lighterageref1.Sum -/
def a18 : AFn := ⟨255, 1, [.cell 2 true 32],
  (.seq (.region [⟨some 2, .alloc [(.int .u8 0), (.int .u8 0), (.int .u8 0), (.int .u8 0), (.int .u8 0), (.int .u8 0), (.int .u8 0), (.int .u8 0), (.int .u8 0), (.int .u8 0), (.int .u8 0), (.int .u8 0), (.int .u8 0), (.int .u8 0), (.int .u8 0), (.int .u8 0), (.int .u8 0), (.int .u8 0), (.int .u8 0), (.int .u8 0), (.int .u8 0), (.int .u8 0), (.int .u8 0), (.int .u8 0), (.int .u8 0), (.int .u8 0), (.int .u8 0), (.int .u8 0), (.int .u8 0), (.int .u8 0), (.int .u8 0), (.int .u8 0)], none⟩])
  (.seq (.region [⟨some 24, .buildSlice 1 false [], none⟩,
    ⟨some 25, .mv (.t 0), none⟩,
    ⟨some 26, .append 1 1 (.t 24) (.t 25), none⟩,
    ⟨some 27, .buildSlice 1 false [(.c (.int .u8 128))], none⟩,
    ⟨some 28, .append 1 1 (.t 26) (.t 27), none⟩,
    ⟨some 3, .mv (.t 28), none⟩])
  (.seq (.block 0 (.loop [0, 2, 3] [2, 24, 26, 27, 28, 37, 51, 52, 53, 6, 7, 57, 9, 118, 120, 132, 134, 15, 153, 155, 158, 181, 183, 186, 22] b18_0))
  (.seq (.region [⟨some 36, .mv (.t 0), none⟩,
    ⟨some 37, .lenS (.t 36), none⟩,
    ⟨some 38, .convInt .u64 (.t 37), none⟩,
    ⟨some 39, .bin .num .mul (.t 38) (.c (.int .u64 8)), none⟩,
    ⟨some 4, .mv (.t 39), none⟩])
  (.seq (.seq (.region [⟨some 5, .mv (.c (.int .i64 7)), none⟩])
  (.block 2 (.loop [2, 3, 4, 5] [2, 24, 26, 27, 28, 30, 34, 35, 37, 53, 6, 7, 57, 9, 118, 120, 132, 134, 15, 153, 155, 158, 181, 183, 186, 22] b18_1)))
  (.seq (.region [⟨some 53, .call 55 [], none⟩,
    ⟨some 6, .alloc [(.int .u32 0), (.int .u32 0), (.int .u32 0), (.int .u32 0), (.int .u32 0), (.int .u32 0), (.int .u32 0), (.int .u32 0), (.int .u32 0), (.int .u32 0), (.int .u32 0), (.int .u32 0), (.int .u32 0), (.int .u32 0), (.int .u32 0), (.int .u32 0), (.int .u32 0), (.int .u32 0), (.int .u32 0), (.int .u32 0), (.int .u32 0), (.int .u32 0), (.int .u32 0), (.int .u32 0), (.int .u32 0), (.int .u32 0), (.int .u32 0), (.int .u32 0), (.int .u32 0), (.int .u32 0), (.int .u32 0), (.int .u32 0), (.int .u32 0), (.int .u32 0), (.int .u32 0), (.int .u32 0), (.int .u32 0), (.int .u32 0), (.int .u32 0), (.int .u32 0), (.int .u32 0), (.int .u32 0), (.int .u32 0), (.int .u32 0), (.int .u32 0), (.int .u32 0), (.int .u32 0), (.int .u32 0), (.int .u32 0), (.int .u32 0), (.int .u32 0), (.int .u32 0), (.int .u32 0), (.int .u32 0), (.int .u32 0), (.int .u32 0), (.int .u32 0), (.int .u32 0), (.int .u32 0), (.int .u32 0), (.int .u32 0), (.int .u32 0), (.int .u32 0), (.int .u32 0)], none⟩,
    ⟨none, .store 64 (.t 6) (.t 53), none⟩])
  (.seq (.region [⟨some 54, .build [(.int .u32 0), (.int .u32 0), (.int .u32 0), (.int .u32 0), (.int .u32 0), (.int .u32 0), (.int .u32 0), (.int .u32 0)] [(0, 1, (.c (.int .u32 1779033703))), (1, 1, (.c (.int .u32 3144134277))), (2, 1, (.c (.int .u32 1013904242))), (3, 1, (.c (.int .u32 2773480762))), (4, 1, (.c (.int .u32 1359893119))), (5, 1, (.c (.int .u32 2600822924))), (6, 1, (.c (.int .u32 528734635))), (7, 1, (.c (.int .u32 1541459225)))], none⟩,
    ⟨some 7, .alloc [(.int .u32 0), (.int .u32 0), (.int .u32 0), (.int .u32 0), (.int .u32 0), (.int .u32 0), (.int .u32 0), (.int .u32 0)], none⟩,
    ⟨none, .store 8 (.t 7) (.t 54), none⟩])
  (.seq (.seq (.region [⟨some 8, .mv (.c (.int .i64 0)), none⟩])
  (.block 4 (.loop [2, 3, 6, 7, 8] [2, 24, 26, 27, 28, 30, 34, 35, 37, 51, 52, 53, 6, 7, 22] b18_6)))
  (.seq (.region [⟨some 22, .alloc [(.int .u8 0), (.int .u8 0), (.int .u8 0), (.int .u8 0), (.int .u8 0), (.int .u8 0), (.int .u8 0), (.int .u8 0), (.int .u8 0), (.int .u8 0), (.int .u8 0), (.int .u8 0), (.int .u8 0), (.int .u8 0), (.int .u8 0), (.int .u8 0), (.int .u8 0), (.int .u8 0), (.int .u8 0), (.int .u8 0), (.int .u8 0), (.int .u8 0), (.int .u8 0), (.int .u8 0), (.int .u8 0), (.int .u8 0), (.int .u8 0), (.int .u8 0), (.int .u8 0), (.int .u8 0), (.int .u8 0), (.int .u8 0)], none⟩])
  (.seq (.seq (.region [⟨some 23, .mv (.c (.int .i64 0)), none⟩])
  (.block 14 (.loop [2, 7, 22, 23] [2, 24, 26, 27, 28, 30, 34, 35, 37, 51, 52, 53, 6, 7, 57, 9, 118, 120, 132, 134, 15, 153, 155, 158, 181, 183, 186, 22] b18_7)))
  (.seq (.region [⟨some 254, .load true 32 (.t 22), none⟩,
    ⟨none, .store 32 (.t 2) (.t 254), none⟩])
  .ret))))))))))), false⟩
def h18 : Hints := ⟨[], [(2, ([0, 2, 3], [2, 24, 26, 27, 28, 37, 51, 52, 53, 6, 7, 57, 9, 118, 120, 132, 134, 15, 153, 155, 158, 181, 183, 186, 22])), (6, ([2, 3, 4, 5], [2, 24, 26, 27, 28, 30, 34, 35, 37, 53, 6, 7, 57, 9, 118, 120, 132, 134, 15, 153, 155, 158, 181, 183, 186, 22])), (12, ([2, 3, 6, 7, 8], [2, 24, 26, 27, 28, 30, 34, 35, 37, 51, 52, 53, 6, 7, 22])), (16, ([2, 3, 6, 7, 8, 9, 10], [2, 24, 26, 27, 28, 30, 34, 35, 37, 51, 52, 53, 6, 7, 57, 9, 118, 120, 132, 134, 15, 153, 155, 158, 181, 183, 186, 22])), (21, ([2, 3, 6, 7, 8, 9, 12], [2, 24, 26, 27, 28, 30, 34, 35, 37, 51, 52, 53, 6, 7, 57, 9, 15, 153, 155, 158, 181, 183, 186, 22])), (27, ([2, 3, 6, 7, 8, 9, 15, 16], [2, 24, 26, 27, 28, 30, 34, 35, 37, 51, 52, 53, 6, 7, 57, 9, 118, 120, 132, 134, 15, 22])), (34, ([2, 3, 6, 7, 8, 15, 21], [2, 24, 26, 27, 28, 30, 34, 35, 37, 51, 52, 53, 6, 7, 57, 9, 118, 120, 132, 134, 15, 153, 155, 158, 181, 183, 186, 22])), (39, ([2, 7, 22, 23], [2, 24, 26, 27, 28, 30, 34, 35, 37, 51, 52, 53, 6, 7, 57, 9, 118, 120, 132, 134, 15, 153, 155, 158, 181, 183, 186, 22]))]⟩
theorem p18 : prepFn Tryd.prog G h18 false Tryd.f18 = some a18 := by kernel_rfl
theorem o18 : okFn Tryd.prog Tryd.f18 a18 = true := by kernel_rfl
/-- lighterage/shas.Twice -/
def a19 : AFn := ⟨8, 1, [.cell 2 true 32],
  (.seq (.region [⟨some 2, .alloc [(.int .u8 0), (.int .u8 0), (.int .u8 0), (.int .u8 0), (.int .u8 0), (.int .u8 0), (.int .u8 0), (.int .u8 0), (.int .u8 0), (.int .u8 0), (.int .u8 0), (.int .u8 0), (.int .u8 0), (.int .u8 0), (.int .u8 0), (.int .u8 0), (.int .u8 0), (.int .u8 0), (.int .u8 0), (.int .u8 0), (.int .u8 0), (.int .u8 0), (.int .u8 0), (.int .u8 0), (.int .u8 0), (.int .u8 0), (.int .u8 0), (.int .u8 0), (.int .u8 0), (.int .u8 0), (.int .u8 0), (.int .u8 0)], none⟩])
  (.seq (.region [⟨some 4, .mv (.t 0), none⟩,
    ⟨some 5, .call 15 [(.t 4)], none⟩,
    ⟨some 3, .alloc [(.int .u8 0), (.int .u8 0), (.int .u8 0), (.int .u8 0), (.int .u8 0), (.int .u8 0), (.int .u8 0), (.int .u8 0), (.int .u8 0), (.int .u8 0), (.int .u8 0), (.int .u8 0), (.int .u8 0), (.int .u8 0), (.int .u8 0), (.int .u8 0), (.int .u8 0), (.int .u8 0), (.int .u8 0), (.int .u8 0), (.int .u8 0), (.int .u8 0), (.int .u8 0), (.int .u8 0), (.int .u8 0), (.int .u8 0), (.int .u8 0), (.int .u8 0), (.int .u8 0), (.int .u8 0), (.int .u8 0), (.int .u8 0)], none⟩,
    ⟨none, .store 32 (.t 3) (.t 5), none⟩])
  (.seq (.region [⟨some 6, .sliceA 32 1 (.t 3) none none none, none⟩,
    ⟨some 7, .call 15 [(.t 6)], none⟩,
    ⟨none, .store 32 (.t 2) (.t 7), none⟩])
  .ret))), false⟩
def h19 : Hints := ⟨[], []⟩
theorem p19 : prepFn Tryd.prog G h19 false Tryd.f19 = some a19 := by kernel_rfl
theorem o19 : okFn Tryd.prog Tryd.f19 a19 = true := by kernel_rfl
/-- lighterage/lighterageref1.Twice -/
def a20 : AFn := ⟨8, 1, [.cell 2 true 32],
  (.seq (.region [⟨some 2, .alloc [(.int .u8 0), (.int .u8 0), (.int .u8 0), (.int .u8 0), (.int .u8 0), (.int .u8 0), (.int .u8 0), (.int .u8 0), (.int .u8 0), (.int .u8 0), (.int .u8 0), (.int .u8 0), (.int .u8 0), (.int .u8 0), (.int .u8 0), (.int .u8 0), (.int .u8 0), (.int .u8 0), (.int .u8 0), (.int .u8 0), (.int .u8 0), (.int .u8 0), (.int .u8 0), (.int .u8 0), (.int .u8 0), (.int .u8 0), (.int .u8 0), (.int .u8 0), (.int .u8 0), (.int .u8 0), (.int .u8 0), (.int .u8 0)], none⟩])
  (.seq (.region [⟨some 4, .mv (.t 0), none⟩,
    ⟨some 5, .call 18 [(.t 4)], none⟩,
    ⟨some 3, .alloc [(.int .u8 0), (.int .u8 0), (.int .u8 0), (.int .u8 0), (.int .u8 0), (.int .u8 0), (.int .u8 0), (.int .u8 0), (.int .u8 0), (.int .u8 0), (.int .u8 0), (.int .u8 0), (.int .u8 0), (.int .u8 0), (.int .u8 0), (.int .u8 0), (.int .u8 0), (.int .u8 0), (.int .u8 0), (.int .u8 0), (.int .u8 0), (.int .u8 0), (.int .u8 0), (.int .u8 0), (.int .u8 0), (.int .u8 0), (.int .u8 0), (.int .u8 0), (.int .u8 0), (.int .u8 0), (.int .u8 0), (.int .u8 0)], none⟩,
    ⟨none, .store 32 (.t 3) (.t 5), none⟩])
  (.seq (.region [⟨some 6, .sliceA 32 1 (.t 3) none none none, none⟩,
    ⟨some 7, .call 18 [(.t 6)], none⟩,
    ⟨none, .store 32 (.t 2) (.t 7), none⟩])
  .ret))), false⟩
def h20 : Hints := ⟨[], []⟩
theorem p20 : prepFn Tryd.prog G h20 false Tryd.f20 = some a20 := by kernel_rfl
theorem o20 : okFn Tryd.prog Tryd.f20 a20 = true := by kernel_rfl
/-- lighterage/shas.Compare -/
def a54 : AFn := ⟨8, 2, [.tmp 4],
  (.seq (.region [⟨some 2, .box 32 (.t 0), none⟩,
    ⟨some 3, .box 32 (.t 1), none⟩,
    ⟨some 4, .mv (.c (.int .i64 0)), none⟩])
  (.seq (.drawn [⟨some 5, .sliceA 32 1 (.t 2) none none none, none⟩,
    ⟨some 6, .sliceA 32 1 (.t 3) none none none, none⟩,
    ⟨some 7, .call 101 [(.t 5), (.t 6)], none⟩,
    ⟨some 4, .mv (.t 7), none⟩] [0, 1, 0, 0])
  .ret)), false⟩
def h54 : Hints := ⟨[], []⟩
theorem p54 : prepFn Tryd.prog G h54 false Tryd.f54 = some a54 := by kernel_rfl
theorem o54 : okFn Tryd.prog Tryd.f54 a54 = true := by kernel_rfl
/-- bytes.Compare -/
def a101 : AFn := ⟨8, 2, [.tmp 4],
  (.seq (.region [⟨some 4, .mv (.c (.int .i64 0)), none⟩])
  (.seq (.region [⟨some 5, .mv (.t 0), none⟩,
    ⟨some 6, .mv (.t 1), none⟩,
    ⟨some 7, .call 133 [(.t 5), (.t 6)], none⟩,
    ⟨some 4, .mv (.t 7), none⟩])
  .ret)), false⟩
def h101 : Hints := ⟨[], []⟩
theorem p101 : prepFn Tryd.prog G h101 false Tryd.f101 = some a101 := by kernel_rfl
theorem o101 : okFn Tryd.prog Tryd.f101 a101 = true := by kernel_rfl
/-- lighterage/shas.Less -/
def a16 : AFn := ⟨9, 2, [.tmp 4],
  (.seq (.region [⟨some 2, .box 32 (.t 0), none⟩,
    ⟨some 3, .box 32 (.t 1), none⟩,
    ⟨some 4, .mv (.c (.bool false)), none⟩])
  (.seq (.region [⟨some 5, .load true 32 (.t 2), none⟩,
    ⟨some 6, .load true 32 (.t 3), none⟩,
    ⟨some 7, .call 54 [(.t 5), (.t 6)], none⟩,
    ⟨some 8, .bin .num .lss (.t 7) (.c (.int .i64 0)), none⟩,
    ⟨some 4, .mv (.t 8), none⟩])
  .ret)), false⟩
def h16 : Hints := ⟨[], []⟩
theorem p16 : prepFn Tryd.prog G h16 false Tryd.f16 = some a16 := by kernel_rfl
theorem o16 : okFn Tryd.prog Tryd.f16 a16 = true := by kernel_rfl
/-- lighterage/lighterageref1.Less -/
def a21 : AFn := ⟨10, 2, [.tmp 4],
  (.seq (.region [⟨some 2, .box 32 (.t 0), none⟩,
    ⟨some 3, .box 32 (.t 1), none⟩,
    ⟨some 4, .mv (.c (.bool false)), none⟩])
  (.seq (.drawn [⟨some 5, .sliceA 32 1 (.t 2) none none none, none⟩,
    ⟨some 6, .stringOf (.t 5), none⟩,
    ⟨some 7, .sliceA 32 1 (.t 3) none none none, none⟩,
    ⟨some 8, .stringOf (.t 7), none⟩,
    ⟨some 9, .bin .num .lss (.t 6) (.t 8), none⟩,
    ⟨some 4, .mv (.t 9), none⟩] [0, 0, 3, 3, 0, 0])
  .ret)), false⟩
def h21 : Hints := ⟨[], []⟩
theorem p21 : prepFn Tryd.prog G h21 false Tryd.f21 = some a21 := by kernel_rfl
theorem o21 : okFn Tryd.prog Tryd.f21 a21 = true := by kernel_rfl
/-- lighterage/lighteragelaw1.awake -/
def a17 : AFn := ⟨49, 0, [.tmp 0],
  (.seq (.region [⟨some 0, .mv (.c (.bool false)), none⟩])
  (.seq (.region [⟨some 4, .mv (.c .undef), none⟩,
    ⟨some 5, .buildSlice 1 false [(.c (.int .u8 97)), (.c (.int .u8 98)), (.c (.int .u8 99))], none⟩,
    ⟨some 6, .call 15 [(.t 5)], none⟩,
    ⟨some 7, .call 15 [(.c (.slc 1 [] .tight))], none⟩,
    ⟨some 1, .alloc [(.int .u8 0), (.int .u8 0), (.int .u8 0), (.int .u8 0), (.int .u8 0), (.int .u8 0), (.int .u8 0), (.int .u8 0), (.int .u8 0), (.int .u8 0), (.int .u8 0), (.int .u8 0), (.int .u8 0), (.int .u8 0), (.int .u8 0), (.int .u8 0), (.int .u8 0), (.int .u8 0), (.int .u8 0), (.int .u8 0), (.int .u8 0), (.int .u8 0), (.int .u8 0), (.int .u8 0), (.int .u8 0), (.int .u8 0), (.int .u8 0), (.int .u8 0), (.int .u8 0), (.int .u8 0), (.int .u8 0), (.int .u8 0)], none⟩,
    ⟨some 2, .alloc [(.int .u8 0), (.int .u8 0), (.int .u8 0), (.int .u8 0), (.int .u8 0), (.int .u8 0), (.int .u8 0), (.int .u8 0), (.int .u8 0), (.int .u8 0), (.int .u8 0), (.int .u8 0), (.int .u8 0), (.int .u8 0), (.int .u8 0), (.int .u8 0), (.int .u8 0), (.int .u8 0), (.int .u8 0), (.int .u8 0), (.int .u8 0), (.int .u8 0), (.int .u8 0), (.int .u8 0), (.int .u8 0), (.int .u8 0), (.int .u8 0), (.int .u8 0), (.int .u8 0), (.int .u8 0), (.int .u8 0), (.int .u8 0)], none⟩,
    ⟨none, .store 32 (.t 1) (.t 6), none⟩,
    ⟨none, .store 32 (.t 2) (.t 7), none⟩])
  (.seq (.region [⟨some 8, .sliceA 32 1 (.t 2) none none none, none⟩,
    ⟨some 9, .call 15 [(.t 8)], none⟩,
    ⟨some 3, .alloc [(.int .u8 0), (.int .u8 0), (.int .u8 0), (.int .u8 0), (.int .u8 0), (.int .u8 0), (.int .u8 0), (.int .u8 0), (.int .u8 0), (.int .u8 0), (.int .u8 0), (.int .u8 0), (.int .u8 0), (.int .u8 0), (.int .u8 0), (.int .u8 0), (.int .u8 0), (.int .u8 0), (.int .u8 0), (.int .u8 0), (.int .u8 0), (.int .u8 0), (.int .u8 0), (.int .u8 0), (.int .u8 0), (.int .u8 0), (.int .u8 0), (.int .u8 0), (.int .u8 0), (.int .u8 0), (.int .u8 0), (.int .u8 0)], none⟩,
    ⟨none, .store 32 (.t 3) (.t 9), none⟩])
  (.seq (.drawn [⟨some 10, .indexA 32 1 (.t 1) (.c (.int .i64 0)), none⟩,
    ⟨some 11, .load false 1 (.t 10), none⟩,
    ⟨some 12, .bin .num .eql (.t 11) (.c (.int .u8 186)), none⟩,
    ⟨some 13, .mv (.t 12), none⟩,
    ⟨some 14, .indexA 32 1 (.t 1) (.c (.int .i64 1)), some (13, true)⟩,
    ⟨some 15, .load false 1 (.t 14), some (13, true)⟩,
    ⟨some 16, .bin .num .eql (.t 15) (.c (.int .u8 120)), some (13, true)⟩,
    ⟨some 17, .pick (.t 13) (.t 16) (.c (.bool false)), none⟩,
    ⟨some 18, .mv (.t 17), none⟩,
    ⟨some 19, .indexA 32 1 (.t 1) (.c (.int .i64 31)), some (18, true)⟩,
    ⟨some 20, .load false 1 (.t 19), some (18, true)⟩,
    ⟨some 21, .bin .num .eql (.t 20) (.c (.int .u8 173)), some (18, true)⟩,
    ⟨some 22, .pick (.t 18) (.t 21) (.c (.bool false)), none⟩,
    ⟨some 23, .mv (.t 22), none⟩,
    ⟨some 24, .indexA 32 1 (.t 2) (.c (.int .i64 0)), some (23, true)⟩,
    ⟨some 25, .load false 1 (.t 24), some (23, true)⟩,
    ⟨some 26, .bin .num .eql (.t 25) (.c (.int .u8 227)), some (23, true)⟩,
    ⟨some 27, .pick (.t 23) (.t 26) (.c (.bool false)), none⟩,
    ⟨some 28, .mv (.t 27), none⟩,
    ⟨some 29, .indexA 32 1 (.t 2) (.c (.int .i64 31)), some (28, true)⟩,
    ⟨some 30, .load false 1 (.t 29), some (28, true)⟩,
    ⟨some 31, .bin .num .eql (.t 30) (.c (.int .u8 85)), some (28, true)⟩,
    ⟨some 32, .pick (.t 28) (.t 31) (.c (.bool false)), none⟩,
    ⟨some 33, .mv (.t 32), none⟩,
    ⟨some 34, .call 19 [(.c (.slc 1 [] .tight))], some (33, true)⟩,
    ⟨some 35, .load true 32 (.t 3), some (33, true)⟩,
    ⟨some 36, .eqAgg 32 false (.t 34) (.t 35), some (33, true)⟩,
    ⟨some 37, .pick (.t 33) (.t 36) (.c (.bool false)), none⟩,
    ⟨some 38, .mv (.t 37), none⟩,
    ⟨some 39, .build [(.int .u8 0), (.int .u8 0), (.int .u8 0), (.int .u8 0), (.int .u8 0), (.int .u8 0), (.int .u8 0), (.int .u8 0), (.int .u8 0), (.int .u8 0), (.int .u8 0), (.int .u8 0), (.int .u8 0), (.int .u8 0), (.int .u8 0), (.int .u8 0), (.int .u8 0), (.int .u8 0), (.int .u8 0), (.int .u8 0), (.int .u8 0), (.int .u8 0), (.int .u8 0), (.int .u8 0), (.int .u8 0), (.int .u8 0), (.int .u8 0), (.int .u8 0), (.int .u8 0), (.int .u8 0), (.int .u8 0), (.int .u8 0)] [], some (38, true)⟩,
    ⟨some 40, .load true 32 (.t 1), some (38, true)⟩,
    ⟨some 41, .call 16 [(.t 39), (.t 40)], some (38, true)⟩,
    ⟨some 42, .pick (.t 38) (.t 41) (.c (.bool false)), none⟩,
    ⟨some 43, .mv (.t 42), none⟩,
    ⟨some 44, .load true 32 (.t 1), some (43, true)⟩,
    ⟨some 45, .load true 32 (.t 1), some (43, true)⟩,
    ⟨some 46, .call 16 [(.t 44), (.t 45)], some (43, true)⟩,
    ⟨some 47, .un .not (.t 46), some (43, true)⟩,
    ⟨some 48, .pick (.t 43) (.t 47) (.c (.bool false)), none⟩,
    ⟨some 0, .mv (.t 48), none⟩] [0, 0, 0, 0, 0, 0, 0, 0, 0, 0, 0, 0, 0, 0, 0, 0, 0, 0, 0, 0, 0, 0, 0, 0, 0, 16777216, 0, 0, 0, 0, 536870912, 0, 0, 0, 0, 17179869184, 0, 0, 0, 0])
  .ret)))), false⟩
def h17 : Hints := ⟨[], []⟩
theorem p17 : prepFn Tryd.prog G h17 false Tryd.f17 = some a17 := by kernel_rfl
theorem o17 : okFn Tryd.prog Tryd.f17 a17 = true := by kernel_rfl
end Go.Proofs.YtiiohfojejfolaaDoor
