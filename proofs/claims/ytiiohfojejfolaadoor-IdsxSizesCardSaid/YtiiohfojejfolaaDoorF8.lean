/-
  What is proved: weights and sizes, the document's base, and a transaction of two numbers: what they answer. Conditions: none.
-/
import Derived.Test.YtiiohfojejfolaaDoorF6
import Derived.Test.YtiiohfojejfolaaDoorF7
set_option linter.unusedVariables false
set_option linter.unusedSimpArgs false
set_option maxRecDepth 100000
set_option maxHeartbeats 1000000
namespace Go.Proofs.YtiiohfojejfolaaDoor
open Go Go.Ev Go.Proofs

theorem ba0 (ve lo : Int) (iv ov : List V) (C : FuncId → Option Contract) : a25.runP F15 C [.agg (txc ve lo iv ov)] [] [.call (.bool false) [] [], .b true] =
    some
  ((V.slc (1 : Nat) [] Own.none, [], []),
    [callIs C (60 : Nat)
        [V.agg [V.int IntKind.u32 ve, V.slc (36 : Nat) iv Own.none, V.slc (2 : Nat) ov Own.none, V.int IntKind.u32 lo]]
        [] (V.bool false) [] [],
      true = true]) := by kernel_rfl
theorem ba1 (ve lo : Int) (iv ov y1 y2 y3 : List V) (C : FuncId → Option Contract) : a25.runP F15 C [.agg (txc ve lo iv ov)] [] [.call (.bool true) [] [], .b false, .call (tk y1) [] [.tok y1.length], .call (tk y2) [] [.tok y2.length], .call (tk y3) [] [.tok y3.length]] =
    some
  ((V.slc (1 : Nat) y3 Own.none, [], []),
    [callIs C (60 : Nat)
        [V.agg [V.int IntKind.u32 ve, V.slc (36 : Nat) iv Own.none, V.slc (2 : Nat) ov Own.none, V.int IntKind.u32 lo]]
        [] (V.bool true) [] [],
      false = false,
      callIs C (61 : Nat) [V.slc (1 : Nat) [] Own.none, V.int IntKind.u32 ve] [] (tk y1) [] [Obj.tok (List.length y1)],
      callIs C (62 : Nat)
        [V.slc (1 : Nat) y1 Own.none,
          V.agg [V.int IntKind.u32 ve, V.slc (36 : Nat) iv Own.none, V.slc (2 : Nat) ov Own.none, V.int IntKind.u32 lo]]
        [] (tk y2) [] [Obj.tok (List.length y2)],
      callIs C (61 : Nat) [V.slc (1 : Nat) y2 Own.none, V.int IntKind.u32 lo] [] (tk y3) [] [Obj.tok (List.length y3)]]) := by kernel_rfl
theorem we0 (ve lo : Int) (iv ov a b : List V) (C : FuncId → Option Contract) : a23.runP F15 C [.agg (txc ve lo iv ov)] [] [.call (rowV a) [] [], .call (rowV b) [] []] =
    some
  ((V.int IntKind.i64
        (IntKind.wrap IntKind.i64
          (IntKind.wrap IntKind.i64 ((3 : Int) * (↑(List.length a) : Int)) + (↑(List.length b) : Int))),
      [], []),
    [callIs C (58 : Nat)
        [V.agg [V.int IntKind.u32 ve, V.slc (36 : Nat) iv Own.none, V.slc (2 : Nat) ov Own.none, V.int IntKind.u32 lo]]
        [] (rowV a) [] [],
      callIs C (59 : Nat)
        [V.agg [V.int IntKind.u32 ve, V.slc (36 : Nat) iv Own.none, V.slc (2 : Nat) ov Own.none, V.int IntKind.u32 lo]]
        [] (rowV b) [] []]) := by kernel_rfl
theorem si0 (ve lo w : Int) (iv ov : List V) (C : FuncId → Option Contract) : a24.runP F15 C [.agg (txc ve lo iv ov)] [] [.call (.int .i64 w) [] []] =
    some
  ((V.int IntKind.i64 (IntKind.wrap IntKind.i64 (Int.tdiv (IntKind.wrap IntKind.i64 (w + (3 : Int))) (4 : Int))), [],
      []),
    [callIs C (23 : Nat)
        [V.agg [V.int IntKind.u32 ve, V.slc (36 : Nat) iv Own.none, V.slc (2 : Nat) ov Own.none, V.int IntKind.u32 lo]]
        [] (V.int IntKind.i64 w) [] []]) := by kernel_rfl
theorem ti0 (ve lo : Int) (iv ov b : List V) (w : Nat → Int) (C : FuncId → Option Contract) : a63.runP F15 C [.agg (txc ve lo iv ov)] [] [.call (rowV b) [] [], .call (.agg (p32 w)) [] []] =
    some
  ((V.agg
        [V.int IntKind.u8 (w (0 : Nat)), V.int IntKind.u8 (w (1 : Nat)), V.int IntKind.u8 (w (2 : Nat)),
          V.int IntKind.u8 (w (3 : Nat)), V.int IntKind.u8 (w (4 : Nat)), V.int IntKind.u8 (w (5 : Nat)),
          V.int IntKind.u8 (w (6 : Nat)), V.int IntKind.u8 (w (7 : Nat)), V.int IntKind.u8 (w (8 : Nat)),
          V.int IntKind.u8 (w (9 : Nat)), V.int IntKind.u8 (w (10 : Nat)), V.int IntKind.u8 (w (11 : Nat)),
          V.int IntKind.u8 (w (12 : Nat)), V.int IntKind.u8 (w (13 : Nat)), V.int IntKind.u8 (w (14 : Nat)),
          V.int IntKind.u8 (w (15 : Nat)), V.int IntKind.u8 (w (16 : Nat)), V.int IntKind.u8 (w (17 : Nat)),
          V.int IntKind.u8 (w (18 : Nat)), V.int IntKind.u8 (w (19 : Nat)), V.int IntKind.u8 (w (20 : Nat)),
          V.int IntKind.u8 (w (21 : Nat)), V.int IntKind.u8 (w (22 : Nat)), V.int IntKind.u8 (w (23 : Nat)),
          V.int IntKind.u8 (w (24 : Nat)), V.int IntKind.u8 (w (25 : Nat)), V.int IntKind.u8 (w (26 : Nat)),
          V.int IntKind.u8 (w (27 : Nat)), V.int IntKind.u8 (w (28 : Nat)), V.int IntKind.u8 (w (29 : Nat)),
          V.int IntKind.u8 (w (30 : Nat)), V.int IntKind.u8 (w (31 : Nat))],
      [], []),
    [callIs C (58 : Nat)
        [V.agg [V.int IntKind.u32 ve, V.slc (36 : Nat) iv Own.none, V.slc (2 : Nat) ov Own.none, V.int IntKind.u32 lo]]
        [] (rowV b) [] [],
      callIs C (19 : Nat) [V.slc (1 : Nat) b Own.none] [] (V.agg (p32 w)) [] []]) := by kernel_rfl
theorem ti1 (ve lo : Int) (iv ov b : List V) (w : Nat → Int) (C : FuncId → Option Contract) : a64.runP F15 C [.agg (txc ve lo iv ov)] [] [.call (rowV b) [] [], .call (.agg (p32 w)) [] []] =
    some
  ((V.agg
        [V.int IntKind.u8 (w (0 : Nat)), V.int IntKind.u8 (w (1 : Nat)), V.int IntKind.u8 (w (2 : Nat)),
          V.int IntKind.u8 (w (3 : Nat)), V.int IntKind.u8 (w (4 : Nat)), V.int IntKind.u8 (w (5 : Nat)),
          V.int IntKind.u8 (w (6 : Nat)), V.int IntKind.u8 (w (7 : Nat)), V.int IntKind.u8 (w (8 : Nat)),
          V.int IntKind.u8 (w (9 : Nat)), V.int IntKind.u8 (w (10 : Nat)), V.int IntKind.u8 (w (11 : Nat)),
          V.int IntKind.u8 (w (12 : Nat)), V.int IntKind.u8 (w (13 : Nat)), V.int IntKind.u8 (w (14 : Nat)),
          V.int IntKind.u8 (w (15 : Nat)), V.int IntKind.u8 (w (16 : Nat)), V.int IntKind.u8 (w (17 : Nat)),
          V.int IntKind.u8 (w (18 : Nat)), V.int IntKind.u8 (w (19 : Nat)), V.int IntKind.u8 (w (20 : Nat)),
          V.int IntKind.u8 (w (21 : Nat)), V.int IntKind.u8 (w (22 : Nat)), V.int IntKind.u8 (w (23 : Nat)),
          V.int IntKind.u8 (w (24 : Nat)), V.int IntKind.u8 (w (25 : Nat)), V.int IntKind.u8 (w (26 : Nat)),
          V.int IntKind.u8 (w (27 : Nat)), V.int IntKind.u8 (w (28 : Nat)), V.int IntKind.u8 (w (29 : Nat)),
          V.int IntKind.u8 (w (30 : Nat)), V.int IntKind.u8 (w (31 : Nat))],
      [], []),
    [callIs C (25 : Nat)
        [V.agg [V.int IntKind.u32 ve, V.slc (36 : Nat) iv Own.none, V.slc (2 : Nat) ov Own.none, V.int IntKind.u32 lo]]
        [] (rowV b) [] [],
      callIs C (20 : Nat) [V.slc (1 : Nat) b Own.none] [] (V.agg (p32 w)) [] []]) := by kernel_rfl
theorem sc0 (n : Int) (C : FuncId → Option Contract) : a57.runP F15 C [.int .i64 n] [] [.b true] =
    some
  ((V.slc (1 : Nat)
        [V.int IntKind.u8 (81 : Int), V.int IntKind.u8 (2 : Int), V.int IntKind.u8 (78 : Int),
          V.int IntKind.u8 (115 : Int)]
        Own.none,
      [], []),
    [(IntKind.wrap IntKind.i64
            (↑(BitVec.toNat (BitVec.ofInt (64 : Nat) n &&& BitVec.ofInt (64 : Nat) (7 : Int))) : Int) ==
          (0 : Int)) =
        true]) := by kernel_rfl
theorem sc1 (n : Int) (C : FuncId → Option Contract) : a57.runP F15 C [.int .i64 n] [] [.b false, .b true, .b true] =
    some
  ((V.slc (1 : Nat)
        [V.int IntKind.u8 (0 : Int), V.int IntKind.u8 (20 : Int), V.int IntKind.u8 (0 : Int),
          V.int IntKind.u8 (0 : Int), V.int IntKind.u8 (0 : Int), V.int IntKind.u8 (0 : Int),
          V.int IntKind.u8 (0 : Int), V.int IntKind.u8 (0 : Int), V.int IntKind.u8 (0 : Int),
          V.int IntKind.u8 (0 : Int), V.int IntKind.u8 (0 : Int), V.int IntKind.u8 (0 : Int),
          V.int IntKind.u8 (0 : Int), V.int IntKind.u8 (0 : Int), V.int IntKind.u8 (0 : Int),
          V.int IntKind.u8 (0 : Int), V.int IntKind.u8 (0 : Int), V.int IntKind.u8 (0 : Int),
          V.int IntKind.u8 (0 : Int), V.int IntKind.u8 (0 : Int), V.int IntKind.u8 (0 : Int),
          V.int IntKind.u8 (0 : Int)]
        Own.none,
      [], []),
    [(IntKind.wrap IntKind.i64
            (↑(BitVec.toNat (BitVec.ofInt (64 : Nat) n &&& BitVec.ofInt (64 : Nat) (7 : Int))) : Int) ==
          (0 : Int)) =
        false,
      (IntKind.wrap IntKind.i64
            (↑(BitVec.toNat (BitVec.ofInt (64 : Nat) n &&& BitVec.ofInt (64 : Nat) (7 : Int))) : Int) ==
          (1 : Int)) =
        true,
      (IntKind.wrap IntKind.i64
            (↑(BitVec.toNat (BitVec.ofInt (64 : Nat) n &&& BitVec.ofInt (64 : Nat) (7 : Int))) : Int) ==
          (1 : Int)) =
        true]) := by kernel_rfl
theorem sc2 (n : Int) (C : FuncId → Option Contract) : a57.runP F15 C [.int .i64 n] [] [.b false, .b false, .b true] =
    some
  ((V.slc (1 : Nat)
        [V.int IntKind.u8 (0 : Int), V.int IntKind.u8 (20 : Int), V.int IntKind.u8 (0 : Int),
          V.int IntKind.u8 (0 : Int), V.int IntKind.u8 (0 : Int), V.int IntKind.u8 (0 : Int),
          V.int IntKind.u8 (0 : Int), V.int IntKind.u8 (0 : Int), V.int IntKind.u8 (0 : Int),
          V.int IntKind.u8 (0 : Int), V.int IntKind.u8 (0 : Int), V.int IntKind.u8 (0 : Int),
          V.int IntKind.u8 (0 : Int), V.int IntKind.u8 (0 : Int), V.int IntKind.u8 (0 : Int),
          V.int IntKind.u8 (0 : Int), V.int IntKind.u8 (0 : Int), V.int IntKind.u8 (0 : Int),
          V.int IntKind.u8 (0 : Int), V.int IntKind.u8 (0 : Int), V.int IntKind.u8 (0 : Int),
          V.int IntKind.u8 (0 : Int)]
        Own.none,
      [], []),
    [(IntKind.wrap IntKind.i64
            (↑(BitVec.toNat (BitVec.ofInt (64 : Nat) n &&& BitVec.ofInt (64 : Nat) (7 : Int))) : Int) ==
          (0 : Int)) =
        false,
      (IntKind.wrap IntKind.i64
            (↑(BitVec.toNat (BitVec.ofInt (64 : Nat) n &&& BitVec.ofInt (64 : Nat) (7 : Int))) : Int) ==
          (1 : Int)) =
        false,
      (IntKind.wrap IntKind.i64
            (↑(BitVec.toNat (BitVec.ofInt (64 : Nat) n &&& BitVec.ofInt (64 : Nat) (7 : Int))) : Int) ==
          (2 : Int)) =
        true]) := by kernel_rfl
theorem sc3 (n : Int) (C : FuncId → Option Contract) : a57.runP F15 C [.int .i64 n] [] [.b false, .b false, .b false, .b true] =
    some
  ((V.slc (1 : Nat)
        [V.int IntKind.u8 (0 : Int), V.int IntKind.u8 (32 : Int), V.int IntKind.u8 (0 : Int),
          V.int IntKind.u8 (0 : Int), V.int IntKind.u8 (0 : Int), V.int IntKind.u8 (0 : Int),
          V.int IntKind.u8 (0 : Int), V.int IntKind.u8 (0 : Int), V.int IntKind.u8 (0 : Int),
          V.int IntKind.u8 (0 : Int), V.int IntKind.u8 (0 : Int), V.int IntKind.u8 (0 : Int),
          V.int IntKind.u8 (0 : Int), V.int IntKind.u8 (0 : Int), V.int IntKind.u8 (0 : Int),
          V.int IntKind.u8 (0 : Int), V.int IntKind.u8 (0 : Int), V.int IntKind.u8 (0 : Int),
          V.int IntKind.u8 (0 : Int), V.int IntKind.u8 (0 : Int), V.int IntKind.u8 (0 : Int),
          V.int IntKind.u8 (0 : Int), V.int IntKind.u8 (0 : Int), V.int IntKind.u8 (0 : Int),
          V.int IntKind.u8 (0 : Int), V.int IntKind.u8 (0 : Int), V.int IntKind.u8 (0 : Int),
          V.int IntKind.u8 (0 : Int), V.int IntKind.u8 (0 : Int), V.int IntKind.u8 (0 : Int),
          V.int IntKind.u8 (0 : Int), V.int IntKind.u8 (0 : Int), V.int IntKind.u8 (0 : Int),
          V.int IntKind.u8 (0 : Int)]
        Own.none,
      [], []),
    [(IntKind.wrap IntKind.i64
            (↑(BitVec.toNat (BitVec.ofInt (64 : Nat) n &&& BitVec.ofInt (64 : Nat) (7 : Int))) : Int) ==
          (0 : Int)) =
        false,
      (IntKind.wrap IntKind.i64
            (↑(BitVec.toNat (BitVec.ofInt (64 : Nat) n &&& BitVec.ofInt (64 : Nat) (7 : Int))) : Int) ==
          (1 : Int)) =
        false,
      (IntKind.wrap IntKind.i64
            (↑(BitVec.toNat (BitVec.ofInt (64 : Nat) n &&& BitVec.ofInt (64 : Nat) (7 : Int))) : Int) ==
          (2 : Int)) =
        false,
      (IntKind.wrap IntKind.i64
            (↑(BitVec.toNat (BitVec.ofInt (64 : Nat) n &&& BitVec.ofInt (64 : Nat) (7 : Int))) : Int) ==
          (3 : Int)) =
        true]) := by kernel_rfl
theorem sc4 (n : Int) (C : FuncId → Option Contract) : a57.runP F15 C [.int .i64 n] [] [.b false, .b false, .b false, .b false, .b true, .b true] =
    some
  ((V.slc (1 : Nat)
        [V.int IntKind.u8 (81 : Int), V.int IntKind.u8 (32 : Int),
          V.int IntKind.u8 (IntKind.wrap IntKind.u8 (Int.fdiv n (8 : Int))), V.int IntKind.u8 (0 : Int),
          V.int IntKind.u8 (0 : Int), V.int IntKind.u8 (0 : Int), V.int IntKind.u8 (0 : Int),
          V.int IntKind.u8 (0 : Int), V.int IntKind.u8 (0 : Int), V.int IntKind.u8 (0 : Int),
          V.int IntKind.u8 (0 : Int), V.int IntKind.u8 (0 : Int), V.int IntKind.u8 (0 : Int),
          V.int IntKind.u8 (0 : Int), V.int IntKind.u8 (0 : Int), V.int IntKind.u8 (0 : Int),
          V.int IntKind.u8 (0 : Int), V.int IntKind.u8 (0 : Int), V.int IntKind.u8 (0 : Int),
          V.int IntKind.u8 (0 : Int), V.int IntKind.u8 (0 : Int), V.int IntKind.u8 (0 : Int),
          V.int IntKind.u8 (0 : Int), V.int IntKind.u8 (0 : Int), V.int IntKind.u8 (0 : Int),
          V.int IntKind.u8 (0 : Int), V.int IntKind.u8 (0 : Int), V.int IntKind.u8 (0 : Int),
          V.int IntKind.u8 (0 : Int), V.int IntKind.u8 (0 : Int), V.int IntKind.u8 (0 : Int),
          V.int IntKind.u8 (0 : Int), V.int IntKind.u8 (0 : Int), V.int IntKind.u8 (0 : Int)]
        Own.none,
      [], []),
    [(IntKind.wrap IntKind.i64
            (↑(BitVec.toNat (BitVec.ofInt (64 : Nat) n &&& BitVec.ofInt (64 : Nat) (7 : Int))) : Int) ==
          (0 : Int)) =
        false,
      (IntKind.wrap IntKind.i64
            (↑(BitVec.toNat (BitVec.ofInt (64 : Nat) n &&& BitVec.ofInt (64 : Nat) (7 : Int))) : Int) ==
          (1 : Int)) =
        false,
      (IntKind.wrap IntKind.i64
            (↑(BitVec.toNat (BitVec.ofInt (64 : Nat) n &&& BitVec.ofInt (64 : Nat) (7 : Int))) : Int) ==
          (2 : Int)) =
        false,
      (IntKind.wrap IntKind.i64
            (↑(BitVec.toNat (BitVec.ofInt (64 : Nat) n &&& BitVec.ofInt (64 : Nat) (7 : Int))) : Int) ==
          (3 : Int)) =
        false,
      (IntKind.wrap IntKind.i64
            (↑(BitVec.toNat (BitVec.ofInt (64 : Nat) n &&& BitVec.ofInt (64 : Nat) (7 : Int))) : Int) ==
          (4 : Int)) =
        true,
      (IntKind.wrap IntKind.i64
            (↑(BitVec.toNat (BitVec.ofInt (64 : Nat) n &&& BitVec.ofInt (64 : Nat) (7 : Int))) : Int) ==
          (4 : Int)) =
        true]) := by kernel_rfl
theorem sc7 (n : Int) (C : FuncId → Option Contract) : a57.runP F15 C [.int .i64 n] [] [.b false, .b false, .b false, .b false, .b false, .b false, .b false] =
    some
  ((V.slc (1 : Nat) [V.int IntKind.u8 (IntKind.wrap IntKind.u8 (Int.fdiv n (8 : Int)))] Own.none, [], []),
    [(IntKind.wrap IntKind.i64
            (↑(BitVec.toNat (BitVec.ofInt (64 : Nat) n &&& BitVec.ofInt (64 : Nat) (7 : Int))) : Int) ==
          (0 : Int)) =
        false,
      (IntKind.wrap IntKind.i64
            (↑(BitVec.toNat (BitVec.ofInt (64 : Nat) n &&& BitVec.ofInt (64 : Nat) (7 : Int))) : Int) ==
          (1 : Int)) =
        false,
      (IntKind.wrap IntKind.i64
            (↑(BitVec.toNat (BitVec.ofInt (64 : Nat) n &&& BitVec.ofInt (64 : Nat) (7 : Int))) : Int) ==
          (2 : Int)) =
        false,
      (IntKind.wrap IntKind.i64
            (↑(BitVec.toNat (BitVec.ofInt (64 : Nat) n &&& BitVec.ofInt (64 : Nat) (7 : Int))) : Int) ==
          (3 : Int)) =
        false,
      (IntKind.wrap IntKind.i64
            (↑(BitVec.toNat (BitVec.ofInt (64 : Nat) n &&& BitVec.ofInt (64 : Nat) (7 : Int))) : Int) ==
          (4 : Int)) =
        false,
      (IntKind.wrap IntKind.i64
            (↑(BitVec.toNat (BitVec.ofInt (64 : Nat) n &&& BitVec.ofInt (64 : Nat) (7 : Int))) : Int) ==
          (5 : Int)) =
        false,
      (IntKind.wrap IntKind.i64
            (↑(BitVec.toNat (BitVec.ofInt (64 : Nat) n &&& BitVec.ofInt (64 : Nat) (7 : Int))) : Int) ==
          (6 : Int)) =
        false]) := by kernel_rfl
def z4 : List V := [.int .u32 0, .slc 36 [] .tight, .slc 2 [] .tight, .int .u32 0]
def tS0 (n m ve lo : Int) : St := ⟨[(0, .int .i64 n), (1, .int .i64 m), (4, .ptr (.loc 4 0) 0), (5, .ptr (.loc 5 0) 0), (6, .int .i64 0)], [(.loc 4 0, .cells z4), (.loc 5 0, .cells [.int .u32 ve, .slc 36 [] .tight, .slc 2 [] .tight, .int .u32 lo])]⟩
def tS (n m ve lo : Int) (cs : List V) (i : Nat) : St := ⟨[(0, .int .i64 n), (1, .int .i64 m), (4, .ptr (.loc 4 0) 0), (5, .ptr (.loc 5 0) 0), (6, .int .i64 i)], [(.loc 4 0, .cells z4), (.loc 5 0, .cells [.int .u32 ve, .rowv (.loc 1088 0) 36 0 i, .slc 2 [] .tight, .int .u32 lo]), (.loc 1088 0, .row cs)]⟩
def gR (i : Nat) (ds : List V) : Ans := ⟨.rowv (.loc 88 0) 36 0 (i + 1), [(.loc 1088 0, .dead), (.loc 88 0, .row ds)]⟩
def cl22a : St → St := cleanRQ [0, 1, 4, 5, 6] [4, 5, 88] [(88, 1088)]
theorem tz0n (n m ve lo : Int) (C : FuncId → Option Contract) : bodyP C F15 cl22a b22_0 (tS0 n m ve lo) [.b true, .b false, .b false] =
    some
  (St.mk
      [((0 : Nat), V.int IntKind.i64 n), ((1 : Nat), V.int IntKind.i64 m),
        ((4 : Nat), V.ptr (Key.loc (4 : Nat) (0 : Nat)) (0 : Nat)),
        ((5 : Nat), V.ptr (Key.loc (5 : Nat) (0 : Nat)) (0 : Nat)), ((6 : Nat), V.int IntKind.i64 (1 : Int))]
      [(Key.loc (4 : Nat) (0 : Nat),
          Ev.Obj.cells
            [V.int IntKind.u32 (0 : Int), V.slc (36 : Nat) [] Own.tight, V.slc (2 : Nat) [] Own.tight,
              V.int IntKind.u32 (0 : Int)]),
        (Key.loc (5 : Nat) (0 : Nat),
          Ev.Obj.cells
            [V.int IntKind.u32 ve, V.rowv (Key.loc (1088 : Nat) (0 : Nat)) (36 : Nat) (0 : Nat) (1 : Nat),
              V.slc (2 : Nat) [] Own.tight, V.int IntKind.u32 lo]),
        (Key.loc (1088 : Nat) (0 : Nat),
          Obj.row
            [V.int IntKind.u8 (IntKind.wrap IntKind.u8 (Int.fdiv m (1 : Int))), V.int IntKind.u8 (0 : Int),
              V.int IntKind.u8 (0 : Int), V.int IntKind.u8 (0 : Int), V.int IntKind.u8 (0 : Int),
              V.int IntKind.u8 (0 : Int), V.int IntKind.u8 (0 : Int), V.int IntKind.u8 (0 : Int),
              V.int IntKind.u8 (0 : Int), V.int IntKind.u8 (0 : Int), V.int IntKind.u8 (0 : Int),
              V.int IntKind.u8 (0 : Int), V.int IntKind.u8 (0 : Int), V.int IntKind.u8 (0 : Int),
              V.int IntKind.u8 (0 : Int), V.int IntKind.u8 (0 : Int), V.int IntKind.u8 (0 : Int),
              V.int IntKind.u8 (0 : Int), V.int IntKind.u8 (0 : Int), V.int IntKind.u8 (0 : Int),
              V.int IntKind.u8 (0 : Int), V.int IntKind.u8 (0 : Int), V.int IntKind.u8 (0 : Int),
              V.int IntKind.u8 (0 : Int), V.int IntKind.u8 (0 : Int), V.int IntKind.u8 (0 : Int),
              V.int IntKind.u8 (0 : Int), V.int IntKind.u8 (0 : Int), V.int IntKind.u8 (0 : Int),
              V.int IntKind.u8 (0 : Int), V.int IntKind.u8 (0 : Int), V.int IntKind.u8 (0 : Int),
              V.int IntKind.u32
                (IntKind.wrap IntKind.u32
                  (IntKind.wrap IntKind.i64
                    (↑(BitVec.toNat
                          (BitVec.ofInt (64 : Nat) (Int.fdiv m (1 : Int)) &&& BitVec.ofInt (64 : Nat) (3 : Int))) :
                      Int))),
              V.slc (1 : Nat) [] Own.none,
              V.int IntKind.u32
                (IntKind.wrap IntKind.u32
                  (IntKind.wrap IntKind.i64
                    ((4294967295 : Int) -
                      IntKind.wrap IntKind.i64
                        (↑(BitVec.toNat
                              (BitVec.ofInt (64 : Nat) (Int.fdiv m (256 : Int)) &&&
                                BitVec.ofInt (64 : Nat) (3 : Int))) :
                          Int)))),
              V.slc (1 : Nat) [] Own.none])],
    [decide
          ((0 : Int) <
            IntKind.wrap IntKind.i64
              (IntKind.wrap IntKind.i64
                  (↑(BitVec.toNat
                        (BitVec.ofInt (64 : Nat) (Int.fdiv n (256 : Int)) &&& BitVec.ofInt (64 : Nat) (3 : Int))) :
                    Int) +
                (1 : Int))) =
        true,
      (IntKind.wrap IntKind.i64
            (↑(BitVec.toNat (BitVec.ofInt (64 : Nat) (Int.fdiv m (4096 : Int)) &&& BitVec.ofInt (64 : Nat) (3 : Int))) :
              Int) ==
          (0 : Int)) =
        false,
      (IntKind.wrap IntKind.i64
            (↑(BitVec.toNat
                  (BitVec.ofInt (64 : Nat) (Int.fdiv m (262144 : Int)) &&& BitVec.ofInt (64 : Nat) (3 : Int))) :
              Int) ==
          (0 : Int)) =
        false]) := by kernel_rfl
theorem tb0n (n m ve lo : Int) (cs ds : List V) (i : Nat) (C : FuncId → Option Contract) : bodyP C F15 cl22a b22_0 (tS n m ve lo cs i) [.b true, .sh, .sh, .sh, .sh, .b false, .b false, .act (gR i ds) [.loc 88 0, .loc 1088 0]] =
    some
  (St.mk
      [((0 : Nat), V.int IntKind.i64 n), ((1 : Nat), V.int IntKind.i64 m),
        ((4 : Nat), V.ptr (Key.loc (4 : Nat) (0 : Nat)) (0 : Nat)),
        ((5 : Nat), V.ptr (Key.loc (5 : Nat) (0 : Nat)) (0 : Nat)),
        ((6 : Nat), V.int IntKind.i64 (IntKind.wrap IntKind.i64 ((↑i : Int) + (1 : Int))))]
      [(Key.loc (4 : Nat) (0 : Nat),
          Ev.Obj.cells
            [V.int IntKind.u32 (0 : Int), V.slc (36 : Nat) [] Own.tight, V.slc (2 : Nat) [] Own.tight,
              V.int IntKind.u32 (0 : Int)]),
        (Key.loc (5 : Nat) (0 : Nat),
          Ev.Obj.cells
            [V.int IntKind.u32 ve, V.rowv (Key.loc (1088 : Nat) (0 : Nat)) (36 : Nat) (0 : Nat) (i + (1 : Nat)),
              V.slc (2 : Nat) [] Own.tight, V.int IntKind.u32 lo]),
        (Key.loc (1088 : Nat) (0 : Nat), Obj.row ds)],
    [decide
          ((↑i : Int) <
            IntKind.wrap IntKind.i64
              (IntKind.wrap IntKind.i64
                  (↑(BitVec.toNat
                        (BitVec.ofInt (64 : Nat) (Int.fdiv n (256 : Int)) &&& BitVec.ofInt (64 : Nat) (3 : Int))) :
                    Int) +
                (1 : Int))) =
        true,
      (0 : Int) ≤ IntKind.wrap IntKind.u64 (IntKind.wrap IntKind.i64 ((2 : Int) * (↑i : Int))),
      (0 : Int) ≤ IntKind.wrap IntKind.u64 (IntKind.wrap IntKind.i64 ((8 : Int) + (↑i : Int))),
      (0 : Int) ≤ IntKind.wrap IntKind.u64 (IntKind.wrap IntKind.i64 ((3 : Int) * (↑i : Int))),
      (0 : Int) ≤ IntKind.wrap IntKind.u64 (IntKind.wrap IntKind.i64 ((12 : Int) + (↑i : Int))),
      (IntKind.wrap IntKind.i64
            (↑(BitVec.toNat
                  (BitVec.ofInt (64 : Nat)
                      (Int.fdiv m
                        ((2 : Int) ^
                          Nat.min
                            (Int.toNat (IntKind.wrap IntKind.u64 (IntKind.wrap IntKind.i64 ((12 : Int) + (↑i : Int)))))
                            (64 : Nat))) &&&
                    BitVec.ofInt (64 : Nat) (3 : Int))) :
              Int) ==
          (0 : Int)) =
        false,
      (IntKind.wrap IntKind.i64
            (↑(BitVec.toNat
                  (BitVec.ofInt (64 : Nat) (Int.fdiv m (262144 : Int)) &&& BitVec.ofInt (64 : Nat) (3 : Int))) :
              Int) ==
          (0 : Int)) =
        false,
      appendIs (36 : Nat) (96 : Nat) (88 : Nat) (V.rowv (Key.loc (1088 : Nat) (0 : Nat)) (36 : Nat) (0 : Nat) i)
        (V.slc (36 : Nat)
          [V.agg
              [V.int IntKind.u8
                  (IntKind.wrap IntKind.u8
                    (Int.fdiv m
                      ((2 : Int) ^
                        Nat.min
                          (Int.toNat (IntKind.wrap IntKind.u64 (IntKind.wrap IntKind.i64 ((3 : Int) * (↑i : Int)))))
                          (64 : Nat)))),
                V.int IntKind.u8 (0 : Int), V.int IntKind.u8 (0 : Int), V.int IntKind.u8 (0 : Int),
                V.int IntKind.u8 (0 : Int), V.int IntKind.u8 (0 : Int), V.int IntKind.u8 (0 : Int),
                V.int IntKind.u8 (0 : Int), V.int IntKind.u8 (0 : Int), V.int IntKind.u8 (0 : Int),
                V.int IntKind.u8 (0 : Int), V.int IntKind.u8 (0 : Int), V.int IntKind.u8 (0 : Int),
                V.int IntKind.u8 (0 : Int), V.int IntKind.u8 (0 : Int), V.int IntKind.u8 (0 : Int),
                V.int IntKind.u8 (0 : Int), V.int IntKind.u8 (0 : Int), V.int IntKind.u8 (0 : Int),
                V.int IntKind.u8 (0 : Int), V.int IntKind.u8 (0 : Int), V.int IntKind.u8 (0 : Int),
                V.int IntKind.u8 (0 : Int), V.int IntKind.u8 (0 : Int), V.int IntKind.u8 (0 : Int),
                V.int IntKind.u8 (0 : Int), V.int IntKind.u8 (0 : Int), V.int IntKind.u8 (0 : Int),
                V.int IntKind.u8 (0 : Int), V.int IntKind.u8 (0 : Int), V.int IntKind.u8 (0 : Int),
                V.int IntKind.u8 (IntKind.wrap IntKind.u8 (↑i : Int)),
                V.int IntKind.u32
                  (IntKind.wrap IntKind.u32
                    (IntKind.wrap IntKind.i64
                      (↑(BitVec.toNat
                            (BitVec.ofInt (64 : Nat)
                                (Int.fdiv m
                                  ((2 : Int) ^
                                    Nat.min
                                      (Int.toNat
                                        (IntKind.wrap IntKind.u64 (IntKind.wrap IntKind.i64 ((2 : Int) * (↑i : Int)))))
                                      (64 : Nat))) &&&
                              BitVec.ofInt (64 : Nat) (3 : Int))) :
                        Int))),
                V.slc (1 : Nat) [] Own.none,
                V.int IntKind.u32
                  (IntKind.wrap IntKind.u32
                    (IntKind.wrap IntKind.i64
                      ((4294967295 : Int) -
                        IntKind.wrap IntKind.i64
                          (↑(BitVec.toNat
                                (BitVec.ofInt (64 : Nat)
                                    (Int.fdiv m
                                      ((2 : Int) ^
                                        Nat.min
                                          (Int.toNat
                                            (IntKind.wrap IntKind.u64
                                              (IntKind.wrap IntKind.i64 ((8 : Int) + (↑i : Int)))))
                                          (64 : Nat))) &&&
                                  BitVec.ofInt (64 : Nat) (3 : Int))) :
                            Int)))),
                V.slc (1 : Nat) [] Own.none]]
          Own.tight)
        [(Key.loc (4 : Nat) (0 : Nat), Ev.Obj.cells z4),
          (Key.loc (5 : Nat) (0 : Nat),
            Ev.Obj.cells
              [V.int IntKind.u32 ve, V.rowv (Key.loc (1088 : Nat) (0 : Nat)) (36 : Nat) (0 : Nat) i,
                V.slc (2 : Nat) [] Own.tight, V.int IntKind.u32 lo]),
          (Key.loc (1088 : Nat) (0 : Nat), Obj.row cs),
          (Key.loc (7 : Nat) (0 : Nat),
            Ev.Obj.cells
              [V.int IntKind.u8
                  (IntKind.wrap IntKind.u8
                    (Int.fdiv m
                      ((2 : Int) ^
                        Nat.min
                          (Int.toNat (IntKind.wrap IntKind.u64 (IntKind.wrap IntKind.i64 ((3 : Int) * (↑i : Int)))))
                          (64 : Nat)))),
                V.int IntKind.u8 (0 : Int), V.int IntKind.u8 (0 : Int), V.int IntKind.u8 (0 : Int),
                V.int IntKind.u8 (0 : Int), V.int IntKind.u8 (0 : Int), V.int IntKind.u8 (0 : Int),
                V.int IntKind.u8 (0 : Int), V.int IntKind.u8 (0 : Int), V.int IntKind.u8 (0 : Int),
                V.int IntKind.u8 (0 : Int), V.int IntKind.u8 (0 : Int), V.int IntKind.u8 (0 : Int),
                V.int IntKind.u8 (0 : Int), V.int IntKind.u8 (0 : Int), V.int IntKind.u8 (0 : Int),
                V.int IntKind.u8 (0 : Int), V.int IntKind.u8 (0 : Int), V.int IntKind.u8 (0 : Int),
                V.int IntKind.u8 (0 : Int), V.int IntKind.u8 (0 : Int), V.int IntKind.u8 (0 : Int),
                V.int IntKind.u8 (0 : Int), V.int IntKind.u8 (0 : Int), V.int IntKind.u8 (0 : Int),
                V.int IntKind.u8 (0 : Int), V.int IntKind.u8 (0 : Int), V.int IntKind.u8 (0 : Int),
                V.int IntKind.u8 (0 : Int), V.int IntKind.u8 (0 : Int), V.int IntKind.u8 (0 : Int),
                V.int IntKind.u8 (IntKind.wrap IntKind.u8 (↑i : Int)),
                V.int IntKind.u32
                  (IntKind.wrap IntKind.u32
                    (IntKind.wrap IntKind.i64
                      (↑(BitVec.toNat
                            (BitVec.ofInt (64 : Nat)
                                (Int.fdiv m
                                  ((2 : Int) ^
                                    Nat.min
                                      (Int.toNat
                                        (IntKind.wrap IntKind.u64 (IntKind.wrap IntKind.i64 ((2 : Int) * (↑i : Int)))))
                                      (64 : Nat))) &&&
                              BitVec.ofInt (64 : Nat) (3 : Int))) :
                        Int))),
                V.slc (1 : Nat) [] Own.tight,
                V.int IntKind.u32
                  (IntKind.wrap IntKind.u32
                    (IntKind.wrap IntKind.i64
                      ((4294967295 : Int) -
                        IntKind.wrap IntKind.i64
                          (↑(BitVec.toNat
                                (BitVec.ofInt (64 : Nat)
                                    (Int.fdiv m
                                      ((2 : Int) ^
                                        Nat.min
                                          (Int.toNat
                                            (IntKind.wrap IntKind.u64
                                              (IntKind.wrap IntKind.i64 ((8 : Int) + (↑i : Int)))))
                                          (64 : Nat))) &&&
                                  BitVec.ofInt (64 : Nat) (3 : Int))) :
                            Int)))),
                V.slc (1 : Nat) [] Own.tight])]
        (gR i ds) [Key.loc (88 : Nat) (0 : Nat), Key.loc (1088 : Nat) (0 : Nat)]]) := by kernel_rfl
theorem tz0s (n m ve lo : Int) (C : FuncId → Option Contract) : bodyP C F15 cl22a b22_0 (tS0 n m ve lo) [.b true, .b false, .b true] =
    some
  (St.mk
      [((0 : Nat), V.int IntKind.i64 n), ((1 : Nat), V.int IntKind.i64 m),
        ((4 : Nat), V.ptr (Key.loc (4 : Nat) (0 : Nat)) (0 : Nat)),
        ((5 : Nat), V.ptr (Key.loc (5 : Nat) (0 : Nat)) (0 : Nat)), ((6 : Nat), V.int IntKind.i64 (1 : Int))]
      [(Key.loc (4 : Nat) (0 : Nat),
          Ev.Obj.cells
            [V.int IntKind.u32 (0 : Int), V.slc (36 : Nat) [] Own.tight, V.slc (2 : Nat) [] Own.tight,
              V.int IntKind.u32 (0 : Int)]),
        (Key.loc (5 : Nat) (0 : Nat),
          Ev.Obj.cells
            [V.int IntKind.u32 ve, V.rowv (Key.loc (1088 : Nat) (0 : Nat)) (36 : Nat) (0 : Nat) (1 : Nat),
              V.slc (2 : Nat) [] Own.tight, V.int IntKind.u32 lo]),
        (Key.loc (1088 : Nat) (0 : Nat),
          Obj.row
            [V.int IntKind.u8 (IntKind.wrap IntKind.u8 (Int.fdiv m (1 : Int))), V.int IntKind.u8 (0 : Int),
              V.int IntKind.u8 (0 : Int), V.int IntKind.u8 (0 : Int), V.int IntKind.u8 (0 : Int),
              V.int IntKind.u8 (0 : Int), V.int IntKind.u8 (0 : Int), V.int IntKind.u8 (0 : Int),
              V.int IntKind.u8 (0 : Int), V.int IntKind.u8 (0 : Int), V.int IntKind.u8 (0 : Int),
              V.int IntKind.u8 (0 : Int), V.int IntKind.u8 (0 : Int), V.int IntKind.u8 (0 : Int),
              V.int IntKind.u8 (0 : Int), V.int IntKind.u8 (0 : Int), V.int IntKind.u8 (0 : Int),
              V.int IntKind.u8 (0 : Int), V.int IntKind.u8 (0 : Int), V.int IntKind.u8 (0 : Int),
              V.int IntKind.u8 (0 : Int), V.int IntKind.u8 (0 : Int), V.int IntKind.u8 (0 : Int),
              V.int IntKind.u8 (0 : Int), V.int IntKind.u8 (0 : Int), V.int IntKind.u8 (0 : Int),
              V.int IntKind.u8 (0 : Int), V.int IntKind.u8 (0 : Int), V.int IntKind.u8 (0 : Int),
              V.int IntKind.u8 (0 : Int), V.int IntKind.u8 (0 : Int), V.int IntKind.u8 (0 : Int),
              V.int IntKind.u32
                (IntKind.wrap IntKind.u32
                  (IntKind.wrap IntKind.i64
                    (↑(BitVec.toNat
                          (BitVec.ofInt (64 : Nat) (Int.fdiv m (1 : Int)) &&& BitVec.ofInt (64 : Nat) (3 : Int))) :
                      Int))),
              V.slc (1 : Nat) [V.int IntKind.u8 (IntKind.wrap IntKind.u8 (Int.fdiv m (16 : Int)))] Own.none,
              V.int IntKind.u32
                (IntKind.wrap IntKind.u32
                  (IntKind.wrap IntKind.i64
                    ((4294967295 : Int) -
                      IntKind.wrap IntKind.i64
                        (↑(BitVec.toNat
                              (BitVec.ofInt (64 : Nat) (Int.fdiv m (256 : Int)) &&&
                                BitVec.ofInt (64 : Nat) (3 : Int))) :
                          Int)))),
              V.slc (1 : Nat) [] Own.none])],
    [decide
          ((0 : Int) <
            IntKind.wrap IntKind.i64
              (IntKind.wrap IntKind.i64
                  (↑(BitVec.toNat
                        (BitVec.ofInt (64 : Nat) (Int.fdiv n (256 : Int)) &&& BitVec.ofInt (64 : Nat) (3 : Int))) :
                    Int) +
                (1 : Int))) =
        true,
      (IntKind.wrap IntKind.i64
            (↑(BitVec.toNat (BitVec.ofInt (64 : Nat) (Int.fdiv m (4096 : Int)) &&& BitVec.ofInt (64 : Nat) (3 : Int))) :
              Int) ==
          (0 : Int)) =
        false,
      (IntKind.wrap IntKind.i64
            (↑(BitVec.toNat
                  (BitVec.ofInt (64 : Nat) (Int.fdiv m (262144 : Int)) &&& BitVec.ofInt (64 : Nat) (3 : Int))) :
              Int) ==
          (0 : Int)) =
        true]) := by kernel_rfl
theorem tb0s (n m ve lo : Int) (cs ds : List V) (i : Nat) (C : FuncId → Option Contract) : bodyP C F15 cl22a b22_0 (tS n m ve lo cs i) [.b true, .sh, .sh, .sh, .sh, .b false, .b true, .act (gR i ds) [.loc 88 0, .loc 1088 0]] =
    some
  (St.mk
      [((0 : Nat), V.int IntKind.i64 n), ((1 : Nat), V.int IntKind.i64 m),
        ((4 : Nat), V.ptr (Key.loc (4 : Nat) (0 : Nat)) (0 : Nat)),
        ((5 : Nat), V.ptr (Key.loc (5 : Nat) (0 : Nat)) (0 : Nat)),
        ((6 : Nat), V.int IntKind.i64 (IntKind.wrap IntKind.i64 ((↑i : Int) + (1 : Int))))]
      [(Key.loc (4 : Nat) (0 : Nat),
          Ev.Obj.cells
            [V.int IntKind.u32 (0 : Int), V.slc (36 : Nat) [] Own.tight, V.slc (2 : Nat) [] Own.tight,
              V.int IntKind.u32 (0 : Int)]),
        (Key.loc (5 : Nat) (0 : Nat),
          Ev.Obj.cells
            [V.int IntKind.u32 ve, V.rowv (Key.loc (1088 : Nat) (0 : Nat)) (36 : Nat) (0 : Nat) (i + (1 : Nat)),
              V.slc (2 : Nat) [] Own.tight, V.int IntKind.u32 lo]),
        (Key.loc (1088 : Nat) (0 : Nat), Obj.row ds)],
    [decide
          ((↑i : Int) <
            IntKind.wrap IntKind.i64
              (IntKind.wrap IntKind.i64
                  (↑(BitVec.toNat
                        (BitVec.ofInt (64 : Nat) (Int.fdiv n (256 : Int)) &&& BitVec.ofInt (64 : Nat) (3 : Int))) :
                    Int) +
                (1 : Int))) =
        true,
      (0 : Int) ≤ IntKind.wrap IntKind.u64 (IntKind.wrap IntKind.i64 ((2 : Int) * (↑i : Int))),
      (0 : Int) ≤ IntKind.wrap IntKind.u64 (IntKind.wrap IntKind.i64 ((8 : Int) + (↑i : Int))),
      (0 : Int) ≤ IntKind.wrap IntKind.u64 (IntKind.wrap IntKind.i64 ((3 : Int) * (↑i : Int))),
      (0 : Int) ≤ IntKind.wrap IntKind.u64 (IntKind.wrap IntKind.i64 ((12 : Int) + (↑i : Int))),
      (IntKind.wrap IntKind.i64
            (↑(BitVec.toNat
                  (BitVec.ofInt (64 : Nat)
                      (Int.fdiv m
                        ((2 : Int) ^
                          Nat.min
                            (Int.toNat (IntKind.wrap IntKind.u64 (IntKind.wrap IntKind.i64 ((12 : Int) + (↑i : Int)))))
                            (64 : Nat))) &&&
                    BitVec.ofInt (64 : Nat) (3 : Int))) :
              Int) ==
          (0 : Int)) =
        false,
      (IntKind.wrap IntKind.i64
            (↑(BitVec.toNat
                  (BitVec.ofInt (64 : Nat) (Int.fdiv m (262144 : Int)) &&& BitVec.ofInt (64 : Nat) (3 : Int))) :
              Int) ==
          (0 : Int)) =
        true,
      appendIs (36 : Nat) (96 : Nat) (88 : Nat) (V.rowv (Key.loc (1088 : Nat) (0 : Nat)) (36 : Nat) (0 : Nat) i)
        (V.slc (36 : Nat)
          [V.agg
              [V.int IntKind.u8
                  (IntKind.wrap IntKind.u8
                    (Int.fdiv m
                      ((2 : Int) ^
                        Nat.min
                          (Int.toNat (IntKind.wrap IntKind.u64 (IntKind.wrap IntKind.i64 ((3 : Int) * (↑i : Int)))))
                          (64 : Nat)))),
                V.int IntKind.u8 (0 : Int), V.int IntKind.u8 (0 : Int), V.int IntKind.u8 (0 : Int),
                V.int IntKind.u8 (0 : Int), V.int IntKind.u8 (0 : Int), V.int IntKind.u8 (0 : Int),
                V.int IntKind.u8 (0 : Int), V.int IntKind.u8 (0 : Int), V.int IntKind.u8 (0 : Int),
                V.int IntKind.u8 (0 : Int), V.int IntKind.u8 (0 : Int), V.int IntKind.u8 (0 : Int),
                V.int IntKind.u8 (0 : Int), V.int IntKind.u8 (0 : Int), V.int IntKind.u8 (0 : Int),
                V.int IntKind.u8 (0 : Int), V.int IntKind.u8 (0 : Int), V.int IntKind.u8 (0 : Int),
                V.int IntKind.u8 (0 : Int), V.int IntKind.u8 (0 : Int), V.int IntKind.u8 (0 : Int),
                V.int IntKind.u8 (0 : Int), V.int IntKind.u8 (0 : Int), V.int IntKind.u8 (0 : Int),
                V.int IntKind.u8 (0 : Int), V.int IntKind.u8 (0 : Int), V.int IntKind.u8 (0 : Int),
                V.int IntKind.u8 (0 : Int), V.int IntKind.u8 (0 : Int), V.int IntKind.u8 (0 : Int),
                V.int IntKind.u8 (IntKind.wrap IntKind.u8 (↑i : Int)),
                V.int IntKind.u32
                  (IntKind.wrap IntKind.u32
                    (IntKind.wrap IntKind.i64
                      (↑(BitVec.toNat
                            (BitVec.ofInt (64 : Nat)
                                (Int.fdiv m
                                  ((2 : Int) ^
                                    Nat.min
                                      (Int.toNat
                                        (IntKind.wrap IntKind.u64 (IntKind.wrap IntKind.i64 ((2 : Int) * (↑i : Int)))))
                                      (64 : Nat))) &&&
                              BitVec.ofInt (64 : Nat) (3 : Int))) :
                        Int))),
                V.slc (1 : Nat) [V.int IntKind.u8 (IntKind.wrap IntKind.u8 (Int.fdiv m (16 : Int)))] Own.none,
                V.int IntKind.u32
                  (IntKind.wrap IntKind.u32
                    (IntKind.wrap IntKind.i64
                      ((4294967295 : Int) -
                        IntKind.wrap IntKind.i64
                          (↑(BitVec.toNat
                                (BitVec.ofInt (64 : Nat)
                                    (Int.fdiv m
                                      ((2 : Int) ^
                                        Nat.min
                                          (Int.toNat
                                            (IntKind.wrap IntKind.u64
                                              (IntKind.wrap IntKind.i64 ((8 : Int) + (↑i : Int)))))
                                          (64 : Nat))) &&&
                                  BitVec.ofInt (64 : Nat) (3 : Int))) :
                            Int)))),
                V.slc (1 : Nat) [] Own.none]]
          Own.tight)
        [(Key.loc (4 : Nat) (0 : Nat), Ev.Obj.cells z4),
          (Key.loc (5 : Nat) (0 : Nat),
            Ev.Obj.cells
              [V.int IntKind.u32 ve, V.rowv (Key.loc (1088 : Nat) (0 : Nat)) (36 : Nat) (0 : Nat) i,
                V.slc (2 : Nat) [] Own.tight, V.int IntKind.u32 lo]),
          (Key.loc (1088 : Nat) (0 : Nat), Obj.row cs),
          (Key.loc (7 : Nat) (0 : Nat),
            Ev.Obj.cells
              [V.int IntKind.u8
                  (IntKind.wrap IntKind.u8
                    (Int.fdiv m
                      ((2 : Int) ^
                        Nat.min
                          (Int.toNat (IntKind.wrap IntKind.u64 (IntKind.wrap IntKind.i64 ((3 : Int) * (↑i : Int)))))
                          (64 : Nat)))),
                V.int IntKind.u8 (0 : Int), V.int IntKind.u8 (0 : Int), V.int IntKind.u8 (0 : Int),
                V.int IntKind.u8 (0 : Int), V.int IntKind.u8 (0 : Int), V.int IntKind.u8 (0 : Int),
                V.int IntKind.u8 (0 : Int), V.int IntKind.u8 (0 : Int), V.int IntKind.u8 (0 : Int),
                V.int IntKind.u8 (0 : Int), V.int IntKind.u8 (0 : Int), V.int IntKind.u8 (0 : Int),
                V.int IntKind.u8 (0 : Int), V.int IntKind.u8 (0 : Int), V.int IntKind.u8 (0 : Int),
                V.int IntKind.u8 (0 : Int), V.int IntKind.u8 (0 : Int), V.int IntKind.u8 (0 : Int),
                V.int IntKind.u8 (0 : Int), V.int IntKind.u8 (0 : Int), V.int IntKind.u8 (0 : Int),
                V.int IntKind.u8 (0 : Int), V.int IntKind.u8 (0 : Int), V.int IntKind.u8 (0 : Int),
                V.int IntKind.u8 (0 : Int), V.int IntKind.u8 (0 : Int), V.int IntKind.u8 (0 : Int),
                V.int IntKind.u8 (0 : Int), V.int IntKind.u8 (0 : Int), V.int IntKind.u8 (0 : Int),
                V.int IntKind.u8 (IntKind.wrap IntKind.u8 (↑i : Int)),
                V.int IntKind.u32
                  (IntKind.wrap IntKind.u32
                    (IntKind.wrap IntKind.i64
                      (↑(BitVec.toNat
                            (BitVec.ofInt (64 : Nat)
                                (Int.fdiv m
                                  ((2 : Int) ^
                                    Nat.min
                                      (Int.toNat
                                        (IntKind.wrap IntKind.u64 (IntKind.wrap IntKind.i64 ((2 : Int) * (↑i : Int)))))
                                      (64 : Nat))) &&&
                              BitVec.ofInt (64 : Nat) (3 : Int))) :
                        Int))),
                V.slc (1 : Nat) [V.int IntKind.u8 (IntKind.wrap IntKind.u8 (Int.fdiv m (16 : Int)))] Own.tight,
                V.int IntKind.u32
                  (IntKind.wrap IntKind.u32
                    (IntKind.wrap IntKind.i64
                      ((4294967295 : Int) -
                        IntKind.wrap IntKind.i64
                          (↑(BitVec.toNat
                                (BitVec.ofInt (64 : Nat)
                                    (Int.fdiv m
                                      ((2 : Int) ^
                                        Nat.min
                                          (Int.toNat
                                            (IntKind.wrap IntKind.u64
                                              (IntKind.wrap IntKind.i64 ((8 : Int) + (↑i : Int)))))
                                          (64 : Nat))) &&&
                                  BitVec.ofInt (64 : Nat) (3 : Int))) :
                            Int)))),
                V.slc (1 : Nat) [] Own.tight])]
        (gR i ds) [Key.loc (88 : Nat) (0 : Nat), Key.loc (1088 : Nat) (0 : Nat)]]) := by kernel_rfl
theorem tz1n (n m ve lo : Int) (C : FuncId → Option Contract) : bodyP C F15 cl22a b22_0 (tS0 n m ve lo) [.b true, .b true, .cut 0 1 none, .b false] =
    some
  (St.mk
      [((0 : Nat), V.int IntKind.i64 n), ((1 : Nat), V.int IntKind.i64 m),
        ((4 : Nat), V.ptr (Key.loc (4 : Nat) (0 : Nat)) (0 : Nat)),
        ((5 : Nat), V.ptr (Key.loc (5 : Nat) (0 : Nat)) (0 : Nat)), ((6 : Nat), V.int IntKind.i64 (1 : Int))]
      [(Key.loc (4 : Nat) (0 : Nat),
          Ev.Obj.cells
            [V.int IntKind.u32 (0 : Int), V.slc (36 : Nat) [] Own.tight, V.slc (2 : Nat) [] Own.tight,
              V.int IntKind.u32 (0 : Int)]),
        (Key.loc (5 : Nat) (0 : Nat),
          Ev.Obj.cells
            [V.int IntKind.u32 ve, V.rowv (Key.loc (1088 : Nat) (0 : Nat)) (36 : Nat) (0 : Nat) (1 : Nat),
              V.slc (2 : Nat) [] Own.tight, V.int IntKind.u32 lo]),
        (Key.loc (1088 : Nat) (0 : Nat),
          Obj.row
            [V.int IntKind.u8 (IntKind.wrap IntKind.u8 (Int.fdiv m (1 : Int))), V.int IntKind.u8 (0 : Int),
              V.int IntKind.u8 (0 : Int), V.int IntKind.u8 (0 : Int), V.int IntKind.u8 (0 : Int),
              V.int IntKind.u8 (0 : Int), V.int IntKind.u8 (0 : Int), V.int IntKind.u8 (0 : Int),
              V.int IntKind.u8 (0 : Int), V.int IntKind.u8 (0 : Int), V.int IntKind.u8 (0 : Int),
              V.int IntKind.u8 (0 : Int), V.int IntKind.u8 (0 : Int), V.int IntKind.u8 (0 : Int),
              V.int IntKind.u8 (0 : Int), V.int IntKind.u8 (0 : Int), V.int IntKind.u8 (0 : Int),
              V.int IntKind.u8 (0 : Int), V.int IntKind.u8 (0 : Int), V.int IntKind.u8 (0 : Int),
              V.int IntKind.u8 (0 : Int), V.int IntKind.u8 (0 : Int), V.int IntKind.u8 (0 : Int),
              V.int IntKind.u8 (0 : Int), V.int IntKind.u8 (0 : Int), V.int IntKind.u8 (0 : Int),
              V.int IntKind.u8 (0 : Int), V.int IntKind.u8 (0 : Int), V.int IntKind.u8 (0 : Int),
              V.int IntKind.u8 (0 : Int), V.int IntKind.u8 (0 : Int), V.int IntKind.u8 (0 : Int),
              V.int IntKind.u32
                (IntKind.wrap IntKind.u32
                  (IntKind.wrap IntKind.i64
                    (↑(BitVec.toNat
                          (BitVec.ofInt (64 : Nat) (Int.fdiv m (1 : Int)) &&& BitVec.ofInt (64 : Nat) (3 : Int))) :
                      Int))),
              V.slc (1 : Nat) [] Own.none,
              V.int IntKind.u32
                (IntKind.wrap IntKind.u32
                  (IntKind.wrap IntKind.i64
                    ((4294967295 : Int) -
                      IntKind.wrap IntKind.i64
                        (↑(BitVec.toNat
                              (BitVec.ofInt (64 : Nat) (Int.fdiv m (256 : Int)) &&&
                                BitVec.ofInt (64 : Nat) (3 : Int))) :
                          Int)))),
              V.slc (1 : Nat) [V.slc (1 : Nat) [V.int IntKind.u8 (IntKind.wrap IntKind.u8 m)] Own.none] Own.none])],
    [decide
          ((0 : Int) <
            IntKind.wrap IntKind.i64
              (IntKind.wrap IntKind.i64
                  (↑(BitVec.toNat
                        (BitVec.ofInt (64 : Nat) (Int.fdiv n (256 : Int)) &&& BitVec.ofInt (64 : Nat) (3 : Int))) :
                    Int) +
                (1 : Int))) =
        true,
      (IntKind.wrap IntKind.i64
            (↑(BitVec.toNat (BitVec.ofInt (64 : Nat) (Int.fdiv m (4096 : Int)) &&& BitVec.ofInt (64 : Nat) (3 : Int))) :
              Int) ==
          (0 : Int)) =
        true,
      cut (2 : Nat) none
          (some
            (V.int IntKind.i64
              (IntKind.wrap IntKind.i64
                (IntKind.wrap IntKind.i64
                    (↑(BitVec.toNat
                          (BitVec.ofInt (64 : Nat) (Int.fdiv m (65536 : Int)) &&& BitVec.ofInt (64 : Nat) (1 : Int))) :
                      Int) +
                  (1 : Int)))))
          none =
        some ((0 : Nat), (1 : Nat), none),
      (IntKind.wrap IntKind.i64
            (↑(BitVec.toNat
                  (BitVec.ofInt (64 : Nat) (Int.fdiv m (262144 : Int)) &&& BitVec.ofInt (64 : Nat) (3 : Int))) :
              Int) ==
          (0 : Int)) =
        false]) := by kernel_rfl
theorem tb1n (n m ve lo : Int) (cs ds : List V) (i : Nat) (C : FuncId → Option Contract) : bodyP C F15 cl22a b22_0 (tS n m ve lo cs i) [.b true, .sh, .sh, .sh, .sh, .b true, .cut 0 1 none, .b false, .act (gR i ds) [.loc 88 0, .loc 1088 0]] =
    some
  (St.mk
      [((0 : Nat), V.int IntKind.i64 n), ((1 : Nat), V.int IntKind.i64 m),
        ((4 : Nat), V.ptr (Key.loc (4 : Nat) (0 : Nat)) (0 : Nat)),
        ((5 : Nat), V.ptr (Key.loc (5 : Nat) (0 : Nat)) (0 : Nat)),
        ((6 : Nat), V.int IntKind.i64 (IntKind.wrap IntKind.i64 ((↑i : Int) + (1 : Int))))]
      [(Key.loc (4 : Nat) (0 : Nat),
          Ev.Obj.cells
            [V.int IntKind.u32 (0 : Int), V.slc (36 : Nat) [] Own.tight, V.slc (2 : Nat) [] Own.tight,
              V.int IntKind.u32 (0 : Int)]),
        (Key.loc (5 : Nat) (0 : Nat),
          Ev.Obj.cells
            [V.int IntKind.u32 ve, V.rowv (Key.loc (1088 : Nat) (0 : Nat)) (36 : Nat) (0 : Nat) (i + (1 : Nat)),
              V.slc (2 : Nat) [] Own.tight, V.int IntKind.u32 lo]),
        (Key.loc (1088 : Nat) (0 : Nat), Obj.row ds)],
    [decide
          ((↑i : Int) <
            IntKind.wrap IntKind.i64
              (IntKind.wrap IntKind.i64
                  (↑(BitVec.toNat
                        (BitVec.ofInt (64 : Nat) (Int.fdiv n (256 : Int)) &&& BitVec.ofInt (64 : Nat) (3 : Int))) :
                    Int) +
                (1 : Int))) =
        true,
      (0 : Int) ≤ IntKind.wrap IntKind.u64 (IntKind.wrap IntKind.i64 ((2 : Int) * (↑i : Int))),
      (0 : Int) ≤ IntKind.wrap IntKind.u64 (IntKind.wrap IntKind.i64 ((8 : Int) + (↑i : Int))),
      (0 : Int) ≤ IntKind.wrap IntKind.u64 (IntKind.wrap IntKind.i64 ((3 : Int) * (↑i : Int))),
      (0 : Int) ≤ IntKind.wrap IntKind.u64 (IntKind.wrap IntKind.i64 ((12 : Int) + (↑i : Int))),
      (IntKind.wrap IntKind.i64
            (↑(BitVec.toNat
                  (BitVec.ofInt (64 : Nat)
                      (Int.fdiv m
                        ((2 : Int) ^
                          Nat.min
                            (Int.toNat (IntKind.wrap IntKind.u64 (IntKind.wrap IntKind.i64 ((12 : Int) + (↑i : Int)))))
                            (64 : Nat))) &&&
                    BitVec.ofInt (64 : Nat) (3 : Int))) :
              Int) ==
          (0 : Int)) =
        true,
      cut (2 : Nat) none
          (some
            (V.int IntKind.i64
              (IntKind.wrap IntKind.i64
                (IntKind.wrap IntKind.i64
                    (↑(BitVec.toNat
                          (BitVec.ofInt (64 : Nat) (Int.fdiv m (65536 : Int)) &&& BitVec.ofInt (64 : Nat) (1 : Int))) :
                      Int) +
                  (1 : Int)))))
          none =
        some ((0 : Nat), (1 : Nat), none),
      (IntKind.wrap IntKind.i64
            (↑(BitVec.toNat
                  (BitVec.ofInt (64 : Nat) (Int.fdiv m (262144 : Int)) &&& BitVec.ofInt (64 : Nat) (3 : Int))) :
              Int) ==
          (0 : Int)) =
        false,
      appendIs (36 : Nat) (96 : Nat) (88 : Nat) (V.rowv (Key.loc (1088 : Nat) (0 : Nat)) (36 : Nat) (0 : Nat) i)
        (V.slc (36 : Nat)
          [V.agg
              [V.int IntKind.u8
                  (IntKind.wrap IntKind.u8
                    (Int.fdiv m
                      ((2 : Int) ^
                        Nat.min
                          (Int.toNat (IntKind.wrap IntKind.u64 (IntKind.wrap IntKind.i64 ((3 : Int) * (↑i : Int)))))
                          (64 : Nat)))),
                V.int IntKind.u8 (0 : Int), V.int IntKind.u8 (0 : Int), V.int IntKind.u8 (0 : Int),
                V.int IntKind.u8 (0 : Int), V.int IntKind.u8 (0 : Int), V.int IntKind.u8 (0 : Int),
                V.int IntKind.u8 (0 : Int), V.int IntKind.u8 (0 : Int), V.int IntKind.u8 (0 : Int),
                V.int IntKind.u8 (0 : Int), V.int IntKind.u8 (0 : Int), V.int IntKind.u8 (0 : Int),
                V.int IntKind.u8 (0 : Int), V.int IntKind.u8 (0 : Int), V.int IntKind.u8 (0 : Int),
                V.int IntKind.u8 (0 : Int), V.int IntKind.u8 (0 : Int), V.int IntKind.u8 (0 : Int),
                V.int IntKind.u8 (0 : Int), V.int IntKind.u8 (0 : Int), V.int IntKind.u8 (0 : Int),
                V.int IntKind.u8 (0 : Int), V.int IntKind.u8 (0 : Int), V.int IntKind.u8 (0 : Int),
                V.int IntKind.u8 (0 : Int), V.int IntKind.u8 (0 : Int), V.int IntKind.u8 (0 : Int),
                V.int IntKind.u8 (0 : Int), V.int IntKind.u8 (0 : Int), V.int IntKind.u8 (0 : Int),
                V.int IntKind.u8 (IntKind.wrap IntKind.u8 (↑i : Int)),
                V.int IntKind.u32
                  (IntKind.wrap IntKind.u32
                    (IntKind.wrap IntKind.i64
                      (↑(BitVec.toNat
                            (BitVec.ofInt (64 : Nat)
                                (Int.fdiv m
                                  ((2 : Int) ^
                                    Nat.min
                                      (Int.toNat
                                        (IntKind.wrap IntKind.u64 (IntKind.wrap IntKind.i64 ((2 : Int) * (↑i : Int)))))
                                      (64 : Nat))) &&&
                              BitVec.ofInt (64 : Nat) (3 : Int))) :
                        Int))),
                V.slc (1 : Nat) [] Own.none,
                V.int IntKind.u32
                  (IntKind.wrap IntKind.u32
                    (IntKind.wrap IntKind.i64
                      ((4294967295 : Int) -
                        IntKind.wrap IntKind.i64
                          (↑(BitVec.toNat
                                (BitVec.ofInt (64 : Nat)
                                    (Int.fdiv m
                                      ((2 : Int) ^
                                        Nat.min
                                          (Int.toNat
                                            (IntKind.wrap IntKind.u64
                                              (IntKind.wrap IntKind.i64 ((8 : Int) + (↑i : Int)))))
                                          (64 : Nat))) &&&
                                  BitVec.ofInt (64 : Nat) (3 : Int))) :
                            Int)))),
                V.slc (1 : Nat) [V.slc (1 : Nat) [V.int IntKind.u8 (IntKind.wrap IntKind.u8 m)] Own.none] Own.none]]
          Own.tight)
        [(Key.loc (4 : Nat) (0 : Nat), Ev.Obj.cells z4),
          (Key.loc (5 : Nat) (0 : Nat),
            Ev.Obj.cells
              [V.int IntKind.u32 ve, V.rowv (Key.loc (1088 : Nat) (0 : Nat)) (36 : Nat) (0 : Nat) i,
                V.slc (2 : Nat) [] Own.tight, V.int IntKind.u32 lo]),
          (Key.loc (1088 : Nat) (0 : Nat), Obj.row cs),
          (Key.loc (7 : Nat) (0 : Nat),
            Ev.Obj.cells
              [V.int IntKind.u8
                  (IntKind.wrap IntKind.u8
                    (Int.fdiv m
                      ((2 : Int) ^
                        Nat.min
                          (Int.toNat (IntKind.wrap IntKind.u64 (IntKind.wrap IntKind.i64 ((3 : Int) * (↑i : Int)))))
                          (64 : Nat)))),
                V.int IntKind.u8 (0 : Int), V.int IntKind.u8 (0 : Int), V.int IntKind.u8 (0 : Int),
                V.int IntKind.u8 (0 : Int), V.int IntKind.u8 (0 : Int), V.int IntKind.u8 (0 : Int),
                V.int IntKind.u8 (0 : Int), V.int IntKind.u8 (0 : Int), V.int IntKind.u8 (0 : Int),
                V.int IntKind.u8 (0 : Int), V.int IntKind.u8 (0 : Int), V.int IntKind.u8 (0 : Int),
                V.int IntKind.u8 (0 : Int), V.int IntKind.u8 (0 : Int), V.int IntKind.u8 (0 : Int),
                V.int IntKind.u8 (0 : Int), V.int IntKind.u8 (0 : Int), V.int IntKind.u8 (0 : Int),
                V.int IntKind.u8 (0 : Int), V.int IntKind.u8 (0 : Int), V.int IntKind.u8 (0 : Int),
                V.int IntKind.u8 (0 : Int), V.int IntKind.u8 (0 : Int), V.int IntKind.u8 (0 : Int),
                V.int IntKind.u8 (0 : Int), V.int IntKind.u8 (0 : Int), V.int IntKind.u8 (0 : Int),
                V.int IntKind.u8 (0 : Int), V.int IntKind.u8 (0 : Int), V.int IntKind.u8 (0 : Int),
                V.int IntKind.u8 (IntKind.wrap IntKind.u8 (↑i : Int)),
                V.int IntKind.u32
                  (IntKind.wrap IntKind.u32
                    (IntKind.wrap IntKind.i64
                      (↑(BitVec.toNat
                            (BitVec.ofInt (64 : Nat)
                                (Int.fdiv m
                                  ((2 : Int) ^
                                    Nat.min
                                      (Int.toNat
                                        (IntKind.wrap IntKind.u64 (IntKind.wrap IntKind.i64 ((2 : Int) * (↑i : Int)))))
                                      (64 : Nat))) &&&
                              BitVec.ofInt (64 : Nat) (3 : Int))) :
                        Int))),
                V.slc (1 : Nat) [] Own.tight,
                V.int IntKind.u32
                  (IntKind.wrap IntKind.u32
                    (IntKind.wrap IntKind.i64
                      ((4294967295 : Int) -
                        IntKind.wrap IntKind.i64
                          (↑(BitVec.toNat
                                (BitVec.ofInt (64 : Nat)
                                    (Int.fdiv m
                                      ((2 : Int) ^
                                        Nat.min
                                          (Int.toNat
                                            (IntKind.wrap IntKind.u64
                                              (IntKind.wrap IntKind.i64 ((8 : Int) + (↑i : Int)))))
                                          (64 : Nat))) &&&
                                  BitVec.ofInt (64 : Nat) (3 : Int))) :
                            Int)))),
                V.slc (1 : Nat) [V.slc (1 : Nat) [V.int IntKind.u8 (IntKind.wrap IntKind.u8 m)] Own.none] Own.none])]
        (gR i ds) [Key.loc (88 : Nat) (0 : Nat), Key.loc (1088 : Nat) (0 : Nat)]]) := by kernel_rfl
theorem tz1s (n m ve lo : Int) (C : FuncId → Option Contract) : bodyP C F15 cl22a b22_0 (tS0 n m ve lo) [.b true, .b true, .cut 0 1 none, .b true] =
    some
  (St.mk
      [((0 : Nat), V.int IntKind.i64 n), ((1 : Nat), V.int IntKind.i64 m),
        ((4 : Nat), V.ptr (Key.loc (4 : Nat) (0 : Nat)) (0 : Nat)),
        ((5 : Nat), V.ptr (Key.loc (5 : Nat) (0 : Nat)) (0 : Nat)), ((6 : Nat), V.int IntKind.i64 (1 : Int))]
      [(Key.loc (4 : Nat) (0 : Nat),
          Ev.Obj.cells
            [V.int IntKind.u32 (0 : Int), V.slc (36 : Nat) [] Own.tight, V.slc (2 : Nat) [] Own.tight,
              V.int IntKind.u32 (0 : Int)]),
        (Key.loc (5 : Nat) (0 : Nat),
          Ev.Obj.cells
            [V.int IntKind.u32 ve, V.rowv (Key.loc (1088 : Nat) (0 : Nat)) (36 : Nat) (0 : Nat) (1 : Nat),
              V.slc (2 : Nat) [] Own.tight, V.int IntKind.u32 lo]),
        (Key.loc (1088 : Nat) (0 : Nat),
          Obj.row
            [V.int IntKind.u8 (IntKind.wrap IntKind.u8 (Int.fdiv m (1 : Int))), V.int IntKind.u8 (0 : Int),
              V.int IntKind.u8 (0 : Int), V.int IntKind.u8 (0 : Int), V.int IntKind.u8 (0 : Int),
              V.int IntKind.u8 (0 : Int), V.int IntKind.u8 (0 : Int), V.int IntKind.u8 (0 : Int),
              V.int IntKind.u8 (0 : Int), V.int IntKind.u8 (0 : Int), V.int IntKind.u8 (0 : Int),
              V.int IntKind.u8 (0 : Int), V.int IntKind.u8 (0 : Int), V.int IntKind.u8 (0 : Int),
              V.int IntKind.u8 (0 : Int), V.int IntKind.u8 (0 : Int), V.int IntKind.u8 (0 : Int),
              V.int IntKind.u8 (0 : Int), V.int IntKind.u8 (0 : Int), V.int IntKind.u8 (0 : Int),
              V.int IntKind.u8 (0 : Int), V.int IntKind.u8 (0 : Int), V.int IntKind.u8 (0 : Int),
              V.int IntKind.u8 (0 : Int), V.int IntKind.u8 (0 : Int), V.int IntKind.u8 (0 : Int),
              V.int IntKind.u8 (0 : Int), V.int IntKind.u8 (0 : Int), V.int IntKind.u8 (0 : Int),
              V.int IntKind.u8 (0 : Int), V.int IntKind.u8 (0 : Int), V.int IntKind.u8 (0 : Int),
              V.int IntKind.u32
                (IntKind.wrap IntKind.u32
                  (IntKind.wrap IntKind.i64
                    (↑(BitVec.toNat
                          (BitVec.ofInt (64 : Nat) (Int.fdiv m (1 : Int)) &&& BitVec.ofInt (64 : Nat) (3 : Int))) :
                      Int))),
              V.slc (1 : Nat) [V.int IntKind.u8 (IntKind.wrap IntKind.u8 (Int.fdiv m (16 : Int)))] Own.none,
              V.int IntKind.u32
                (IntKind.wrap IntKind.u32
                  (IntKind.wrap IntKind.i64
                    ((4294967295 : Int) -
                      IntKind.wrap IntKind.i64
                        (↑(BitVec.toNat
                              (BitVec.ofInt (64 : Nat) (Int.fdiv m (256 : Int)) &&&
                                BitVec.ofInt (64 : Nat) (3 : Int))) :
                          Int)))),
              V.slc (1 : Nat) [V.slc (1 : Nat) [V.int IntKind.u8 (IntKind.wrap IntKind.u8 m)] Own.none] Own.none])],
    [decide
          ((0 : Int) <
            IntKind.wrap IntKind.i64
              (IntKind.wrap IntKind.i64
                  (↑(BitVec.toNat
                        (BitVec.ofInt (64 : Nat) (Int.fdiv n (256 : Int)) &&& BitVec.ofInt (64 : Nat) (3 : Int))) :
                    Int) +
                (1 : Int))) =
        true,
      (IntKind.wrap IntKind.i64
            (↑(BitVec.toNat (BitVec.ofInt (64 : Nat) (Int.fdiv m (4096 : Int)) &&& BitVec.ofInt (64 : Nat) (3 : Int))) :
              Int) ==
          (0 : Int)) =
        true,
      cut (2 : Nat) none
          (some
            (V.int IntKind.i64
              (IntKind.wrap IntKind.i64
                (IntKind.wrap IntKind.i64
                    (↑(BitVec.toNat
                          (BitVec.ofInt (64 : Nat) (Int.fdiv m (65536 : Int)) &&& BitVec.ofInt (64 : Nat) (1 : Int))) :
                      Int) +
                  (1 : Int)))))
          none =
        some ((0 : Nat), (1 : Nat), none),
      (IntKind.wrap IntKind.i64
            (↑(BitVec.toNat
                  (BitVec.ofInt (64 : Nat) (Int.fdiv m (262144 : Int)) &&& BitVec.ofInt (64 : Nat) (3 : Int))) :
              Int) ==
          (0 : Int)) =
        true]) := by kernel_rfl
theorem tb1s (n m ve lo : Int) (cs ds : List V) (i : Nat) (C : FuncId → Option Contract) : bodyP C F15 cl22a b22_0 (tS n m ve lo cs i) [.b true, .sh, .sh, .sh, .sh, .b true, .cut 0 1 none, .b true, .act (gR i ds) [.loc 88 0, .loc 1088 0]] =
    some
  (St.mk
      [((0 : Nat), V.int IntKind.i64 n), ((1 : Nat), V.int IntKind.i64 m),
        ((4 : Nat), V.ptr (Key.loc (4 : Nat) (0 : Nat)) (0 : Nat)),
        ((5 : Nat), V.ptr (Key.loc (5 : Nat) (0 : Nat)) (0 : Nat)),
        ((6 : Nat), V.int IntKind.i64 (IntKind.wrap IntKind.i64 ((↑i : Int) + (1 : Int))))]
      [(Key.loc (4 : Nat) (0 : Nat),
          Ev.Obj.cells
            [V.int IntKind.u32 (0 : Int), V.slc (36 : Nat) [] Own.tight, V.slc (2 : Nat) [] Own.tight,
              V.int IntKind.u32 (0 : Int)]),
        (Key.loc (5 : Nat) (0 : Nat),
          Ev.Obj.cells
            [V.int IntKind.u32 ve, V.rowv (Key.loc (1088 : Nat) (0 : Nat)) (36 : Nat) (0 : Nat) (i + (1 : Nat)),
              V.slc (2 : Nat) [] Own.tight, V.int IntKind.u32 lo]),
        (Key.loc (1088 : Nat) (0 : Nat), Obj.row ds)],
    [decide
          ((↑i : Int) <
            IntKind.wrap IntKind.i64
              (IntKind.wrap IntKind.i64
                  (↑(BitVec.toNat
                        (BitVec.ofInt (64 : Nat) (Int.fdiv n (256 : Int)) &&& BitVec.ofInt (64 : Nat) (3 : Int))) :
                    Int) +
                (1 : Int))) =
        true,
      (0 : Int) ≤ IntKind.wrap IntKind.u64 (IntKind.wrap IntKind.i64 ((2 : Int) * (↑i : Int))),
      (0 : Int) ≤ IntKind.wrap IntKind.u64 (IntKind.wrap IntKind.i64 ((8 : Int) + (↑i : Int))),
      (0 : Int) ≤ IntKind.wrap IntKind.u64 (IntKind.wrap IntKind.i64 ((3 : Int) * (↑i : Int))),
      (0 : Int) ≤ IntKind.wrap IntKind.u64 (IntKind.wrap IntKind.i64 ((12 : Int) + (↑i : Int))),
      (IntKind.wrap IntKind.i64
            (↑(BitVec.toNat
                  (BitVec.ofInt (64 : Nat)
                      (Int.fdiv m
                        ((2 : Int) ^
                          Nat.min
                            (Int.toNat (IntKind.wrap IntKind.u64 (IntKind.wrap IntKind.i64 ((12 : Int) + (↑i : Int)))))
                            (64 : Nat))) &&&
                    BitVec.ofInt (64 : Nat) (3 : Int))) :
              Int) ==
          (0 : Int)) =
        true,
      cut (2 : Nat) none
          (some
            (V.int IntKind.i64
              (IntKind.wrap IntKind.i64
                (IntKind.wrap IntKind.i64
                    (↑(BitVec.toNat
                          (BitVec.ofInt (64 : Nat) (Int.fdiv m (65536 : Int)) &&& BitVec.ofInt (64 : Nat) (1 : Int))) :
                      Int) +
                  (1 : Int)))))
          none =
        some ((0 : Nat), (1 : Nat), none),
      (IntKind.wrap IntKind.i64
            (↑(BitVec.toNat
                  (BitVec.ofInt (64 : Nat) (Int.fdiv m (262144 : Int)) &&& BitVec.ofInt (64 : Nat) (3 : Int))) :
              Int) ==
          (0 : Int)) =
        true,
      appendIs (36 : Nat) (96 : Nat) (88 : Nat) (V.rowv (Key.loc (1088 : Nat) (0 : Nat)) (36 : Nat) (0 : Nat) i)
        (V.slc (36 : Nat)
          [V.agg
              [V.int IntKind.u8
                  (IntKind.wrap IntKind.u8
                    (Int.fdiv m
                      ((2 : Int) ^
                        Nat.min
                          (Int.toNat (IntKind.wrap IntKind.u64 (IntKind.wrap IntKind.i64 ((3 : Int) * (↑i : Int)))))
                          (64 : Nat)))),
                V.int IntKind.u8 (0 : Int), V.int IntKind.u8 (0 : Int), V.int IntKind.u8 (0 : Int),
                V.int IntKind.u8 (0 : Int), V.int IntKind.u8 (0 : Int), V.int IntKind.u8 (0 : Int),
                V.int IntKind.u8 (0 : Int), V.int IntKind.u8 (0 : Int), V.int IntKind.u8 (0 : Int),
                V.int IntKind.u8 (0 : Int), V.int IntKind.u8 (0 : Int), V.int IntKind.u8 (0 : Int),
                V.int IntKind.u8 (0 : Int), V.int IntKind.u8 (0 : Int), V.int IntKind.u8 (0 : Int),
                V.int IntKind.u8 (0 : Int), V.int IntKind.u8 (0 : Int), V.int IntKind.u8 (0 : Int),
                V.int IntKind.u8 (0 : Int), V.int IntKind.u8 (0 : Int), V.int IntKind.u8 (0 : Int),
                V.int IntKind.u8 (0 : Int), V.int IntKind.u8 (0 : Int), V.int IntKind.u8 (0 : Int),
                V.int IntKind.u8 (0 : Int), V.int IntKind.u8 (0 : Int), V.int IntKind.u8 (0 : Int),
                V.int IntKind.u8 (0 : Int), V.int IntKind.u8 (0 : Int), V.int IntKind.u8 (0 : Int),
                V.int IntKind.u8 (IntKind.wrap IntKind.u8 (↑i : Int)),
                V.int IntKind.u32
                  (IntKind.wrap IntKind.u32
                    (IntKind.wrap IntKind.i64
                      (↑(BitVec.toNat
                            (BitVec.ofInt (64 : Nat)
                                (Int.fdiv m
                                  ((2 : Int) ^
                                    Nat.min
                                      (Int.toNat
                                        (IntKind.wrap IntKind.u64 (IntKind.wrap IntKind.i64 ((2 : Int) * (↑i : Int)))))
                                      (64 : Nat))) &&&
                              BitVec.ofInt (64 : Nat) (3 : Int))) :
                        Int))),
                V.slc (1 : Nat) [V.int IntKind.u8 (IntKind.wrap IntKind.u8 (Int.fdiv m (16 : Int)))] Own.none,
                V.int IntKind.u32
                  (IntKind.wrap IntKind.u32
                    (IntKind.wrap IntKind.i64
                      ((4294967295 : Int) -
                        IntKind.wrap IntKind.i64
                          (↑(BitVec.toNat
                                (BitVec.ofInt (64 : Nat)
                                    (Int.fdiv m
                                      ((2 : Int) ^
                                        Nat.min
                                          (Int.toNat
                                            (IntKind.wrap IntKind.u64
                                              (IntKind.wrap IntKind.i64 ((8 : Int) + (↑i : Int)))))
                                          (64 : Nat))) &&&
                                  BitVec.ofInt (64 : Nat) (3 : Int))) :
                            Int)))),
                V.slc (1 : Nat) [V.slc (1 : Nat) [V.int IntKind.u8 (IntKind.wrap IntKind.u8 m)] Own.none] Own.none]]
          Own.tight)
        [(Key.loc (4 : Nat) (0 : Nat), Ev.Obj.cells z4),
          (Key.loc (5 : Nat) (0 : Nat),
            Ev.Obj.cells
              [V.int IntKind.u32 ve, V.rowv (Key.loc (1088 : Nat) (0 : Nat)) (36 : Nat) (0 : Nat) i,
                V.slc (2 : Nat) [] Own.tight, V.int IntKind.u32 lo]),
          (Key.loc (1088 : Nat) (0 : Nat), Obj.row cs),
          (Key.loc (7 : Nat) (0 : Nat),
            Ev.Obj.cells
              [V.int IntKind.u8
                  (IntKind.wrap IntKind.u8
                    (Int.fdiv m
                      ((2 : Int) ^
                        Nat.min
                          (Int.toNat (IntKind.wrap IntKind.u64 (IntKind.wrap IntKind.i64 ((3 : Int) * (↑i : Int)))))
                          (64 : Nat)))),
                V.int IntKind.u8 (0 : Int), V.int IntKind.u8 (0 : Int), V.int IntKind.u8 (0 : Int),
                V.int IntKind.u8 (0 : Int), V.int IntKind.u8 (0 : Int), V.int IntKind.u8 (0 : Int),
                V.int IntKind.u8 (0 : Int), V.int IntKind.u8 (0 : Int), V.int IntKind.u8 (0 : Int),
                V.int IntKind.u8 (0 : Int), V.int IntKind.u8 (0 : Int), V.int IntKind.u8 (0 : Int),
                V.int IntKind.u8 (0 : Int), V.int IntKind.u8 (0 : Int), V.int IntKind.u8 (0 : Int),
                V.int IntKind.u8 (0 : Int), V.int IntKind.u8 (0 : Int), V.int IntKind.u8 (0 : Int),
                V.int IntKind.u8 (0 : Int), V.int IntKind.u8 (0 : Int), V.int IntKind.u8 (0 : Int),
                V.int IntKind.u8 (0 : Int), V.int IntKind.u8 (0 : Int), V.int IntKind.u8 (0 : Int),
                V.int IntKind.u8 (0 : Int), V.int IntKind.u8 (0 : Int), V.int IntKind.u8 (0 : Int),
                V.int IntKind.u8 (0 : Int), V.int IntKind.u8 (0 : Int), V.int IntKind.u8 (0 : Int),
                V.int IntKind.u8 (IntKind.wrap IntKind.u8 (↑i : Int)),
                V.int IntKind.u32
                  (IntKind.wrap IntKind.u32
                    (IntKind.wrap IntKind.i64
                      (↑(BitVec.toNat
                            (BitVec.ofInt (64 : Nat)
                                (Int.fdiv m
                                  ((2 : Int) ^
                                    Nat.min
                                      (Int.toNat
                                        (IntKind.wrap IntKind.u64 (IntKind.wrap IntKind.i64 ((2 : Int) * (↑i : Int)))))
                                      (64 : Nat))) &&&
                              BitVec.ofInt (64 : Nat) (3 : Int))) :
                        Int))),
                V.slc (1 : Nat) [V.int IntKind.u8 (IntKind.wrap IntKind.u8 (Int.fdiv m (16 : Int)))] Own.tight,
                V.int IntKind.u32
                  (IntKind.wrap IntKind.u32
                    (IntKind.wrap IntKind.i64
                      ((4294967295 : Int) -
                        IntKind.wrap IntKind.i64
                          (↑(BitVec.toNat
                                (BitVec.ofInt (64 : Nat)
                                    (Int.fdiv m
                                      ((2 : Int) ^
                                        Nat.min
                                          (Int.toNat
                                            (IntKind.wrap IntKind.u64
                                              (IntKind.wrap IntKind.i64 ((8 : Int) + (↑i : Int)))))
                                          (64 : Nat))) &&&
                                  BitVec.ofInt (64 : Nat) (3 : Int))) :
                            Int)))),
                V.slc (1 : Nat) [V.slc (1 : Nat) [V.int IntKind.u8 (IntKind.wrap IntKind.u8 m)] Own.none] Own.none])]
        (gR i ds) [Key.loc (88 : Nat) (0 : Nat), Key.loc (1088 : Nat) (0 : Nat)]]) := by kernel_rfl
theorem tz2n (n m ve lo : Int) (C : FuncId → Option Contract) : bodyP C F15 cl22a b22_0 (tS0 n m ve lo) [.b true, .b true, .cut 0 2 none, .b false] =
    some
  (St.mk
      [((0 : Nat), V.int IntKind.i64 n), ((1 : Nat), V.int IntKind.i64 m),
        ((4 : Nat), V.ptr (Key.loc (4 : Nat) (0 : Nat)) (0 : Nat)),
        ((5 : Nat), V.ptr (Key.loc (5 : Nat) (0 : Nat)) (0 : Nat)), ((6 : Nat), V.int IntKind.i64 (1 : Int))]
      [(Key.loc (4 : Nat) (0 : Nat),
          Ev.Obj.cells
            [V.int IntKind.u32 (0 : Int), V.slc (36 : Nat) [] Own.tight, V.slc (2 : Nat) [] Own.tight,
              V.int IntKind.u32 (0 : Int)]),
        (Key.loc (5 : Nat) (0 : Nat),
          Ev.Obj.cells
            [V.int IntKind.u32 ve, V.rowv (Key.loc (1088 : Nat) (0 : Nat)) (36 : Nat) (0 : Nat) (1 : Nat),
              V.slc (2 : Nat) [] Own.tight, V.int IntKind.u32 lo]),
        (Key.loc (1088 : Nat) (0 : Nat),
          Obj.row
            [V.int IntKind.u8 (IntKind.wrap IntKind.u8 (Int.fdiv m (1 : Int))), V.int IntKind.u8 (0 : Int),
              V.int IntKind.u8 (0 : Int), V.int IntKind.u8 (0 : Int), V.int IntKind.u8 (0 : Int),
              V.int IntKind.u8 (0 : Int), V.int IntKind.u8 (0 : Int), V.int IntKind.u8 (0 : Int),
              V.int IntKind.u8 (0 : Int), V.int IntKind.u8 (0 : Int), V.int IntKind.u8 (0 : Int),
              V.int IntKind.u8 (0 : Int), V.int IntKind.u8 (0 : Int), V.int IntKind.u8 (0 : Int),
              V.int IntKind.u8 (0 : Int), V.int IntKind.u8 (0 : Int), V.int IntKind.u8 (0 : Int),
              V.int IntKind.u8 (0 : Int), V.int IntKind.u8 (0 : Int), V.int IntKind.u8 (0 : Int),
              V.int IntKind.u8 (0 : Int), V.int IntKind.u8 (0 : Int), V.int IntKind.u8 (0 : Int),
              V.int IntKind.u8 (0 : Int), V.int IntKind.u8 (0 : Int), V.int IntKind.u8 (0 : Int),
              V.int IntKind.u8 (0 : Int), V.int IntKind.u8 (0 : Int), V.int IntKind.u8 (0 : Int),
              V.int IntKind.u8 (0 : Int), V.int IntKind.u8 (0 : Int), V.int IntKind.u8 (0 : Int),
              V.int IntKind.u32
                (IntKind.wrap IntKind.u32
                  (IntKind.wrap IntKind.i64
                    (↑(BitVec.toNat
                          (BitVec.ofInt (64 : Nat) (Int.fdiv m (1 : Int)) &&& BitVec.ofInt (64 : Nat) (3 : Int))) :
                      Int))),
              V.slc (1 : Nat) [] Own.none,
              V.int IntKind.u32
                (IntKind.wrap IntKind.u32
                  (IntKind.wrap IntKind.i64
                    ((4294967295 : Int) -
                      IntKind.wrap IntKind.i64
                        (↑(BitVec.toNat
                              (BitVec.ofInt (64 : Nat) (Int.fdiv m (256 : Int)) &&&
                                BitVec.ofInt (64 : Nat) (3 : Int))) :
                          Int)))),
              V.slc (1 : Nat)
                [V.slc (1 : Nat) [V.int IntKind.u8 (IntKind.wrap IntKind.u8 m)] Own.none, V.slc (1 : Nat) [] Own.none]
                Own.none])],
    [decide
          ((0 : Int) <
            IntKind.wrap IntKind.i64
              (IntKind.wrap IntKind.i64
                  (↑(BitVec.toNat
                        (BitVec.ofInt (64 : Nat) (Int.fdiv n (256 : Int)) &&& BitVec.ofInt (64 : Nat) (3 : Int))) :
                    Int) +
                (1 : Int))) =
        true,
      (IntKind.wrap IntKind.i64
            (↑(BitVec.toNat (BitVec.ofInt (64 : Nat) (Int.fdiv m (4096 : Int)) &&& BitVec.ofInt (64 : Nat) (3 : Int))) :
              Int) ==
          (0 : Int)) =
        true,
      cut (2 : Nat) none
          (some
            (V.int IntKind.i64
              (IntKind.wrap IntKind.i64
                (IntKind.wrap IntKind.i64
                    (↑(BitVec.toNat
                          (BitVec.ofInt (64 : Nat) (Int.fdiv m (65536 : Int)) &&& BitVec.ofInt (64 : Nat) (1 : Int))) :
                      Int) +
                  (1 : Int)))))
          none =
        some ((0 : Nat), (2 : Nat), none),
      (IntKind.wrap IntKind.i64
            (↑(BitVec.toNat
                  (BitVec.ofInt (64 : Nat) (Int.fdiv m (262144 : Int)) &&& BitVec.ofInt (64 : Nat) (3 : Int))) :
              Int) ==
          (0 : Int)) =
        false]) := by kernel_rfl
theorem tb2n (n m ve lo : Int) (cs ds : List V) (i : Nat) (C : FuncId → Option Contract) : bodyP C F15 cl22a b22_0 (tS n m ve lo cs i) [.b true, .sh, .sh, .sh, .sh, .b true, .cut 0 2 none, .b false, .act (gR i ds) [.loc 88 0, .loc 1088 0]] =
    some
  (St.mk
      [((0 : Nat), V.int IntKind.i64 n), ((1 : Nat), V.int IntKind.i64 m),
        ((4 : Nat), V.ptr (Key.loc (4 : Nat) (0 : Nat)) (0 : Nat)),
        ((5 : Nat), V.ptr (Key.loc (5 : Nat) (0 : Nat)) (0 : Nat)),
        ((6 : Nat), V.int IntKind.i64 (IntKind.wrap IntKind.i64 ((↑i : Int) + (1 : Int))))]
      [(Key.loc (4 : Nat) (0 : Nat),
          Ev.Obj.cells
            [V.int IntKind.u32 (0 : Int), V.slc (36 : Nat) [] Own.tight, V.slc (2 : Nat) [] Own.tight,
              V.int IntKind.u32 (0 : Int)]),
        (Key.loc (5 : Nat) (0 : Nat),
          Ev.Obj.cells
            [V.int IntKind.u32 ve, V.rowv (Key.loc (1088 : Nat) (0 : Nat)) (36 : Nat) (0 : Nat) (i + (1 : Nat)),
              V.slc (2 : Nat) [] Own.tight, V.int IntKind.u32 lo]),
        (Key.loc (1088 : Nat) (0 : Nat), Obj.row ds)],
    [decide
          ((↑i : Int) <
            IntKind.wrap IntKind.i64
              (IntKind.wrap IntKind.i64
                  (↑(BitVec.toNat
                        (BitVec.ofInt (64 : Nat) (Int.fdiv n (256 : Int)) &&& BitVec.ofInt (64 : Nat) (3 : Int))) :
                    Int) +
                (1 : Int))) =
        true,
      (0 : Int) ≤ IntKind.wrap IntKind.u64 (IntKind.wrap IntKind.i64 ((2 : Int) * (↑i : Int))),
      (0 : Int) ≤ IntKind.wrap IntKind.u64 (IntKind.wrap IntKind.i64 ((8 : Int) + (↑i : Int))),
      (0 : Int) ≤ IntKind.wrap IntKind.u64 (IntKind.wrap IntKind.i64 ((3 : Int) * (↑i : Int))),
      (0 : Int) ≤ IntKind.wrap IntKind.u64 (IntKind.wrap IntKind.i64 ((12 : Int) + (↑i : Int))),
      (IntKind.wrap IntKind.i64
            (↑(BitVec.toNat
                  (BitVec.ofInt (64 : Nat)
                      (Int.fdiv m
                        ((2 : Int) ^
                          Nat.min
                            (Int.toNat (IntKind.wrap IntKind.u64 (IntKind.wrap IntKind.i64 ((12 : Int) + (↑i : Int)))))
                            (64 : Nat))) &&&
                    BitVec.ofInt (64 : Nat) (3 : Int))) :
              Int) ==
          (0 : Int)) =
        true,
      cut (2 : Nat) none
          (some
            (V.int IntKind.i64
              (IntKind.wrap IntKind.i64
                (IntKind.wrap IntKind.i64
                    (↑(BitVec.toNat
                          (BitVec.ofInt (64 : Nat) (Int.fdiv m (65536 : Int)) &&& BitVec.ofInt (64 : Nat) (1 : Int))) :
                      Int) +
                  (1 : Int)))))
          none =
        some ((0 : Nat), (2 : Nat), none),
      (IntKind.wrap IntKind.i64
            (↑(BitVec.toNat
                  (BitVec.ofInt (64 : Nat) (Int.fdiv m (262144 : Int)) &&& BitVec.ofInt (64 : Nat) (3 : Int))) :
              Int) ==
          (0 : Int)) =
        false,
      appendIs (36 : Nat) (96 : Nat) (88 : Nat) (V.rowv (Key.loc (1088 : Nat) (0 : Nat)) (36 : Nat) (0 : Nat) i)
        (V.slc (36 : Nat)
          [V.agg
              [V.int IntKind.u8
                  (IntKind.wrap IntKind.u8
                    (Int.fdiv m
                      ((2 : Int) ^
                        Nat.min
                          (Int.toNat (IntKind.wrap IntKind.u64 (IntKind.wrap IntKind.i64 ((3 : Int) * (↑i : Int)))))
                          (64 : Nat)))),
                V.int IntKind.u8 (0 : Int), V.int IntKind.u8 (0 : Int), V.int IntKind.u8 (0 : Int),
                V.int IntKind.u8 (0 : Int), V.int IntKind.u8 (0 : Int), V.int IntKind.u8 (0 : Int),
                V.int IntKind.u8 (0 : Int), V.int IntKind.u8 (0 : Int), V.int IntKind.u8 (0 : Int),
                V.int IntKind.u8 (0 : Int), V.int IntKind.u8 (0 : Int), V.int IntKind.u8 (0 : Int),
                V.int IntKind.u8 (0 : Int), V.int IntKind.u8 (0 : Int), V.int IntKind.u8 (0 : Int),
                V.int IntKind.u8 (0 : Int), V.int IntKind.u8 (0 : Int), V.int IntKind.u8 (0 : Int),
                V.int IntKind.u8 (0 : Int), V.int IntKind.u8 (0 : Int), V.int IntKind.u8 (0 : Int),
                V.int IntKind.u8 (0 : Int), V.int IntKind.u8 (0 : Int), V.int IntKind.u8 (0 : Int),
                V.int IntKind.u8 (0 : Int), V.int IntKind.u8 (0 : Int), V.int IntKind.u8 (0 : Int),
                V.int IntKind.u8 (0 : Int), V.int IntKind.u8 (0 : Int), V.int IntKind.u8 (0 : Int),
                V.int IntKind.u8 (IntKind.wrap IntKind.u8 (↑i : Int)),
                V.int IntKind.u32
                  (IntKind.wrap IntKind.u32
                    (IntKind.wrap IntKind.i64
                      (↑(BitVec.toNat
                            (BitVec.ofInt (64 : Nat)
                                (Int.fdiv m
                                  ((2 : Int) ^
                                    Nat.min
                                      (Int.toNat
                                        (IntKind.wrap IntKind.u64 (IntKind.wrap IntKind.i64 ((2 : Int) * (↑i : Int)))))
                                      (64 : Nat))) &&&
                              BitVec.ofInt (64 : Nat) (3 : Int))) :
                        Int))),
                V.slc (1 : Nat) [] Own.none,
                V.int IntKind.u32
                  (IntKind.wrap IntKind.u32
                    (IntKind.wrap IntKind.i64
                      ((4294967295 : Int) -
                        IntKind.wrap IntKind.i64
                          (↑(BitVec.toNat
                                (BitVec.ofInt (64 : Nat)
                                    (Int.fdiv m
                                      ((2 : Int) ^
                                        Nat.min
                                          (Int.toNat
                                            (IntKind.wrap IntKind.u64
                                              (IntKind.wrap IntKind.i64 ((8 : Int) + (↑i : Int)))))
                                          (64 : Nat))) &&&
                                  BitVec.ofInt (64 : Nat) (3 : Int))) :
                            Int)))),
                V.slc (1 : Nat)
                  [V.slc (1 : Nat) [V.int IntKind.u8 (IntKind.wrap IntKind.u8 m)] Own.none, V.slc (1 : Nat) [] Own.none]
                  Own.none]]
          Own.tight)
        [(Key.loc (4 : Nat) (0 : Nat), Ev.Obj.cells z4),
          (Key.loc (5 : Nat) (0 : Nat),
            Ev.Obj.cells
              [V.int IntKind.u32 ve, V.rowv (Key.loc (1088 : Nat) (0 : Nat)) (36 : Nat) (0 : Nat) i,
                V.slc (2 : Nat) [] Own.tight, V.int IntKind.u32 lo]),
          (Key.loc (1088 : Nat) (0 : Nat), Obj.row cs),
          (Key.loc (7 : Nat) (0 : Nat),
            Ev.Obj.cells
              [V.int IntKind.u8
                  (IntKind.wrap IntKind.u8
                    (Int.fdiv m
                      ((2 : Int) ^
                        Nat.min
                          (Int.toNat (IntKind.wrap IntKind.u64 (IntKind.wrap IntKind.i64 ((3 : Int) * (↑i : Int)))))
                          (64 : Nat)))),
                V.int IntKind.u8 (0 : Int), V.int IntKind.u8 (0 : Int), V.int IntKind.u8 (0 : Int),
                V.int IntKind.u8 (0 : Int), V.int IntKind.u8 (0 : Int), V.int IntKind.u8 (0 : Int),
                V.int IntKind.u8 (0 : Int), V.int IntKind.u8 (0 : Int), V.int IntKind.u8 (0 : Int),
                V.int IntKind.u8 (0 : Int), V.int IntKind.u8 (0 : Int), V.int IntKind.u8 (0 : Int),
                V.int IntKind.u8 (0 : Int), V.int IntKind.u8 (0 : Int), V.int IntKind.u8 (0 : Int),
                V.int IntKind.u8 (0 : Int), V.int IntKind.u8 (0 : Int), V.int IntKind.u8 (0 : Int),
                V.int IntKind.u8 (0 : Int), V.int IntKind.u8 (0 : Int), V.int IntKind.u8 (0 : Int),
                V.int IntKind.u8 (0 : Int), V.int IntKind.u8 (0 : Int), V.int IntKind.u8 (0 : Int),
                V.int IntKind.u8 (0 : Int), V.int IntKind.u8 (0 : Int), V.int IntKind.u8 (0 : Int),
                V.int IntKind.u8 (0 : Int), V.int IntKind.u8 (0 : Int), V.int IntKind.u8 (0 : Int),
                V.int IntKind.u8 (IntKind.wrap IntKind.u8 (↑i : Int)),
                V.int IntKind.u32
                  (IntKind.wrap IntKind.u32
                    (IntKind.wrap IntKind.i64
                      (↑(BitVec.toNat
                            (BitVec.ofInt (64 : Nat)
                                (Int.fdiv m
                                  ((2 : Int) ^
                                    Nat.min
                                      (Int.toNat
                                        (IntKind.wrap IntKind.u64 (IntKind.wrap IntKind.i64 ((2 : Int) * (↑i : Int)))))
                                      (64 : Nat))) &&&
                              BitVec.ofInt (64 : Nat) (3 : Int))) :
                        Int))),
                V.slc (1 : Nat) [] Own.tight,
                V.int IntKind.u32
                  (IntKind.wrap IntKind.u32
                    (IntKind.wrap IntKind.i64
                      ((4294967295 : Int) -
                        IntKind.wrap IntKind.i64
                          (↑(BitVec.toNat
                                (BitVec.ofInt (64 : Nat)
                                    (Int.fdiv m
                                      ((2 : Int) ^
                                        Nat.min
                                          (Int.toNat
                                            (IntKind.wrap IntKind.u64
                                              (IntKind.wrap IntKind.i64 ((8 : Int) + (↑i : Int)))))
                                          (64 : Nat))) &&&
                                  BitVec.ofInt (64 : Nat) (3 : Int))) :
                            Int)))),
                V.slc (1 : Nat)
                  [V.slc (1 : Nat) [V.int IntKind.u8 (IntKind.wrap IntKind.u8 m)] Own.none, V.slc (1 : Nat) [] Own.none]
                  Own.tight])]
        (gR i ds) [Key.loc (88 : Nat) (0 : Nat), Key.loc (1088 : Nat) (0 : Nat)]]) := by kernel_rfl
theorem tz2s (n m ve lo : Int) (C : FuncId → Option Contract) : bodyP C F15 cl22a b22_0 (tS0 n m ve lo) [.b true, .b true, .cut 0 2 none, .b true] =
    some
  (St.mk
      [((0 : Nat), V.int IntKind.i64 n), ((1 : Nat), V.int IntKind.i64 m),
        ((4 : Nat), V.ptr (Key.loc (4 : Nat) (0 : Nat)) (0 : Nat)),
        ((5 : Nat), V.ptr (Key.loc (5 : Nat) (0 : Nat)) (0 : Nat)), ((6 : Nat), V.int IntKind.i64 (1 : Int))]
      [(Key.loc (4 : Nat) (0 : Nat),
          Ev.Obj.cells
            [V.int IntKind.u32 (0 : Int), V.slc (36 : Nat) [] Own.tight, V.slc (2 : Nat) [] Own.tight,
              V.int IntKind.u32 (0 : Int)]),
        (Key.loc (5 : Nat) (0 : Nat),
          Ev.Obj.cells
            [V.int IntKind.u32 ve, V.rowv (Key.loc (1088 : Nat) (0 : Nat)) (36 : Nat) (0 : Nat) (1 : Nat),
              V.slc (2 : Nat) [] Own.tight, V.int IntKind.u32 lo]),
        (Key.loc (1088 : Nat) (0 : Nat),
          Obj.row
            [V.int IntKind.u8 (IntKind.wrap IntKind.u8 (Int.fdiv m (1 : Int))), V.int IntKind.u8 (0 : Int),
              V.int IntKind.u8 (0 : Int), V.int IntKind.u8 (0 : Int), V.int IntKind.u8 (0 : Int),
              V.int IntKind.u8 (0 : Int), V.int IntKind.u8 (0 : Int), V.int IntKind.u8 (0 : Int),
              V.int IntKind.u8 (0 : Int), V.int IntKind.u8 (0 : Int), V.int IntKind.u8 (0 : Int),
              V.int IntKind.u8 (0 : Int), V.int IntKind.u8 (0 : Int), V.int IntKind.u8 (0 : Int),
              V.int IntKind.u8 (0 : Int), V.int IntKind.u8 (0 : Int), V.int IntKind.u8 (0 : Int),
              V.int IntKind.u8 (0 : Int), V.int IntKind.u8 (0 : Int), V.int IntKind.u8 (0 : Int),
              V.int IntKind.u8 (0 : Int), V.int IntKind.u8 (0 : Int), V.int IntKind.u8 (0 : Int),
              V.int IntKind.u8 (0 : Int), V.int IntKind.u8 (0 : Int), V.int IntKind.u8 (0 : Int),
              V.int IntKind.u8 (0 : Int), V.int IntKind.u8 (0 : Int), V.int IntKind.u8 (0 : Int),
              V.int IntKind.u8 (0 : Int), V.int IntKind.u8 (0 : Int), V.int IntKind.u8 (0 : Int),
              V.int IntKind.u32
                (IntKind.wrap IntKind.u32
                  (IntKind.wrap IntKind.i64
                    (↑(BitVec.toNat
                          (BitVec.ofInt (64 : Nat) (Int.fdiv m (1 : Int)) &&& BitVec.ofInt (64 : Nat) (3 : Int))) :
                      Int))),
              V.slc (1 : Nat) [V.int IntKind.u8 (IntKind.wrap IntKind.u8 (Int.fdiv m (16 : Int)))] Own.none,
              V.int IntKind.u32
                (IntKind.wrap IntKind.u32
                  (IntKind.wrap IntKind.i64
                    ((4294967295 : Int) -
                      IntKind.wrap IntKind.i64
                        (↑(BitVec.toNat
                              (BitVec.ofInt (64 : Nat) (Int.fdiv m (256 : Int)) &&&
                                BitVec.ofInt (64 : Nat) (3 : Int))) :
                          Int)))),
              V.slc (1 : Nat)
                [V.slc (1 : Nat) [V.int IntKind.u8 (IntKind.wrap IntKind.u8 m)] Own.none, V.slc (1 : Nat) [] Own.none]
                Own.none])],
    [decide
          ((0 : Int) <
            IntKind.wrap IntKind.i64
              (IntKind.wrap IntKind.i64
                  (↑(BitVec.toNat
                        (BitVec.ofInt (64 : Nat) (Int.fdiv n (256 : Int)) &&& BitVec.ofInt (64 : Nat) (3 : Int))) :
                    Int) +
                (1 : Int))) =
        true,
      (IntKind.wrap IntKind.i64
            (↑(BitVec.toNat (BitVec.ofInt (64 : Nat) (Int.fdiv m (4096 : Int)) &&& BitVec.ofInt (64 : Nat) (3 : Int))) :
              Int) ==
          (0 : Int)) =
        true,
      cut (2 : Nat) none
          (some
            (V.int IntKind.i64
              (IntKind.wrap IntKind.i64
                (IntKind.wrap IntKind.i64
                    (↑(BitVec.toNat
                          (BitVec.ofInt (64 : Nat) (Int.fdiv m (65536 : Int)) &&& BitVec.ofInt (64 : Nat) (1 : Int))) :
                      Int) +
                  (1 : Int)))))
          none =
        some ((0 : Nat), (2 : Nat), none),
      (IntKind.wrap IntKind.i64
            (↑(BitVec.toNat
                  (BitVec.ofInt (64 : Nat) (Int.fdiv m (262144 : Int)) &&& BitVec.ofInt (64 : Nat) (3 : Int))) :
              Int) ==
          (0 : Int)) =
        true]) := by kernel_rfl
theorem tb2s (n m ve lo : Int) (cs ds : List V) (i : Nat) (C : FuncId → Option Contract) : bodyP C F15 cl22a b22_0 (tS n m ve lo cs i) [.b true, .sh, .sh, .sh, .sh, .b true, .cut 0 2 none, .b true, .act (gR i ds) [.loc 88 0, .loc 1088 0]] =
    some
  (St.mk
      [((0 : Nat), V.int IntKind.i64 n), ((1 : Nat), V.int IntKind.i64 m),
        ((4 : Nat), V.ptr (Key.loc (4 : Nat) (0 : Nat)) (0 : Nat)),
        ((5 : Nat), V.ptr (Key.loc (5 : Nat) (0 : Nat)) (0 : Nat)),
        ((6 : Nat), V.int IntKind.i64 (IntKind.wrap IntKind.i64 ((↑i : Int) + (1 : Int))))]
      [(Key.loc (4 : Nat) (0 : Nat),
          Ev.Obj.cells
            [V.int IntKind.u32 (0 : Int), V.slc (36 : Nat) [] Own.tight, V.slc (2 : Nat) [] Own.tight,
              V.int IntKind.u32 (0 : Int)]),
        (Key.loc (5 : Nat) (0 : Nat),
          Ev.Obj.cells
            [V.int IntKind.u32 ve, V.rowv (Key.loc (1088 : Nat) (0 : Nat)) (36 : Nat) (0 : Nat) (i + (1 : Nat)),
              V.slc (2 : Nat) [] Own.tight, V.int IntKind.u32 lo]),
        (Key.loc (1088 : Nat) (0 : Nat), Obj.row ds)],
    [decide
          ((↑i : Int) <
            IntKind.wrap IntKind.i64
              (IntKind.wrap IntKind.i64
                  (↑(BitVec.toNat
                        (BitVec.ofInt (64 : Nat) (Int.fdiv n (256 : Int)) &&& BitVec.ofInt (64 : Nat) (3 : Int))) :
                    Int) +
                (1 : Int))) =
        true,
      (0 : Int) ≤ IntKind.wrap IntKind.u64 (IntKind.wrap IntKind.i64 ((2 : Int) * (↑i : Int))),
      (0 : Int) ≤ IntKind.wrap IntKind.u64 (IntKind.wrap IntKind.i64 ((8 : Int) + (↑i : Int))),
      (0 : Int) ≤ IntKind.wrap IntKind.u64 (IntKind.wrap IntKind.i64 ((3 : Int) * (↑i : Int))),
      (0 : Int) ≤ IntKind.wrap IntKind.u64 (IntKind.wrap IntKind.i64 ((12 : Int) + (↑i : Int))),
      (IntKind.wrap IntKind.i64
            (↑(BitVec.toNat
                  (BitVec.ofInt (64 : Nat)
                      (Int.fdiv m
                        ((2 : Int) ^
                          Nat.min
                            (Int.toNat (IntKind.wrap IntKind.u64 (IntKind.wrap IntKind.i64 ((12 : Int) + (↑i : Int)))))
                            (64 : Nat))) &&&
                    BitVec.ofInt (64 : Nat) (3 : Int))) :
              Int) ==
          (0 : Int)) =
        true,
      cut (2 : Nat) none
          (some
            (V.int IntKind.i64
              (IntKind.wrap IntKind.i64
                (IntKind.wrap IntKind.i64
                    (↑(BitVec.toNat
                          (BitVec.ofInt (64 : Nat) (Int.fdiv m (65536 : Int)) &&& BitVec.ofInt (64 : Nat) (1 : Int))) :
                      Int) +
                  (1 : Int)))))
          none =
        some ((0 : Nat), (2 : Nat), none),
      (IntKind.wrap IntKind.i64
            (↑(BitVec.toNat
                  (BitVec.ofInt (64 : Nat) (Int.fdiv m (262144 : Int)) &&& BitVec.ofInt (64 : Nat) (3 : Int))) :
              Int) ==
          (0 : Int)) =
        true,
      appendIs (36 : Nat) (96 : Nat) (88 : Nat) (V.rowv (Key.loc (1088 : Nat) (0 : Nat)) (36 : Nat) (0 : Nat) i)
        (V.slc (36 : Nat)
          [V.agg
              [V.int IntKind.u8
                  (IntKind.wrap IntKind.u8
                    (Int.fdiv m
                      ((2 : Int) ^
                        Nat.min
                          (Int.toNat (IntKind.wrap IntKind.u64 (IntKind.wrap IntKind.i64 ((3 : Int) * (↑i : Int)))))
                          (64 : Nat)))),
                V.int IntKind.u8 (0 : Int), V.int IntKind.u8 (0 : Int), V.int IntKind.u8 (0 : Int),
                V.int IntKind.u8 (0 : Int), V.int IntKind.u8 (0 : Int), V.int IntKind.u8 (0 : Int),
                V.int IntKind.u8 (0 : Int), V.int IntKind.u8 (0 : Int), V.int IntKind.u8 (0 : Int),
                V.int IntKind.u8 (0 : Int), V.int IntKind.u8 (0 : Int), V.int IntKind.u8 (0 : Int),
                V.int IntKind.u8 (0 : Int), V.int IntKind.u8 (0 : Int), V.int IntKind.u8 (0 : Int),
                V.int IntKind.u8 (0 : Int), V.int IntKind.u8 (0 : Int), V.int IntKind.u8 (0 : Int),
                V.int IntKind.u8 (0 : Int), V.int IntKind.u8 (0 : Int), V.int IntKind.u8 (0 : Int),
                V.int IntKind.u8 (0 : Int), V.int IntKind.u8 (0 : Int), V.int IntKind.u8 (0 : Int),
                V.int IntKind.u8 (0 : Int), V.int IntKind.u8 (0 : Int), V.int IntKind.u8 (0 : Int),
                V.int IntKind.u8 (0 : Int), V.int IntKind.u8 (0 : Int), V.int IntKind.u8 (0 : Int),
                V.int IntKind.u8 (IntKind.wrap IntKind.u8 (↑i : Int)),
                V.int IntKind.u32
                  (IntKind.wrap IntKind.u32
                    (IntKind.wrap IntKind.i64
                      (↑(BitVec.toNat
                            (BitVec.ofInt (64 : Nat)
                                (Int.fdiv m
                                  ((2 : Int) ^
                                    Nat.min
                                      (Int.toNat
                                        (IntKind.wrap IntKind.u64 (IntKind.wrap IntKind.i64 ((2 : Int) * (↑i : Int)))))
                                      (64 : Nat))) &&&
                              BitVec.ofInt (64 : Nat) (3 : Int))) :
                        Int))),
                V.slc (1 : Nat) [V.int IntKind.u8 (IntKind.wrap IntKind.u8 (Int.fdiv m (16 : Int)))] Own.none,
                V.int IntKind.u32
                  (IntKind.wrap IntKind.u32
                    (IntKind.wrap IntKind.i64
                      ((4294967295 : Int) -
                        IntKind.wrap IntKind.i64
                          (↑(BitVec.toNat
                                (BitVec.ofInt (64 : Nat)
                                    (Int.fdiv m
                                      ((2 : Int) ^
                                        Nat.min
                                          (Int.toNat
                                            (IntKind.wrap IntKind.u64
                                              (IntKind.wrap IntKind.i64 ((8 : Int) + (↑i : Int)))))
                                          (64 : Nat))) &&&
                                  BitVec.ofInt (64 : Nat) (3 : Int))) :
                            Int)))),
                V.slc (1 : Nat)
                  [V.slc (1 : Nat) [V.int IntKind.u8 (IntKind.wrap IntKind.u8 m)] Own.none, V.slc (1 : Nat) [] Own.none]
                  Own.none]]
          Own.tight)
        [(Key.loc (4 : Nat) (0 : Nat), Ev.Obj.cells z4),
          (Key.loc (5 : Nat) (0 : Nat),
            Ev.Obj.cells
              [V.int IntKind.u32 ve, V.rowv (Key.loc (1088 : Nat) (0 : Nat)) (36 : Nat) (0 : Nat) i,
                V.slc (2 : Nat) [] Own.tight, V.int IntKind.u32 lo]),
          (Key.loc (1088 : Nat) (0 : Nat), Obj.row cs),
          (Key.loc (7 : Nat) (0 : Nat),
            Ev.Obj.cells
              [V.int IntKind.u8
                  (IntKind.wrap IntKind.u8
                    (Int.fdiv m
                      ((2 : Int) ^
                        Nat.min
                          (Int.toNat (IntKind.wrap IntKind.u64 (IntKind.wrap IntKind.i64 ((3 : Int) * (↑i : Int)))))
                          (64 : Nat)))),
                V.int IntKind.u8 (0 : Int), V.int IntKind.u8 (0 : Int), V.int IntKind.u8 (0 : Int),
                V.int IntKind.u8 (0 : Int), V.int IntKind.u8 (0 : Int), V.int IntKind.u8 (0 : Int),
                V.int IntKind.u8 (0 : Int), V.int IntKind.u8 (0 : Int), V.int IntKind.u8 (0 : Int),
                V.int IntKind.u8 (0 : Int), V.int IntKind.u8 (0 : Int), V.int IntKind.u8 (0 : Int),
                V.int IntKind.u8 (0 : Int), V.int IntKind.u8 (0 : Int), V.int IntKind.u8 (0 : Int),
                V.int IntKind.u8 (0 : Int), V.int IntKind.u8 (0 : Int), V.int IntKind.u8 (0 : Int),
                V.int IntKind.u8 (0 : Int), V.int IntKind.u8 (0 : Int), V.int IntKind.u8 (0 : Int),
                V.int IntKind.u8 (0 : Int), V.int IntKind.u8 (0 : Int), V.int IntKind.u8 (0 : Int),
                V.int IntKind.u8 (0 : Int), V.int IntKind.u8 (0 : Int), V.int IntKind.u8 (0 : Int),
                V.int IntKind.u8 (0 : Int), V.int IntKind.u8 (0 : Int), V.int IntKind.u8 (0 : Int),
                V.int IntKind.u8 (IntKind.wrap IntKind.u8 (↑i : Int)),
                V.int IntKind.u32
                  (IntKind.wrap IntKind.u32
                    (IntKind.wrap IntKind.i64
                      (↑(BitVec.toNat
                            (BitVec.ofInt (64 : Nat)
                                (Int.fdiv m
                                  ((2 : Int) ^
                                    Nat.min
                                      (Int.toNat
                                        (IntKind.wrap IntKind.u64 (IntKind.wrap IntKind.i64 ((2 : Int) * (↑i : Int)))))
                                      (64 : Nat))) &&&
                              BitVec.ofInt (64 : Nat) (3 : Int))) :
                        Int))),
                V.slc (1 : Nat) [V.int IntKind.u8 (IntKind.wrap IntKind.u8 (Int.fdiv m (16 : Int)))] Own.tight,
                V.int IntKind.u32
                  (IntKind.wrap IntKind.u32
                    (IntKind.wrap IntKind.i64
                      ((4294967295 : Int) -
                        IntKind.wrap IntKind.i64
                          (↑(BitVec.toNat
                                (BitVec.ofInt (64 : Nat)
                                    (Int.fdiv m
                                      ((2 : Int) ^
                                        Nat.min
                                          (Int.toNat
                                            (IntKind.wrap IntKind.u64
                                              (IntKind.wrap IntKind.i64 ((8 : Int) + (↑i : Int)))))
                                          (64 : Nat))) &&&
                                  BitVec.ofInt (64 : Nat) (3 : Int))) :
                            Int)))),
                V.slc (1 : Nat)
                  [V.slc (1 : Nat) [V.int IntKind.u8 (IntKind.wrap IntKind.u8 m)] Own.none, V.slc (1 : Nat) [] Own.none]
                  Own.tight])]
        (gR i ds) [Key.loc (88 : Nat) (0 : Nat), Key.loc (1088 : Nat) (0 : Nat)]]) := by kernel_rfl
theorem tx1 (n m ve lo : Int) (cs : List V) (i : Nat) (C : FuncId → Option Contract) : exitP C F15 b22_0 (tS n m ve lo cs i) [.b false] =
    some
  ((Ex.exit (0 : Nat),
      St.mk
        [((27 : Nat),
            V.bool
              (decide
                ((↑i : Int) <
                  IntKind.wrap IntKind.i64
                    (IntKind.wrap IntKind.i64
                        (↑(BitVec.toNat
                              (BitVec.ofInt (64 : Nat) (Int.fdiv n (256 : Int)) &&&
                                BitVec.ofInt (64 : Nat) (3 : Int))) :
                          Int) +
                      (1 : Int))))),
          ((26 : Nat),
            V.int IntKind.i64
              (IntKind.wrap IntKind.i64
                (IntKind.wrap IntKind.i64
                    (↑(BitVec.toNat
                          (BitVec.ofInt (64 : Nat) (Int.fdiv n (256 : Int)) &&& BitVec.ofInt (64 : Nat) (3 : Int))) :
                      Int) +
                  (1 : Int)))),
          ((25 : Nat),
            V.int IntKind.i64
              (IntKind.wrap IntKind.i64
                (↑(BitVec.toNat
                      (BitVec.ofInt (64 : Nat) (Int.fdiv n (256 : Int)) &&& BitVec.ofInt (64 : Nat) (3 : Int))) :
                  Int))),
          ((24 : Nat), V.int IntKind.i64 (Int.fdiv n (256 : Int))), ((23 : Nat), V.int IntKind.i64 n),
          ((22 : Nat), V.int IntKind.i64 (↑i : Int)), ((0 : Nat), V.int IntKind.i64 n),
          ((1 : Nat), V.int IntKind.i64 m), ((4 : Nat), V.ptr (Key.loc (4 : Nat) (0 : Nat)) (0 : Nat)),
          ((5 : Nat), V.ptr (Key.loc (5 : Nat) (0 : Nat)) (0 : Nat)), ((6 : Nat), V.int IntKind.i64 (↑i : Int))]
        [(Key.loc (4 : Nat) (0 : Nat), Ev.Obj.cells z4),
          (Key.loc (5 : Nat) (0 : Nat),
            Ev.Obj.cells
              [V.int IntKind.u32 ve, V.rowv (Key.loc (1088 : Nat) (0 : Nat)) (36 : Nat) (0 : Nat) i,
                V.slc (2 : Nat) [] Own.tight, V.int IntKind.u32 lo]),
          (Key.loc (1088 : Nat) (0 : Nat), Obj.row cs)]),
    [decide
          ((↑i : Int) <
            IntKind.wrap IntKind.i64
              (IntKind.wrap IntKind.i64
                  (↑(BitVec.toNat
                        (BitVec.ofInt (64 : Nat) (Int.fdiv n (256 : Int)) &&& BitVec.ofInt (64 : Nat) (3 : Int))) :
                    Int) +
                (1 : Int))) =
        false]) := by kernel_rfl
def tX (n m ve lo : Int) (cs : List V) (i : Nat) : St := ⟨(27, .bool (decide ((i : Int) < IntKind.i64.wrap (IntKind.i64.wrap (BitVec.ofInt 64 (Int.fdiv n 256) &&& BitVec.ofInt 64 3).toNat + 1)))) :: (26, .int .i64 (IntKind.i64.wrap (IntKind.i64.wrap (BitVec.ofInt 64 (Int.fdiv n 256) &&& BitVec.ofInt 64 3).toNat + 1))) :: (25, .int .i64 (IntKind.i64.wrap (BitVec.ofInt 64 (Int.fdiv n 256) &&& BitVec.ofInt 64 3).toNat)) :: (24, .int .i64 (Int.fdiv n 256)) :: (23, .int .i64 n) :: (22, .int .i64 i) :: (tS n m ve lo cs i).tm, (tS n m ve lo cs i).st⟩
def uS0 (n m ve lo : Int) (N : Nat) (cs : List V) : St := ⟨[(0, .int .i64 n), (1, .int .i64 m), (4, .ptr (.loc 4 0) 0), (5, .ptr (.loc 5 0) 0), (8, .int .i64 0)], [(.loc 4 0, .cells z4), (.loc 5 0, .cells [.int .u32 ve, .rowv (.loc 1088 0) 36 0 N, .slc 2 [] .tight, .int .u32 lo]), (.loc 1088 0, .row cs)]⟩
def uS (n m ve lo : Int) (N : Nat) (cs os : List V) (i : Nat) : St := ⟨[(0, .int .i64 n), (1, .int .i64 m), (4, .ptr (.loc 4 0) 0), (5, .ptr (.loc 5 0) 0), (8, .int .i64 i)], [(.loc 4 0, .cells z4), (.loc 5 0, .cells [.int .u32 ve, .rowv (.loc 1088 0) 36 0 N, .rowv (.loc 1114 0) 2 0 i, .int .u32 lo]), (.loc 1088 0, .row cs), (.loc 1114 0, .row os)]⟩
def gO (i : Nat) (ds : List V) : Ans := ⟨.rowv (.loc 114 0) 2 0 (i + 1), [(.loc 1114 0, .dead), (.loc 114 0, .row ds)]⟩
def cl22b : St → St := cleanRQ [0, 1, 4, 5, 8] [4, 5, 1088, 114] [(114, 1114)]
theorem uz (n m ve lo : Int) (N : Nat) (cs sc : List V) (C : FuncId → Option Contract) : bodyP C F15 cl22b b22_1 (uS0 n m ve lo N cs) [.b true, .call (rowV sc) [] []] =
    some
  (St.mk
      [((0 : Nat), V.int IntKind.i64 n), ((1 : Nat), V.int IntKind.i64 m),
        ((4 : Nat), V.ptr (Key.loc (4 : Nat) (0 : Nat)) (0 : Nat)),
        ((5 : Nat), V.ptr (Key.loc (5 : Nat) (0 : Nat)) (0 : Nat)), ((8 : Nat), V.int IntKind.i64 (1 : Int))]
      [(Key.loc (4 : Nat) (0 : Nat),
          Ev.Obj.cells
            [V.int IntKind.u32 (0 : Int), V.slc (36 : Nat) [] Own.tight, V.slc (2 : Nat) [] Own.tight,
              V.int IntKind.u32 (0 : Int)]),
        (Key.loc (5 : Nat) (0 : Nat),
          Ev.Obj.cells
            [V.int IntKind.u32 ve, V.rowv (Key.loc (1088 : Nat) (0 : Nat)) (36 : Nat) (0 : Nat) N,
              V.rowv (Key.loc (1114 : Nat) (0 : Nat)) (2 : Nat) (0 : Nat) (1 : Nat), V.int IntKind.u32 lo]),
        (Key.loc (1088 : Nat) (0 : Nat), Obj.row cs),
        (Key.loc (1114 : Nat) (0 : Nat),
          Obj.row
            [V.int IntKind.u64
                (IntKind.wrap IntKind.u64
                  (IntKind.wrap IntKind.i64
                    (↑(BitVec.toNat
                          (BitVec.ofInt (64 : Nat) (Int.fdiv n (4096 : Int)) &&&
                            BitVec.ofInt (64 : Nat) (4095 : Int))) :
                      Int))),
              V.slc (1 : Nat) sc Own.none])],
    [decide
          ((0 : Int) <
            IntKind.wrap IntKind.i64
              (IntKind.wrap IntKind.i64
                  (↑(BitVec.toNat
                        (BitVec.ofInt (64 : Nat) (Int.fdiv n (1024 : Int)) &&& BitVec.ofInt (64 : Nat) (3 : Int))) :
                    Int) +
                (1 : Int))) =
        true,
      callIs C (57 : Nat) [V.int IntKind.i64 (Int.fdiv m (1 : Int))] [] (rowV sc) [] []]) := by kernel_rfl
theorem ub (n m ve lo : Int) (N : Nat) (cs os ds sc : List V) (i : Nat) (C : FuncId → Option Contract) : bodyP C F15 cl22b b22_1 (uS n m ve lo N cs os i) [.b true, .sh, .sh, .call (rowV sc) [] [], .act (gO i ds) [.loc 114 0, .loc 1114 0]] =
    some
  (St.mk
      [((0 : Nat), V.int IntKind.i64 n), ((1 : Nat), V.int IntKind.i64 m),
        ((4 : Nat), V.ptr (Key.loc (4 : Nat) (0 : Nat)) (0 : Nat)),
        ((5 : Nat), V.ptr (Key.loc (5 : Nat) (0 : Nat)) (0 : Nat)),
        ((8 : Nat), V.int IntKind.i64 (IntKind.wrap IntKind.i64 ((↑i : Int) + (1 : Int))))]
      [(Key.loc (4 : Nat) (0 : Nat),
          Ev.Obj.cells
            [V.int IntKind.u32 (0 : Int), V.slc (36 : Nat) [] Own.tight, V.slc (2 : Nat) [] Own.tight,
              V.int IntKind.u32 (0 : Int)]),
        (Key.loc (5 : Nat) (0 : Nat),
          Ev.Obj.cells
            [V.int IntKind.u32 ve, V.rowv (Key.loc (1088 : Nat) (0 : Nat)) (36 : Nat) (0 : Nat) N,
              V.rowv (Key.loc (1114 : Nat) (0 : Nat)) (2 : Nat) (0 : Nat) (i + (1 : Nat)), V.int IntKind.u32 lo]),
        (Key.loc (1088 : Nat) (0 : Nat), Obj.row cs), (Key.loc (1114 : Nat) (0 : Nat), Obj.row ds)],
    [decide
          ((↑i : Int) <
            IntKind.wrap IntKind.i64
              (IntKind.wrap IntKind.i64
                  (↑(BitVec.toNat
                        (BitVec.ofInt (64 : Nat) (Int.fdiv n (1024 : Int)) &&& BitVec.ofInt (64 : Nat) (3 : Int))) :
                    Int) +
                (1 : Int))) =
        true,
      (0 : Int) ≤ IntKind.wrap IntKind.u64 (IntKind.wrap IntKind.i64 ((12 : Int) + (↑i : Int))),
      (0 : Int) ≤ IntKind.wrap IntKind.u64 (↑i : Int),
      callIs C (57 : Nat)
        [V.int IntKind.i64
            (Int.fdiv m ((2 : Int) ^ Nat.min (Int.toNat (IntKind.wrap IntKind.u64 (↑i : Int))) (64 : Nat)))]
        [] (rowV sc) [] [],
      appendIs (2 : Nat) (32 : Nat) (114 : Nat) (V.rowv (Key.loc (1114 : Nat) (0 : Nat)) (2 : Nat) (0 : Nat) i)
        (V.slc (2 : Nat)
          [V.agg
              [V.int IntKind.u64
                  (IntKind.wrap IntKind.u64
                    (IntKind.wrap IntKind.i64
                      (↑(BitVec.toNat
                            (BitVec.ofInt (64 : Nat)
                                (Int.fdiv n
                                  ((2 : Int) ^
                                    Nat.min
                                      (Int.toNat
                                        (IntKind.wrap IntKind.u64 (IntKind.wrap IntKind.i64 ((12 : Int) + (↑i : Int)))))
                                      (64 : Nat))) &&&
                              BitVec.ofInt (64 : Nat) (4095 : Int))) :
                        Int))),
                V.slc (1 : Nat) sc Own.none]]
          Own.tight)
        [(Key.loc (4 : Nat) (0 : Nat), Ev.Obj.cells z4),
          (Key.loc (5 : Nat) (0 : Nat),
            Ev.Obj.cells
              [V.int IntKind.u32 ve, V.rowv (Key.loc (1088 : Nat) (0 : Nat)) (36 : Nat) (0 : Nat) N,
                V.rowv (Key.loc (1114 : Nat) (0 : Nat)) (2 : Nat) (0 : Nat) i, V.int IntKind.u32 lo]),
          (Key.loc (1088 : Nat) (0 : Nat), Obj.row cs), (Key.loc (1114 : Nat) (0 : Nat), Obj.row os)]
        (gO i ds) [Key.loc (114 : Nat) (0 : Nat), Key.loc (1114 : Nat) (0 : Nat)]]) := by kernel_rfl
theorem ux (n m ve lo : Int) (N : Nat) (cs os : List V) (i : Nat) (C : FuncId → Option Contract) : exitP C F15 b22_1 (uS n m ve lo N cs os i) [.b false] =
    some
  ((Ex.exit (2 : Nat),
      St.mk
        [((95 : Nat),
            V.bool
              (decide
                ((↑i : Int) <
                  IntKind.wrap IntKind.i64
                    (IntKind.wrap IntKind.i64
                        (↑(BitVec.toNat
                              (BitVec.ofInt (64 : Nat) (Int.fdiv n (1024 : Int)) &&&
                                BitVec.ofInt (64 : Nat) (3 : Int))) :
                          Int) +
                      (1 : Int))))),
          ((94 : Nat),
            V.int IntKind.i64
              (IntKind.wrap IntKind.i64
                (IntKind.wrap IntKind.i64
                    (↑(BitVec.toNat
                          (BitVec.ofInt (64 : Nat) (Int.fdiv n (1024 : Int)) &&& BitVec.ofInt (64 : Nat) (3 : Int))) :
                      Int) +
                  (1 : Int)))),
          ((93 : Nat),
            V.int IntKind.i64
              (IntKind.wrap IntKind.i64
                (↑(BitVec.toNat
                      (BitVec.ofInt (64 : Nat) (Int.fdiv n (1024 : Int)) &&& BitVec.ofInt (64 : Nat) (3 : Int))) :
                  Int))),
          ((92 : Nat), V.int IntKind.i64 (Int.fdiv n (1024 : Int))), ((91 : Nat), V.int IntKind.i64 n),
          ((90 : Nat), V.int IntKind.i64 (↑i : Int)), ((0 : Nat), V.int IntKind.i64 n),
          ((1 : Nat), V.int IntKind.i64 m), ((4 : Nat), V.ptr (Key.loc (4 : Nat) (0 : Nat)) (0 : Nat)),
          ((5 : Nat), V.ptr (Key.loc (5 : Nat) (0 : Nat)) (0 : Nat)), ((8 : Nat), V.int IntKind.i64 (↑i : Int))]
        [(Key.loc (4 : Nat) (0 : Nat), Ev.Obj.cells z4),
          (Key.loc (5 : Nat) (0 : Nat),
            Ev.Obj.cells
              [V.int IntKind.u32 ve, V.rowv (Key.loc (1088 : Nat) (0 : Nat)) (36 : Nat) (0 : Nat) N,
                V.rowv (Key.loc (1114 : Nat) (0 : Nat)) (2 : Nat) (0 : Nat) i, V.int IntKind.u32 lo]),
          (Key.loc (1088 : Nat) (0 : Nat), Obj.row cs), (Key.loc (1114 : Nat) (0 : Nat), Obj.row os)]),
    [decide
          ((↑i : Int) <
            IntKind.wrap IntKind.i64
              (IntKind.wrap IntKind.i64
                  (↑(BitVec.toNat
                        (BitVec.ofInt (64 : Nat) (Int.fdiv n (1024 : Int)) &&& BitVec.ofInt (64 : Nat) (3 : Int))) :
                    Int) +
                (1 : Int))) =
        false]) := by kernel_rfl
def nU (n : Int) : Int := IntKind.i64.wrap (IntKind.i64.wrap (BitVec.ofInt 64 (Int.fdiv n 1024) &&& BitVec.ofInt 64 3).toNat + 1)
def uX (n m ve lo : Int) (N : Nat) (cs os : List V) (i : Nat) : St := ⟨(95, .bool (decide ((i : Int) < nU n))) :: (94, .int .i64 (nU n)) :: (93, .int .i64 (IntKind.i64.wrap (BitVec.ofInt 64 (Int.fdiv n 1024) &&& BitVec.ofInt 64 3).toNat)) :: (92, .int .i64 (Int.fdiv n 1024)) :: (91, .int .i64 n) :: (90, .int .i64 i) :: (uS n m ve lo N cs os i).tm, (uS n m ve lo N cs os i).st⟩
def an (a b : Int) : Int := IntKind.i64.wrap (BitVec.ofInt 64 a &&& BitVec.ofInt 64 b).toNat
def veO (n : Int) : Int := IntKind.u32.wrap (IntKind.i64.wrap (an n 3 + 1))
def loO (n : Int) : Int := IntKind.u32.wrap (IntKind.i64.wrap (an (Int.fdiv n 4) 1 * an (Int.fdiv n 8) 31))
theorem tr (n m : Int) (cs os : List V) (N M : Nat) (C : FuncId → Option Contract) : a22.runP F15 C [.int .i64 n, .int .i64 m] [] [.loop (.exit 0) (tX n m (veO n) (loO n) cs N), .loop (.exit 2) (uX n m (veO n) (loO n) N cs os M), .fin] =
    some
  ((V.agg
        [V.int IntKind.u32 (veO n), V.rowv (Key.arg (0 : Nat)) (36 : Nat) (0 : Nat) N,
          V.rowv (Key.arg (1 : Nat)) (2 : Nat) (0 : Nat) M, V.int IntKind.u32 (loO n)],
      [], [Obj.row cs, Obj.row os]),
    [evalCode C F15
          (ACode.loopR [(0 : Nat), (1 : Nat), (4 : Nat), (5 : Nat), (6 : Nat)] [(4 : Nat), (5 : Nat), (88 : Nat)]
            [((88 : Nat), (1088 : Nat))] b22_0)
          (St.mk
            [((6 : Nat), V.int IntKind.i64 (0 : Int)), ((5 : Nat), V.ptr (Key.loc (5 : Nat) (0 : Nat)) (0 : Nat)),
              ((21 : Nat),
                V.agg
                  [V.int IntKind.u32
                      (IntKind.wrap IntKind.u32
                        (IntKind.wrap IntKind.i64
                          (IntKind.wrap IntKind.i64
                              (↑(BitVec.toNat (BitVec.ofInt (64 : Nat) n &&& BitVec.ofInt (64 : Nat) (3 : Int))) :
                                Int) +
                            (1 : Int)))),
                    V.slc (36 : Nat) [] Own.tight, V.slc (2 : Nat) [] Own.tight,
                    V.int IntKind.u32
                      (IntKind.wrap IntKind.u32
                        (IntKind.wrap IntKind.i64
                          (IntKind.wrap IntKind.i64
                              (↑(BitVec.toNat
                                    (BitVec.ofInt (64 : Nat) (Int.fdiv n (4 : Int)) &&&
                                      BitVec.ofInt (64 : Nat) (1 : Int))) :
                                Int) *
                            IntKind.wrap IntKind.i64
                              (↑(BitVec.toNat
                                    (BitVec.ofInt (64 : Nat) (Int.fdiv n (8 : Int)) &&&
                                      BitVec.ofInt (64 : Nat) (31 : Int))) :
                                Int))))]),
              ((20 : Nat),
                V.int IntKind.u32
                  (IntKind.wrap IntKind.u32
                    (IntKind.wrap IntKind.i64
                      (IntKind.wrap IntKind.i64
                          (↑(BitVec.toNat
                                (BitVec.ofInt (64 : Nat) (Int.fdiv n (4 : Int)) &&&
                                  BitVec.ofInt (64 : Nat) (1 : Int))) :
                            Int) *
                        IntKind.wrap IntKind.i64
                          (↑(BitVec.toNat
                                (BitVec.ofInt (64 : Nat) (Int.fdiv n (8 : Int)) &&&
                                  BitVec.ofInt (64 : Nat) (31 : Int))) :
                            Int))))),
              ((19 : Nat),
                V.int IntKind.i64
                  (IntKind.wrap IntKind.i64
                    (IntKind.wrap IntKind.i64
                        (↑(BitVec.toNat
                              (BitVec.ofInt (64 : Nat) (Int.fdiv n (4 : Int)) &&& BitVec.ofInt (64 : Nat) (1 : Int))) :
                          Int) *
                      IntKind.wrap IntKind.i64
                        (↑(BitVec.toNat
                              (BitVec.ofInt (64 : Nat) (Int.fdiv n (8 : Int)) &&& BitVec.ofInt (64 : Nat) (31 : Int))) :
                          Int)))),
              ((18 : Nat),
                V.int IntKind.i64
                  (IntKind.wrap IntKind.i64
                    (↑(BitVec.toNat
                          (BitVec.ofInt (64 : Nat) (Int.fdiv n (8 : Int)) &&& BitVec.ofInt (64 : Nat) (31 : Int))) :
                      Int))),
              ((17 : Nat), V.int IntKind.i64 (Int.fdiv n (8 : Int))), ((16 : Nat), V.int IntKind.i64 n),
              ((15 : Nat),
                V.int IntKind.i64
                  (IntKind.wrap IntKind.i64
                    (↑(BitVec.toNat
                          (BitVec.ofInt (64 : Nat) (Int.fdiv n (4 : Int)) &&& BitVec.ofInt (64 : Nat) (1 : Int))) :
                      Int))),
              ((14 : Nat), V.int IntKind.i64 (Int.fdiv n (4 : Int))), ((13 : Nat), V.int IntKind.i64 n),
              ((12 : Nat),
                V.int IntKind.u32
                  (IntKind.wrap IntKind.u32
                    (IntKind.wrap IntKind.i64
                      (IntKind.wrap IntKind.i64
                          (↑(BitVec.toNat (BitVec.ofInt (64 : Nat) n &&& BitVec.ofInt (64 : Nat) (3 : Int))) : Int) +
                        (1 : Int))))),
              ((11 : Nat),
                V.int IntKind.i64
                  (IntKind.wrap IntKind.i64
                    (IntKind.wrap IntKind.i64
                        (↑(BitVec.toNat (BitVec.ofInt (64 : Nat) n &&& BitVec.ofInt (64 : Nat) (3 : Int))) : Int) +
                      (1 : Int)))),
              ((10 : Nat),
                V.int IntKind.i64
                  (IntKind.wrap IntKind.i64
                    (↑(BitVec.toNat (BitVec.ofInt (64 : Nat) n &&& BitVec.ofInt (64 : Nat) (3 : Int))) : Int))),
              ((9 : Nat), V.int IntKind.i64 n), ((4 : Nat), V.ptr (Key.loc (4 : Nat) (0 : Nat)) (0 : Nat)),
              ((0 : Nat), V.int IntKind.i64 n), ((1 : Nat), V.int IntKind.i64 m)]
            [(Key.loc (4 : Nat) (0 : Nat),
                Ev.Obj.cells
                  [V.int IntKind.u32 (0 : Int), V.slc (36 : Nat) [] Own.tight, V.slc (2 : Nat) [] Own.tight,
                    V.int IntKind.u32 (0 : Int)]),
              (Key.loc (5 : Nat) (0 : Nat),
                Ev.Obj.cells
                  [V.int IntKind.u32
                      (IntKind.wrap IntKind.u32
                        (IntKind.wrap IntKind.i64
                          (IntKind.wrap IntKind.i64
                              (↑(BitVec.toNat (BitVec.ofInt (64 : Nat) n &&& BitVec.ofInt (64 : Nat) (3 : Int))) :
                                Int) +
                            (1 : Int)))),
                    V.slc (36 : Nat) [] Own.tight, V.slc (2 : Nat) [] Own.tight,
                    V.int IntKind.u32
                      (IntKind.wrap IntKind.u32
                        (IntKind.wrap IntKind.i64
                          (IntKind.wrap IntKind.i64
                              (↑(BitVec.toNat
                                    (BitVec.ofInt (64 : Nat) (Int.fdiv n (4 : Int)) &&&
                                      BitVec.ofInt (64 : Nat) (1 : Int))) :
                                Int) *
                            IntKind.wrap IntKind.i64
                              (↑(BitVec.toNat
                                    (BitVec.ofInt (64 : Nat) (Int.fdiv n (8 : Int)) &&&
                                      BitVec.ofInt (64 : Nat) (31 : Int))) :
                                Int))))])]) =
        some
          (Ex.exit (0 : Nat),
            St.mk
              [((27 : Nat),
                  V.bool
                    (decide
                      ((↑N : Int) <
                        IntKind.wrap IntKind.i64
                          (IntKind.wrap IntKind.i64
                              (↑(BitVec.toNat
                                    (BitVec.ofInt (64 : Nat) (Int.fdiv n (256 : Int)) &&&
                                      BitVec.ofInt (64 : Nat) (3 : Int))) :
                                Int) +
                            (1 : Int))))),
                ((26 : Nat),
                  V.int IntKind.i64
                    (IntKind.wrap IntKind.i64
                      (IntKind.wrap IntKind.i64
                          (↑(BitVec.toNat
                                (BitVec.ofInt (64 : Nat) (Int.fdiv n (256 : Int)) &&&
                                  BitVec.ofInt (64 : Nat) (3 : Int))) :
                            Int) +
                        (1 : Int)))),
                ((25 : Nat),
                  V.int IntKind.i64
                    (IntKind.wrap IntKind.i64
                      (↑(BitVec.toNat
                            (BitVec.ofInt (64 : Nat) (Int.fdiv n (256 : Int)) &&& BitVec.ofInt (64 : Nat) (3 : Int))) :
                        Int))),
                ((24 : Nat), V.int IntKind.i64 (Int.fdiv n (256 : Int))), ((23 : Nat), V.int IntKind.i64 n),
                ((22 : Nat), V.int IntKind.i64 (↑N : Int)), ((0 : Nat), V.int IntKind.i64 n),
                ((1 : Nat), V.int IntKind.i64 m), ((4 : Nat), V.ptr (Key.loc (4 : Nat) (0 : Nat)) (0 : Nat)),
                ((5 : Nat), V.ptr (Key.loc (5 : Nat) (0 : Nat)) (0 : Nat)), ((6 : Nat), V.int IntKind.i64 (↑N : Int))]
              [(Key.loc (4 : Nat) (0 : Nat), Ev.Obj.cells z4),
                (Key.loc (5 : Nat) (0 : Nat),
                  Ev.Obj.cells
                    [V.int IntKind.u32 (veO n), V.rowv (Key.loc (1088 : Nat) (0 : Nat)) (36 : Nat) (0 : Nat) N,
                      V.slc (2 : Nat) [] Own.tight, V.int IntKind.u32 (loO n)]),
                (Key.loc (1088 : Nat) (0 : Nat), Obj.row cs)]),
      evalCode C F15
          (ACode.loopR [(0 : Nat), (1 : Nat), (4 : Nat), (5 : Nat), (8 : Nat)]
            [(4 : Nat), (5 : Nat), (1088 : Nat), (114 : Nat)] [((114 : Nat), (1114 : Nat))] b22_1)
          (St.mk
            [((8 : Nat), V.int IntKind.i64 (0 : Int)),
              ((27 : Nat),
                V.bool
                  (decide
                    ((↑N : Int) <
                      IntKind.wrap IntKind.i64
                        (IntKind.wrap IntKind.i64
                            (↑(BitVec.toNat
                                  (BitVec.ofInt (64 : Nat) (Int.fdiv n (256 : Int)) &&&
                                    BitVec.ofInt (64 : Nat) (3 : Int))) :
                              Int) +
                          (1 : Int))))),
              ((26 : Nat),
                V.int IntKind.i64
                  (IntKind.wrap IntKind.i64
                    (IntKind.wrap IntKind.i64
                        (↑(BitVec.toNat
                              (BitVec.ofInt (64 : Nat) (Int.fdiv n (256 : Int)) &&&
                                BitVec.ofInt (64 : Nat) (3 : Int))) :
                          Int) +
                      (1 : Int)))),
              ((25 : Nat),
                V.int IntKind.i64
                  (IntKind.wrap IntKind.i64
                    (↑(BitVec.toNat
                          (BitVec.ofInt (64 : Nat) (Int.fdiv n (256 : Int)) &&& BitVec.ofInt (64 : Nat) (3 : Int))) :
                      Int))),
              ((24 : Nat), V.int IntKind.i64 (Int.fdiv n (256 : Int))), ((23 : Nat), V.int IntKind.i64 n),
              ((22 : Nat), V.int IntKind.i64 (↑N : Int)), ((0 : Nat), V.int IntKind.i64 n),
              ((1 : Nat), V.int IntKind.i64 m), ((4 : Nat), V.ptr (Key.loc (4 : Nat) (0 : Nat)) (0 : Nat)),
              ((5 : Nat), V.ptr (Key.loc (5 : Nat) (0 : Nat)) (0 : Nat)), ((6 : Nat), V.int IntKind.i64 (↑N : Int))]
            [(Key.loc (4 : Nat) (0 : Nat), Ev.Obj.cells z4),
              (Key.loc (5 : Nat) (0 : Nat),
                Ev.Obj.cells
                  [V.int IntKind.u32 (veO n), V.rowv (Key.loc (1088 : Nat) (0 : Nat)) (36 : Nat) (0 : Nat) N,
                    V.slc (2 : Nat) [] Own.tight, V.int IntKind.u32 (loO n)]),
              (Key.loc (1088 : Nat) (0 : Nat), Obj.row cs)]) =
        some
          (Ex.exit (2 : Nat),
            St.mk
              [((95 : Nat), V.bool (decide ((↑M : Int) < nU n))), ((94 : Nat), V.int IntKind.i64 (nU n)),
                ((93 : Nat),
                  V.int IntKind.i64
                    (IntKind.wrap IntKind.i64
                      (↑(BitVec.toNat
                            (BitVec.ofInt (64 : Nat) (Int.fdiv n (1024 : Int)) &&& BitVec.ofInt (64 : Nat) (3 : Int))) :
                        Int))),
                ((92 : Nat), V.int IntKind.i64 (Int.fdiv n (1024 : Int))), ((91 : Nat), V.int IntKind.i64 n),
                ((90 : Nat), V.int IntKind.i64 (↑M : Int)), ((0 : Nat), V.int IntKind.i64 n),
                ((1 : Nat), V.int IntKind.i64 m), ((4 : Nat), V.ptr (Key.loc (4 : Nat) (0 : Nat)) (0 : Nat)),
                ((5 : Nat), V.ptr (Key.loc (5 : Nat) (0 : Nat)) (0 : Nat)), ((8 : Nat), V.int IntKind.i64 (↑M : Int))]
              [(Key.loc (4 : Nat) (0 : Nat), Ev.Obj.cells z4),
                (Key.loc (5 : Nat) (0 : Nat),
                  Ev.Obj.cells
                    [V.int IntKind.u32 (veO n), V.rowv (Key.loc (1088 : Nat) (0 : Nat)) (36 : Nat) (0 : Nat) N,
                      V.rowv (Key.loc (1114 : Nat) (0 : Nat)) (2 : Nat) (0 : Nat) M, V.int IntKind.u32 (loO n)]),
                (Key.loc (1088 : Nat) (0 : Nat), Obj.row cs), (Key.loc (1114 : Nat) (0 : Nat), Obj.row os)]),
      keyless [cs, os]]) := by kernel_rfl
theorem sc5 (n : Int) (C : FuncId → Option Contract) : a57.runP F15 C [.int .i64 n] [] [.b false, .b false, .b false, .b false, .b false, .b true] =
    some
  ((V.slc (1 : Nat)
        [V.int IntKind.u8 (81 : Int), V.int IntKind.u8 (32 : Int),
          V.int IntKind.u8 (IntKind.wrap IntKind.u8 (Int.fdiv n (8 : Int))), V.int IntKind.u8 (0 : Int),
          V.int IntKind.u8 (0 : Int), V.int IntKind.u8 (0 : Int), V.int IntKind.u8 (0 : Int),
          V.int IntKind.u8 (0 : Int), V.int IntKind.u8 (0 : Int), V.int IntKind.u8 (0 : Int),
          V.int IntKind.u8 (0 : Int), V.int IntKind.u8 (0 : Int), V.int IntKind.u8 (0 : Int),
          V.int IntKind.u8 (0 : Int), V.int IntKind.u8 (0 : Int), V.int IntKind.u8 (0 : Int),
          V.int IntKind.u8 (0 : Int), V.int IntKind.u8 (0 : Int), V.int IntKind.u8 (0 : Int),
          V.int IntKind.u8 (0 : Int), V.int IntKind.u8 (0 : Int), V.int IntKind.u8 (0 : Int),
          V.int IntKind.u8 (0 : Int), V.int IntKind.u8 (0 : Int), V.int IntKind.u8 (0 : Int),
          V.int IntKind.u8 (0 : Int), V.int IntKind.u8 (0 : Int), V.int IntKind.u8 (0 : Int),
          V.int IntKind.u8 (0 : Int), V.int IntKind.u8 (0 : Int), V.int IntKind.u8 (0 : Int),
          V.int IntKind.u8 (0 : Int), V.int IntKind.u8 (0 : Int), V.int IntKind.u8 (0 : Int)]
        Own.none,
      [], []),
    [(IntKind.wrap IntKind.i64
            (↑(BitVec.toNat (BitVec.ofInt (64 : Nat) n &&& BitVec.ofInt (64 : Nat) (7 : Int))) : Int) ==
          (0 : Int)) =
        false,
      (IntKind.wrap IntKind.i64
            (↑(BitVec.toNat (BitVec.ofInt (64 : Nat) n &&& BitVec.ofInt (64 : Nat) (7 : Int))) : Int) ==
          (1 : Int)) =
        false,
      (IntKind.wrap IntKind.i64
            (↑(BitVec.toNat (BitVec.ofInt (64 : Nat) n &&& BitVec.ofInt (64 : Nat) (7 : Int))) : Int) ==
          (2 : Int)) =
        false,
      (IntKind.wrap IntKind.i64
            (↑(BitVec.toNat (BitVec.ofInt (64 : Nat) n &&& BitVec.ofInt (64 : Nat) (7 : Int))) : Int) ==
          (3 : Int)) =
        false,
      (IntKind.wrap IntKind.i64
            (↑(BitVec.toNat (BitVec.ofInt (64 : Nat) n &&& BitVec.ofInt (64 : Nat) (7 : Int))) : Int) ==
          (4 : Int)) =
        false,
      (IntKind.wrap IntKind.i64
            (↑(BitVec.toNat (BitVec.ofInt (64 : Nat) n &&& BitVec.ofInt (64 : Nat) (7 : Int))) : Int) ==
          (5 : Int)) =
        true]) := by kernel_rfl
theorem sc6 (n : Int) (xs : List V) (l : Nat) (C : FuncId → Option Contract) : a57.runP F15 C [.int .i64 n] [] [.b false, .b false, .b false, .b false, .b false, .b false, .b true, .act ⟨.slc 1 xs (.tok (.loc 32 0) 0), [(.loc 32 0, .tok l)]⟩ [.loc 32 0]] =
    some
  ((V.slc (1 : Nat) xs Own.none, [], []),
    [(IntKind.wrap IntKind.i64
            (↑(BitVec.toNat (BitVec.ofInt (64 : Nat) n &&& BitVec.ofInt (64 : Nat) (7 : Int))) : Int) ==
          (0 : Int)) =
        false,
      (IntKind.wrap IntKind.i64
            (↑(BitVec.toNat (BitVec.ofInt (64 : Nat) n &&& BitVec.ofInt (64 : Nat) (7 : Int))) : Int) ==
          (1 : Int)) =
        false,
      (IntKind.wrap IntKind.i64
            (↑(BitVec.toNat (BitVec.ofInt (64 : Nat) n &&& BitVec.ofInt (64 : Nat) (7 : Int))) : Int) ==
          (2 : Int)) =
        false,
      (IntKind.wrap IntKind.i64
            (↑(BitVec.toNat (BitVec.ofInt (64 : Nat) n &&& BitVec.ofInt (64 : Nat) (7 : Int))) : Int) ==
          (3 : Int)) =
        false,
      (IntKind.wrap IntKind.i64
            (↑(BitVec.toNat (BitVec.ofInt (64 : Nat) n &&& BitVec.ofInt (64 : Nat) (7 : Int))) : Int) ==
          (4 : Int)) =
        false,
      (IntKind.wrap IntKind.i64
            (↑(BitVec.toNat (BitVec.ofInt (64 : Nat) n &&& BitVec.ofInt (64 : Nat) (7 : Int))) : Int) ==
          (5 : Int)) =
        false,
      (IntKind.wrap IntKind.i64
            (↑(BitVec.toNat (BitVec.ofInt (64 : Nat) n &&& BitVec.ofInt (64 : Nat) (7 : Int))) : Int) ==
          (6 : Int)) =
        true,
      appendZIs (32 : Nat) (V.slc (1 : Nat) [V.int IntKind.u8 (106 : Int)] Own.tight)
        (V.int IntKind.i64
          (IntKind.wrap IntKind.i64
            (↑(BitVec.toNat (BitVec.ofInt (64 : Nat) (Int.fdiv n (8 : Int)) &&& BitVec.ofInt (64 : Nat) (31 : Int))) :
              Int)))
        []
        (Ans.mk (V.slc (1 : Nat) xs (Own.tok (Key.loc (32 : Nat) (0 : Nat)) (0 : Nat)))
          [(Key.loc (32 : Nat) (0 : Nat), Obj.tok l)])
        [Key.loc (32 : Nat) (0 : Nat)]]) := by kernel_rfl
theorem sc6e (n : Int) (xs : List V) (C : FuncId → Option Contract) : a57.runP F15 C [.int .i64 n] [] [.b false, .b false, .b false, .b false, .b false, .b false, .b true, .act ⟨.slc 1 xs .tight, []⟩ []] =
    some
  ((V.slc (1 : Nat) xs Own.none, [], []),
    [(IntKind.wrap IntKind.i64
            (↑(BitVec.toNat (BitVec.ofInt (64 : Nat) n &&& BitVec.ofInt (64 : Nat) (7 : Int))) : Int) ==
          (0 : Int)) =
        false,
      (IntKind.wrap IntKind.i64
            (↑(BitVec.toNat (BitVec.ofInt (64 : Nat) n &&& BitVec.ofInt (64 : Nat) (7 : Int))) : Int) ==
          (1 : Int)) =
        false,
      (IntKind.wrap IntKind.i64
            (↑(BitVec.toNat (BitVec.ofInt (64 : Nat) n &&& BitVec.ofInt (64 : Nat) (7 : Int))) : Int) ==
          (2 : Int)) =
        false,
      (IntKind.wrap IntKind.i64
            (↑(BitVec.toNat (BitVec.ofInt (64 : Nat) n &&& BitVec.ofInt (64 : Nat) (7 : Int))) : Int) ==
          (3 : Int)) =
        false,
      (IntKind.wrap IntKind.i64
            (↑(BitVec.toNat (BitVec.ofInt (64 : Nat) n &&& BitVec.ofInt (64 : Nat) (7 : Int))) : Int) ==
          (4 : Int)) =
        false,
      (IntKind.wrap IntKind.i64
            (↑(BitVec.toNat (BitVec.ofInt (64 : Nat) n &&& BitVec.ofInt (64 : Nat) (7 : Int))) : Int) ==
          (5 : Int)) =
        false,
      (IntKind.wrap IntKind.i64
            (↑(BitVec.toNat (BitVec.ofInt (64 : Nat) n &&& BitVec.ofInt (64 : Nat) (7 : Int))) : Int) ==
          (6 : Int)) =
        true,
      appendZIs (32 : Nat) (V.slc (1 : Nat) [V.int IntKind.u8 (106 : Int)] Own.tight)
        (V.int IntKind.i64
          (IntKind.wrap IntKind.i64
            (↑(BitVec.toNat (BitVec.ofInt (64 : Nat) (Int.fdiv n (8 : Int)) &&& BitVec.ofInt (64 : Nat) (31 : Int))) :
              Int)))
        [] (Ans.mk (V.slc (1 : Nat) xs Own.tight) []) []]) := by kernel_rfl
/-! ### numbers -/
theorem wrap64_id {n : Int} (h0 : -9223372036854775808 ≤ n) (h1 : n < 9223372036854775808) : IntKind.i64.wrap n = n := by
  simp only [IntKind.wrap, IntKind.bits, IntKind.signed]
  simp only [show (2 : Int) ^ 64 = 18446744073709551616 from by decide, show (2 : Int) ^ (64 - 1) = 9223372036854775808 from by decide, Bool.true_and, decide_eq_true_eq]
  split <;> omega
theorem an_le (a c : Int) (hc : 0 ≤ c) (hb : c < 9223372036854775808) : 0 ≤ an a c ∧ an a c ≤ c := by
  obtain ⟨b, rfl⟩ := Int.eq_ofNat_of_zero_le hc
  have h1 : (BitVec.ofInt 64 a &&& BitVec.ofInt 64 (b : Int)).toNat ≤ b := by
    rw [BitVec.toNat_and]
    refine Nat.le_trans Nat.and_le_right ?_
    rw [BitVec.toNat_ofInt]
    have : ((b : Int) % ((2 ^ 64 : Nat) : Int)).toNat = b := by
      rw [Int.emod_eq_of_lt (by omega) (by omega)]; simp
    omega
  unfold an
  rw [wrap64_id (by omega) (by omega)]
  omega
theorem u8_rng (n : Int) : 0 ≤ IntKind.u8.wrap n ∧ IntKind.u8.wrap n < 256 := by rw [wrapU8]; omega
theorem u32_rng (n : Int) : 0 ≤ IntKind.u32.wrap n ∧ IntKind.u32.wrap n < 4294967296 := by rw [wrap_u32]; omega
theorem u64_rng (n : Int) : 0 ≤ IntKind.u64.wrap n ∧ IntKind.u64.wrap n < 18446744073709551616 := by
  have : IntKind.u64.wrap n = n % 18446744073709551616 := by simp [IntKind.wrap, IntKind.bits, IntKind.signed]
  rw [this]; omega

/-! ### a script of a kind -/
def sc6B (n : Int) : List V := .int .u8 106 :: List.replicate (an (Int.fdiv n 8) 31).toNat (.int .u8 0)
def scB (n : Int) : List V :=
  if (an n 7 == 0) = true then [.int .u8 81, .int .u8 2, .int .u8 78, .int .u8 115]
  else if (an n 7 == 1) = true ∨ (an n 7 == 2) = true then [.int .u8 0, .int .u8 20] ++ List.replicate 20 (.int .u8 0)
  else if (an n 7 == 3) = true then [.int .u8 0, .int .u8 32] ++ List.replicate 32 (.int .u8 0)
  else if (an n 7 == 4) = true ∨ (an n 7 == 5) = true then [.int .u8 81, .int .u8 32, .int .u8 (IntKind.u8.wrap (Int.fdiv n 8))] ++ List.replicate 31 (.int .u8 0)
  else if (an n 7 == 6) = true then sc6B n
  else [.int .u8 (IntKind.u8.wrap (Int.fdiv n 8))]
theorem kinds_rep (n : Nat) : kinds .u8 (List.replicate n (.int .u8 0)) = true := by
  induction n with
  | zero => rfl
  | succ n ih =>
    rw [List.replicate_succ]
    simp only [kinds, List.all_cons, Bool.and_eq_true] at ih ⊢
    exact ⟨by decide, ih⟩
theorem scB_le (n : Int) : (scB n).length ≤ 34 := by
  have := an_le (Int.fdiv n 8) 31 (by decide) (by decide)
  unfold scB sc6B
  split
  · decide
  split
  · simp only [List.length_append, List.length_cons, List.length_nil, List.length_replicate]; omega
  split
  · simp only [List.length_append, List.length_cons, List.length_nil, List.length_replicate]; omega
  split
  · simp only [List.length_append, List.length_cons, List.length_nil, List.length_replicate]; omega
  split
  · simp only [List.length_append, List.length_cons, List.length_nil, List.length_replicate]; omega
  · simp
def c57 : Contract := fun args objs =>
  match args, objs with
  | [.int .i64 n], [] => some (rowV (scB n), [], [])
  | _, _ => none
theorem run57 (n : Int) (C : FuncId → Option Contract) : a57.run F15 C [.int .i64 n] [] = some (rowV (scB n), [], []) := by
  unfold scB
  by_cases h0 : (an n 7 == 0) = true
  · rw [if_pos h0]; exact runP_sound (sc0 n C) ⟨h0, trivial⟩
  rw [if_neg h0]
  have h0' : (an n 7 == 0) = false := by simpa using h0
  by_cases h1 : (an n 7 == 1) = true
  · rw [if_pos (.inl h1)]; exact runP_sound (sc1 n C) ⟨h0', h1, h1, trivial⟩
  have h1' : (an n 7 == 1) = false := by simpa using h1
  by_cases h2 : (an n 7 == 2) = true
  · rw [if_pos (.inr h2)]; exact runP_sound (sc2 n C) ⟨h0', h1', h2, trivial⟩
  have h2' : (an n 7 == 2) = false := by simpa using h2
  rw [if_neg (by rw [h1', h2']; simp)]
  by_cases h3 : (an n 7 == 3) = true
  · rw [if_pos h3]; exact runP_sound (sc3 n C) ⟨h0', h1', h2', h3, trivial⟩
  have h3' : (an n 7 == 3) = false := by simpa using h3
  rw [if_neg h3]
  by_cases h4 : (an n 7 == 4) = true
  · rw [if_pos (.inl h4)]; exact runP_sound (sc4 n C) ⟨h0', h1', h2', h3', h4, h4, trivial⟩
  have h4' : (an n 7 == 4) = false := by simpa using h4
  by_cases h5 : (an n 7 == 5) = true
  · rw [if_pos (.inr h5)]; exact runP_sound (sc5 n C) ⟨h0', h1', h2', h3', h4', h5, trivial⟩
  have h5' : (an n 7 == 5) = false := by simpa using h5
  rw [if_neg (by rw [h4', h5']; simp)]
  by_cases h6 : (an n 7 == 6) = true
  · rw [if_pos h6]
    have hl := an_le (Int.fdiv n 8) 31 (by decide) (by decide)
    have hle : (0 : Int) ≤ an (Int.fdiv n 8) 31 ∧ an (Int.fdiv n 8) 31 ≤ 1099511627776 := ⟨hl.1, by omega⟩
    cases hk : (an (Int.fdiv n 8) 31).toNat with
    | zero =>
      refine runP_sound (sc6e n (sc6B n) C) ⟨h0', h1', h2', h3', h4', h5', h6, ?_, trivial⟩
      show (if (0 : Int) ≤ an (Int.fdiv n 8) 31 ∧ an (Int.fdiv n 8) 31 ≤ 1099511627776 then appendTo 1 1 32 (.slc 1 [.int .u8 106] .tight) (List.replicate (an (Int.fdiv n 8) 31).toNat (.int .u8 0)) else Act.fail).run _ _ = _
      rw [if_pos hle, sc6B, hk]; rfl
    | succ j =>
      refine runP_sound (sc6 n (sc6B n) (1 + (j + 1)) C) ⟨h0', h1', h2', h3', h4', h5', h6, ?_, trivial⟩
      show (if (0 : Int) ≤ an (Int.fdiv n 8) 31 ∧ an (Int.fdiv n 8) 31 ≤ 1099511627776 then appendTo 1 1 32 (.slc 1 [.int .u8 106] .tight) (List.replicate (an (Int.fdiv n 8) 31).toNat (.int .u8 0)) else Act.fail).run _ _ = _
      rw [if_pos hle, sc6B, hk]
      have hj : (1 + (j + 1)) * 1 ≤ 1099511627776 ∧ 1 + (j + 1) ≤ 1099511627776 := by omega
      simp only [appendTo, List.length_cons, List.length_nil, List.length_replicate, Nat.zero_add, hj, and_self, if_true, List.replicate_succ, List.isEmpty_cons, Bool.false_eq_true, if_false, List.cons_append, List.nil_append]
      rfl
  rw [if_neg h6]
  have h6' : (an n 7 == 6) = false := by simpa using h6
  exact runP_sound (sc7 n C) ⟨h0', h1', h2', h3', h4', h5', h6', trivial⟩
theorem h57' : Holds Tryd.prog G 57 c57 := (fn_holds (sound_noC (P := Tryd.prog) (G := G)) hM F15 Tryd.func57 p57 o57).less fun args objs x h => by
  unfold c57 at h
  split at h
  · rw [← h]; exact run57 _ _
  · cases h

/-! ### a transaction of two numbers -/
def shi (a b : Int) : Int := Int.fdiv a (2 ^ Nat.min (Int.toNat b) 64)
def u64i (n : Int) : Int := IntKind.u64.wrap (IntKind.i64.wrap n)
def inR (m : Int) (i : Nat) (wi : List (List V)) (sc : List V) : InM :=
  ⟨.int .u8 (IntKind.u8.wrap (shi m (u64i (3 * i)))) :: (List.replicate 30 (.int .u8 0) ++ [.int .u8 (IntKind.u8.wrap i)]), IntKind.u32.wrap (an (shi m (u64i (2 * i))) 3), sc, IntKind.u32.wrap (IntKind.i64.wrap (4294967295 - an (shi m (u64i (8 + i))) 3)), wi⟩
def wR (m : Int) : Nat → List (List V)
  | 0 => []
  | 1 => [[.int .u8 (IntKind.u8.wrap m)]]
  | _ => [[.int .u8 (IntKind.u8.wrap m)], []]
def sR (m : Int) : Bool → List V
  | true => [.int .u8 (IntKind.u8.wrap (Int.fdiv m 16))]
  | false => []
def wK (m : Int) (i : Nat) : Nat := if (an (shi m (u64i (12 + i))) 3 == 0) = true then (IntKind.i64.wrap (an (Int.fdiv m 65536) 1 + 1)).toNat else 0
def sK (m : Int) : Bool := an (Int.fdiv m 262144) 3 == 0
def inOf (m : Int) (i : Nat) : InM := inR m i (wR m (wK m i)) (sR m (sK m))
def rowIn (m : Int) : Nat → List V
  | 0 => []
  | i + 1 => rowIn m i ++ (inOf m i).v.cellsOf
def outOf (n m : Int) (i : Nat) : OutM := ⟨IntKind.u64.wrap (an (shi n (u64i (12 + i))) 4095), scB (shi m (IntKind.u64.wrap i))⟩
def rowOut (n m : Int) : Nat → List V
  | 0 => []
  | i + 1 => rowOut n m i ++ [.int .u64 (outOf n m i).va, rowV (outOf n m i).sc]
theorem keyss_append : ∀ {a b : List V}, V.keyss (a ++ b) = V.keyss a ++ V.keyss b
  | [], b => rfl
  | v :: r, b => by simp only [List.cons_append, V.keyss, keyss_append, List.append_assoc]
theorem inR_keys (m : Int) (i : Nat) (wi : List (List V)) (sc : List V) : V.keyss (inR m i wi sc).v.cellsOf = [] := rfl
theorem rowIn_keys (m : Int) : ∀ i, V.keyss (rowIn m i) = []
  | 0 => rfl
  | i + 1 => by rw [rowIn, keyss_append, rowIn_keys m i, inOf, inR_keys]; rfl
theorem rowIn_len (m : Int) : ∀ i, (rowIn m i).length = i * 36
  | 0 => rfl
  | i + 1 => by rw [rowIn, List.length_append, rowIn_len m i, Nat.add_mul]; rfl
theorem rowOut_keys (n m : Int) : ∀ i, V.keyss (rowOut n m i) = []
  | 0 => rfl
  | i + 1 => by rw [rowOut, keyss_append, rowOut_keys n m i]; rfl
theorem rowOut_len (n m : Int) : ∀ i, (rowOut n m i).length = i * 2
  | 0 => rfl
  | i + 1 => by rw [rowOut, List.length_append, rowOut_len n m i, Nat.add_mul]; rfl
theorem appendIs_grow {esz bytes d : Nat} {k : Key} {i : Nat} {cs ys : List V} {x : V} {n : Nat} {σ : Store} (hs : (cellsR esz x).run σ [] = some ((ys, n), [])) (hk : σ.get k = some (.row cs)) (hd : σ.get (.loc d 0) = none) (hl : cs.length = i * esz) (he : esz ≠ 0) (hn : n ≠ 0)
    (hb : (i + n) * bytes ≤ 1099511627776) (hb2 : i + n ≤ 1099511627776) : appendIs esz bytes d (.rowv k esz 0 i) x σ ⟨.rowv (.loc d 0) esz 0 (i + n), [(k, .dead), (.loc d 0, .row (cs ++ ys))]⟩ [.loc d 0, k] := by
  unfold appendIs appendRA
  rw [bind_runF, hs]
  have h1 : 0 + i * esz ≤ cs.length := by omega
  have h2 : ¬ 0 + (i + n) * esz ≤ cs.length := by
    rw [hl, Nat.add_mul]
    have : 0 < n * esz := Nat.mul_pos (by omega) (by omega)
    omega
  have h3 : cs.take (i * esz) = cs := by rw [← hl, List.take_length]
  simp only [appendRow, he, hb, hb2, and_self, ne_eq, not_false_eq_true, if_true, Act.run, hk, h1, hn, if_false, h2, hd, h3]
theorem nonneg_u64 (n : Int) : 0 ≤ IntKind.u64.wrap n := (u64_rng n).1
def tN (n : Int) : Nat := (IntKind.i64.wrap (an (Int.fdiv n 256) 3 + 1)).toNat
def uN (n : Int) : Nat := (IntKind.i64.wrap (an (Int.fdiv n 1024) 3 + 1)).toNat
theorem tN_eq (n : Int) : IntKind.i64.wrap (an (Int.fdiv n 256) 3 + 1) = (tN n : Int) ∧ 1 ≤ tN n ∧ tN n ≤ 4 := by
  have := an_le (Int.fdiv n 256) 3 (by decide) (by decide)
  have e : IntKind.i64.wrap (an (Int.fdiv n 256) 3 + 1) = an (Int.fdiv n 256) 3 + 1 := wrap64_id (by omega) (by omega)
  unfold tN; rw [e]; omega
theorem uN_eq (n : Int) : IntKind.i64.wrap (an (Int.fdiv n 1024) 3 + 1) = (uN n : Int) ∧ 1 ≤ uN n ∧ uN n ≤ 4 := by
  have := an_le (Int.fdiv n 1024) 3 (by decide) (by decide)
  have e : IntKind.i64.wrap (an (Int.fdiv n 1024) 3 + 1) = an (Int.fdiv n 1024) 3 + 1 := wrap64_id (by omega) (by omega)
  unfold uN; rw [e]; omega
theorem wK_eq (m : Int) (i : Nat) (h : (an (shi m (u64i (12 + i))) 3 == 0) = true) : (IntKind.i64.wrap (an (Int.fdiv m 65536) 1 + 1) = 1 ∧ wK m i = 1) ∨ (IntKind.i64.wrap (an (Int.fdiv m 65536) 1 + 1) = 2 ∧ wK m i = 2) := by
  have := an_le (Int.fdiv m 65536) 1 (by decide) (by decide)
  have e : IntKind.i64.wrap (an (Int.fdiv m 65536) 1 + 1) = an (Int.fdiv m 65536) 1 + 1 := wrap64_id (by omega) (by omega)
  unfold wK; rw [if_pos h, e]; omega
theorem body_toQ {C : FuncId → Option Contract} {fuel : Nat} {slots keys : List Nat} {rens : List (Nat × Nat)} {code : ACode} {s t t' : St} {ds : List Dec} {ps : List Prop} (h : bodyP C fuel (cleanRQ slots keys rens) code s ds = some (t, ps)) (hp : AllP ps) (hk : keyless (stInsides t'.st)) (ht : t = t') : ∃ s', evalCode C fuel code s = some (.normal, s') ∧ cleanR slots keys rens s' = t' := by
  subst ht; exact bodyQ_sound h hp hk
theorem body_toC {C : FuncId → Option Contract} {fuel : Nat} {slots keys : List Nat} {code : ACode} {s t t' : St} {ds : List Dec} {ps : List Prop} (h : bodyP C fuel (cleanQ slots keys) code s ds = some (t, ps)) (hp : AllP ps) (hk : keyless (stInsides t'.st)) (ht : t = t') : ∃ s', evalCode C fuel code s = some (.normal, s') ∧ clean slots keys s' = t' := by
  subst ht; exact bodyC_sound h hp hk
def tH (n m ve lo : Int) : Nat → St
  | 0 => tS0 n m ve lo
  | i + 1 => tS n m ve lo (rowIn m (i + 1)) (i + 1)
theorem cut1 {k : Int} (h : k = 1) : cut 2 none (some (.int .i64 k)) none = some (0, 1, none) := by subst h; rfl
theorem cut2 {k : Int} (h : k = 2) : cut 2 none (some (.int .i64 k)) none = some (0, 2, none) := by subst h; rfl
theorem ins_step (n m ve lo : Int) (C : FuncId → Option Contract) (i : Nat) (hi : i < tN n) : ∃ s', evalCode C F15 b22_0 (tH n m ve lo i) = some (.normal, s') ∧ cleanR [0, 1, 4, 5, 6] [4, 5, 88] [(88, 1088)] s' = tH n m ve lo (i + 1) := by
  obtain ⟨hN, hN1, hN4⟩ := tN_eq n
  have hlt : decide ((i : Int) < IntKind.i64.wrap (an (Int.fdiv n 256) 3 + 1)) = true := by rw [hN]; simpa using hi
  have hkl : keyless (stInsides (tH n m ve lo (i + 1)).st) := ⟨rowIn_keys m (i + 1), trivial⟩
  have hS : (an (Int.fdiv m 262144) 3 == 0) = sK m := rfl
  cases i with
  | zero =>
    have key : ∀ {w : Nat} {s : Bool}, wK m 0 = w → sK m = s → tS n m ve lo (rowIn m 1) 1 = tS n m ve lo ([] ++ (inR m 0 (wR m w) (sR m s)).v.cellsOf) 1 := fun hw hs => by rw [rowIn, inOf, hw, hs]; rfl
    by_cases hw : (an (shi m (u64i (12 + (0 : Nat)))) 3 == 0) = true
    · rcases wK_eq m 0 hw with ⟨h1, h2⟩ | ⟨h1, h2⟩
      · cases hs : sK m with
        | false => exact body_toQ (tz1n n m ve lo C) ⟨hlt, hw, cut1 h1, hS.trans hs, trivial⟩ hkl (by show _ = tS n m ve lo (rowIn m 1) 1; rw [key h2 hs]; kernel_rfl)
        | true => exact body_toQ (tz1s n m ve lo C) ⟨hlt, hw, cut1 h1, hS.trans hs, trivial⟩ hkl (by show _ = tS n m ve lo (rowIn m 1) 1; rw [key h2 hs]; kernel_rfl)
      · cases hs : sK m with
        | false => exact body_toQ (tz2n n m ve lo C) ⟨hlt, hw, cut2 h1, hS.trans hs, trivial⟩ hkl (by show _ = tS n m ve lo (rowIn m 1) 1; rw [key h2 hs]; kernel_rfl)
        | true => exact body_toQ (tz2s n m ve lo C) ⟨hlt, hw, cut2 h1, hS.trans hs, trivial⟩ hkl (by show _ = tS n m ve lo (rowIn m 1) 1; rw [key h2 hs]; kernel_rfl)
    · have hw0 : wK m 0 = 0 := by unfold wK; rw [if_neg hw]
      have hw' : (an (shi m (u64i (12 + (0 : Nat)))) 3 == 0) = false := by simpa using hw
      cases hs : sK m with
      | false => exact body_toQ (tz0n n m ve lo C) ⟨hlt, hw', hS.trans hs, trivial⟩ hkl (by show _ = tS n m ve lo (rowIn m 1) 1; rw [key hw0 hs]; kernel_rfl)
      | true => exact body_toQ (tz0s n m ve lo C) ⟨hlt, hw', hS.trans hs, trivial⟩ hkl (by show _ = tS n m ve lo (rowIn m 1) 1; rw [key hw0 hs]; kernel_rfl)
  | succ j =>
    have key : ∀ {w : Nat} {s : Bool}, wK m (j + 1) = w → sK m = s → rowIn m (j + 1) ++ (inR m (j + 1) (wR m w) (sR m s)).v.cellsOf = rowIn m (j + 1 + 1) := fun hw hs => by
      show _ = rowIn m (j + 1) ++ (inOf m (j + 1)).v.cellsOf
      rw [inOf, hw, hs]
    have hg : ∀ (w : Nat) (s : Bool) {x : V} {σ : Store}, (cellsR 36 x).run σ [] = some (((inR m (j + 1) (wR m w) (sR m s)).v.cellsOf, 1), []) → σ.get (.loc 1088 0) = some (.row (rowIn m (j + 1))) → σ.get (.loc 88 0) = none → appendIs 36 96 88 (.rowv (.loc 1088 0) 36 0 (j + 1)) x σ (gR (j + 1) (rowIn m (j + 1) ++ (inR m (j + 1) (wR m w) (sR m s)).v.cellsOf)) [.loc 88 0, .loc 1088 0] := fun w s x σ h1 h2 h3 =>
      appendIs_grow h1 h2 h3 (rowIn_len m (j + 1)) (by decide) (by decide) (by omega) (by omega)
    have a2 := nonneg_u64 (IntKind.i64.wrap (2 * ((j + 1 : Nat) : Int)))
    have a8 := nonneg_u64 (IntKind.i64.wrap (8 + ((j + 1 : Nat) : Int)))
    have a3 := nonneg_u64 (IntKind.i64.wrap (3 * ((j + 1 : Nat) : Int)))
    have a12 := nonneg_u64 (IntKind.i64.wrap (12 + ((j + 1 : Nat) : Int)))
    have hwr : IntKind.i64.wrap (((j + 1 : Nat) : Int) + 1) = ((j + 1 + 1 : Nat) : Int) := wrap_succ (j + 1) (by omega)
    have fin : ∀ {w : Nat} {s : Bool}, wK m (j + 1) = w → sK m = s → ∀ {t : St}, t = tS n m ve lo (rowIn m (j + 1) ++ (inR m (j + 1) (wR m w) (sR m s)).v.cellsOf) (j + 1 + 1) → t = tH n m ve lo (j + 1 + 1) := fun hw hs t h => by rw [h, key hw hs]; rfl
    by_cases hw : (an (shi m (u64i (12 + (j + 1 : Nat)))) 3 == 0) = true
    · rcases wK_eq m (j + 1) hw with ⟨h1, h2⟩ | ⟨h1, h2⟩
      · cases hs : sK m with
        | false => exact body_toQ (tb1n n m ve lo (rowIn m (j + 1)) _ (j + 1) C) ⟨hlt, a2, a8, a3, a12, hw, cut1 h1, hS.trans hs, hg 1 false rfl rfl rfl, trivial⟩ hkl (fin h2 hs (by rw [hwr]; rfl))
        | true => exact body_toQ (tb1s n m ve lo (rowIn m (j + 1)) _ (j + 1) C) ⟨hlt, a2, a8, a3, a12, hw, cut1 h1, hS.trans hs, hg 1 true rfl rfl rfl, trivial⟩ hkl (fin h2 hs (by rw [hwr]; rfl))
      · cases hs : sK m with
        | false => exact body_toQ (tb2n n m ve lo (rowIn m (j + 1)) _ (j + 1) C) ⟨hlt, a2, a8, a3, a12, hw, cut2 h1, hS.trans hs, hg 2 false rfl rfl rfl, trivial⟩ hkl (fin h2 hs (by rw [hwr]; rfl))
        | true => exact body_toQ (tb2s n m ve lo (rowIn m (j + 1)) _ (j + 1) C) ⟨hlt, a2, a8, a3, a12, hw, cut2 h1, hS.trans hs, hg 2 true rfl rfl rfl, trivial⟩ hkl (fin h2 hs (by rw [hwr]; rfl))
    · have hw0 : wK m (j + 1) = 0 := by unfold wK; rw [if_neg hw]
      have hw' : (an (shi m (u64i (12 + (j + 1 : Nat)))) 3 == 0) = false := by simpa using hw
      cases hs : sK m with
      | false => exact body_toQ (tb0n n m ve lo (rowIn m (j + 1)) _ (j + 1) C) ⟨hlt, a2, a8, a3, a12, hw', hS.trans hs, hg 0 false rfl rfl rfl, trivial⟩ hkl (fin hw0 hs (by rw [hwr]; rfl))
      | true => exact body_toQ (tb0s n m ve lo (rowIn m (j + 1)) _ (j + 1) C) ⟨hlt, a2, a8, a3, a12, hw', hS.trans hs, hg 0 true rfl rfl rfl, trivial⟩ hkl (fin hw0 hs (by rw [hwr]; rfl))
theorem ins_loop3 (n m ve lo : Int) (C : FuncId → Option Contract) {s0 : St} (h0 : cleanR [0, 1, 4, 5, 6] [4, 5, 88] [(88, 1088)] s0 = tS0 n m ve lo) :
    evalCode C F15 (.loopR [0, 1, 4, 5, 6] [4, 5, 88] [(88, 1088)] b22_0) s0 = some (.exit 0, tX n m ve lo (rowIn m (tN n)) (tN n)) := by
  obtain ⟨hN, hN1, hN4⟩ := tN_eq n
  refine ev_loopR (tH n m ve lo) (tN n) h0 (ins_step n m ve lo C) ?_ (by simp) (by unfold F15; omega)
  obtain ⟨j, hj⟩ : ∃ j, tN n = j + 1 := ⟨tN n - 1, by omega⟩
  rw [hj]
  exact exitP_sound (tx1 n m ve lo (rowIn m (j + 1)) (j + 1) C) ⟨by
    show decide (((j + 1 : Nat) : Int) < IntKind.i64.wrap (an (Int.fdiv n 256) 3 + 1)) = false
    rw [hN, hj]; simp, trivial⟩
def uH (n m ve lo : Int) (N : Nat) (cs : List V) : Nat → St
  | 0 => uS0 n m ve lo N cs
  | i + 1 => uS n m ve lo N cs (rowOut n m (i + 1)) (i + 1)
theorem call57 {C : FuncId → Option Contract} (hC : C 57 = some c57) (n : Int) : callIs C 57 [.int .i64 n] [] (rowV (scB n)) [] [] := by
  simp only [callIs, hC, c57]
theorem outs_step (n m ve lo : Int) (N : Nat) (cs : List V) (hcs : V.keyss cs = []) (C : FuncId → Option Contract) (hC : C 57 = some c57) (i : Nat) (hi : i < uN n) : ∃ s', evalCode C F15 b22_1 (uH n m ve lo N cs i) = some (.normal, s') ∧ cleanR [0, 1, 4, 5, 8] [4, 5, 1088, 114] [(114, 1114)] s' = uH n m ve lo N cs (i + 1) := by
  obtain ⟨hN, hN1, hN4⟩ := uN_eq n
  have hlt : decide ((i : Int) < IntKind.i64.wrap (an (Int.fdiv n 1024) 3 + 1)) = true := by rw [hN]; simpa using hi
  have hkl : keyless (stInsides (uH n m ve lo N cs (i + 1)).st) := ⟨hcs, rowOut_keys n m (i + 1), trivial⟩
  cases i with
  | zero =>
    refine body_toQ (uz n m ve lo N cs (scB (shi m (IntKind.u64.wrap (0 : Nat)))) C) ⟨hlt, ?_, trivial⟩ hkl ?_
    · have := call57 hC (shi m (IntKind.u64.wrap (0 : Nat)))
      exact this
    · show _ = uS n m ve lo N cs ([] ++ [.int .u64 (outOf n m 0).va, rowV (outOf n m 0).sc]) 1
      kernel_rfl
  | succ j =>
    have hwr : IntKind.i64.wrap (((j + 1 : Nat) : Int) + 1) = ((j + 1 + 1 : Nat) : Int) := wrap_succ (j + 1) (by omega)
    refine body_toQ (ub n m ve lo N cs (rowOut n m (j + 1)) (rowOut n m (j + 1 + 1)) (scB (shi m (IntKind.u64.wrap ((j + 1 : Nat) : Int)))) (j + 1) C) ⟨hlt, nonneg_u64 _, nonneg_u64 _, call57 hC _, ?_, trivial⟩ hkl ?_
    · exact appendIs_grow (i := j + 1) (cs := rowOut n m (j + 1)) (ys := [.int .u64 (outOf n m (j + 1)).va, rowV (outOf n m (j + 1)).sc]) (n := 1) rfl rfl rfl (rowOut_len n m (j + 1)) (by decide) (by decide) (by omega) (by omega)
    · rw [hwr]; rfl
theorem outs_loop3 (n m ve lo : Int) (N : Nat) (cs : List V) (hcs : V.keyss cs = []) (C : FuncId → Option Contract) (hC : C 57 = some c57) {s0 : St} (h0 : cleanR [0, 1, 4, 5, 8] [4, 5, 1088, 114] [(114, 1114)] s0 = uS0 n m ve lo N cs) :
    evalCode C F15 (.loopR [0, 1, 4, 5, 8] [4, 5, 1088, 114] [(114, 1114)] b22_1) s0 = some (.exit 2, uX n m ve lo N cs (rowOut n m (uN n)) (uN n)) := by
  obtain ⟨hN, hN1, hN4⟩ := uN_eq n
  refine ev_loopR (uH n m ve lo N cs) (uN n) h0 (outs_step n m ve lo N cs hcs C hC) ?_ (by simp) (by unfold F15; omega)
  obtain ⟨j, hj⟩ : ∃ j, uN n = j + 1 := ⟨uN n - 1, by omega⟩
  rw [hj]
  exact exitP_sound (ux n m ve lo N cs (rowOut n m (j + 1)) (j + 1) C) ⟨by
    show decide (((j + 1 : Nat) : Int) < IntKind.i64.wrap (an (Int.fdiv n 1024) 3 + 1)) = false
    rw [hN, hj]; simp, trivial⟩
def c22 : Contract := fun args objs =>
  match args, objs with
  | [.int .i64 n, .int .i64 m], [] => some (.agg [.int .u32 (veO n), .rowv (.arg 0) 36 0 (tN n), .rowv (.arg 1) 2 0 (uN n), .int .u32 (loO n)], [], [.row (rowIn m (tN n)), .row (rowOut n m (uN n))])
  | _, _ => none
def C57 : FuncId → Option Contract := addC noC 57 c57
theorem s57 : Sound Tryd.prog G C57 := sound_noC.add Tryd.func57 (by kernel_rfl) h57'
theorem run22 (n m : Int) : a22.run F15 C57 [.int .i64 n, .int .i64 m] [] = some (.agg [.int .u32 (veO n), .rowv (.arg 0) 36 0 (tN n), .rowv (.arg 1) 2 0 (uN n), .int .u32 (loO n)], [], [.row (rowIn m (tN n)), .row (rowOut n m (uN n))]) :=
  runP_sound (tr n m (rowIn m (tN n)) (rowOut n m (uN n)) (tN n) (uN n) C57)
    ⟨ins_loop3 n m (veO n) (loO n) C57 (cleanRQ_eq (by exact trivial)), outs_loop3 n m (veO n) (loO n) (tN n) (rowIn m (tN n)) (rowIn_keys m _) C57 rfl ((cleanRQ_eq (by exact ⟨rowIn_keys m _, trivial⟩)).trans rfl), ⟨rowIn_keys m _, rowOut_keys n m _, trivial⟩, trivial⟩
theorem h22' : Holds Tryd.prog G 22 c22 := (fn_holds s57 hM F15 Tryd.func22 p22 o22).less fun args objs x h => by
  unfold c22 at h
  split at h
  · rw [← h]; exact run22 _ _
  · cases h
end Go.Proofs.YtiiohfojejfolaaDoor
