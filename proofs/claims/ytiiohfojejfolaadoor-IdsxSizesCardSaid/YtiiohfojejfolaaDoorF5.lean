/-
  What is proved: a transaction's bytes, without its witnesses and with them. Conditions: none.
-/
import Derived.Test.YtiiohfojejfolaaDoorF4
set_option linter.unusedVariables false
set_option linter.unusedSimpArgs false
set_option maxRecDepth 100000
namespace Go.Proofs.YtiiohfojejfolaaDoor
open Go Go.Ev Go.Proofs

theorem call102 {C : FuncId → Option Contract} (hC : C 102 = some c102) {t : TxM} (h : t.ok) {b : Bool} (hb : mayB t = b) : callIs C 102 [t.v] [] (.bool b) [] [] := by
  simp only [callIs, hC, c102]
  rw [txC_eq (fun _ h => h) h, hb]
theorem call104 {C : FuncId → Option Contract} (hC : C 104 = some c104) {t : TxM} (h : t.ok) {b : Bool} (hb : witB t = b) : callIs C 104 [t.v] [] (.bool b) [] [] := by
  simp only [callIs, hC, c104]
  rw [txC_eq (fun _ h => h) h, hb]
def tk (xs : List V) : V := .slc 1 xs (.tok (.arg 0) 0)
theorem bs0 (ve lo : Int) (iv ov : List V) (C : FuncId → Option Contract) : a58.runP F15 C [.agg (txc ve lo iv ov)] [] [.call (.bool false) [] [], .b true] =
    some
  ((V.slc (1 : Nat) [] Own.none, [], []),
    [callIs C (102 : Nat)
        [V.agg [V.int IntKind.u32 ve, V.slc (36 : Nat) iv Own.none, V.slc (2 : Nat) ov Own.none, V.int IntKind.u32 lo]]
        [] (V.bool false) [] [],
      true = true]) := by kernel_rfl
theorem bs1 (ve lo : Int) (iv ov y1 y2 y3 : List V) (C : FuncId → Option Contract) : a58.runP F15 C [.agg (txc ve lo iv ov)] [] [.call (.bool true) [] [], .b false, .call (tk y1) [] [.tok y1.length], .call (tk y2) [] [.tok y2.length], .call (tk y3) [] [.tok y3.length]] =
    some
  ((V.slc (1 : Nat) y3 Own.none, [], []),
    [callIs C (102 : Nat)
        [V.agg [V.int IntKind.u32 ve, V.slc (36 : Nat) iv Own.none, V.slc (2 : Nat) ov Own.none, V.int IntKind.u32 lo]]
        [] (V.bool true) [] [],
      false = false,
      callIs C (69 : Nat) [V.slc (1 : Nat) [] Own.none, V.int IntKind.u32 ve] [] (tk y1) [] [Obj.tok (List.length y1)],
      callIs C (103 : Nat)
        [V.slc (1 : Nat) y1 Own.none,
          V.agg [V.int IntKind.u32 ve, V.slc (36 : Nat) iv Own.none, V.slc (2 : Nat) ov Own.none, V.int IntKind.u32 lo]]
        [] (tk y2) [] [Obj.tok (List.length y2)],
      callIs C (69 : Nat) [V.slc (1 : Nat) y2 Own.none, V.int IntKind.u32 lo] [] (tk y3) [] [Obj.tok (List.length y3)]]) := by kernel_rfl
def wS (t : List V) (ins : V) (N : Nat) (bs : List V) (i : Nat) : St := ⟨[(1, .ptr (.loc 1 0) 0), (3, tokV 1004 bs), (26, ins), (27, .int .i64 N), (28, .int .i64 i)], [(.loc 1 0, .cells t), (.loc 1004 0, .tok bs.length)]⟩
def wX (t : List V) (ins : V) (N : Nat) (bs : List V) : St := ⟨(29, .bool (decide ((N : Int) < N))) :: (wS t ins N bs N).tm, (wS t ins N bs N).st⟩
def vS (t : List V) (ins : V) (N : Nat) (i : Nat) (ws : V) (M : Nat) (bs : List V) (k : Nat) : St := ⟨[(1, .ptr (.loc 1 0) 0), (3, tokV 1003 bs), (26, ins), (27, .int .i64 N), (28, .int .i64 i), (38, ws), (39, .int .i64 M), (40, .int .i64 k)], [(.loc 1 0, .cells t), (.loc 1003 0, .tok bs.length)]⟩
def vX (t : List V) (ins : V) (N : Nat) (i : Nat) (ws : V) (M : Nat) (bs : List V) : St := ⟨(41, .bool (decide ((M : Int) < M))) :: (vS t ins N i ws M bs M).tm, (vS t ins N i ws M bs M).st⟩
def cl59a : St → St := cleanR [1, 3, 26, 27, 28] [1, 24, 1003] [(24, 1004), (1003, 1004)]
def cl59b : St → St := cleanR [1, 3, 26, 27, 28, 38, 39, 40] [1, 36, 46] [(36, 1003), (46, 1003)]
theorem vb (ve lo : Int) (iv ov : List V) (N i M k : Nat) (ws bs y l : List V) (C : FuncId → Option Contract) : bodyP C F15 cl59b b59_0 (vS (txc ve lo iv ov) (.slc 36 iv .none) N i (.slc 1 ws .none) M bs k) [.b true, .v (rowV l), .call (tk y) [] [.tok y.length]] =
    some
  (St.mk
      [((1 : Nat), V.ptr (Key.loc (1 : Nat) (0 : Nat)) (0 : Nat)),
        ((3 : Nat), V.slc (1 : Nat) y (Own.tok (Key.loc (1003 : Nat) (0 : Nat)) (0 : Nat))),
        ((26 : Nat), V.slc (36 : Nat) iv Own.none), ((27 : Nat), V.int IntKind.i64 (↑N : Int)),
        ((28 : Nat), V.int IntKind.i64 (↑i : Int)), ((38 : Nat), V.slc (1 : Nat) ws Own.none),
        ((39 : Nat), V.int IntKind.i64 (↑M : Int)),
        ((40 : Nat), V.int IntKind.i64 (IntKind.wrap IntKind.i64 ((↑k : Int) + (1 : Int))))]
      [(Key.loc (1 : Nat) (0 : Nat),
          Ev.Obj.cells
            [V.int IntKind.u32 ve, V.slc (36 : Nat) iv Own.none, V.slc (2 : Nat) ov Own.none, V.int IntKind.u32 lo]),
        (Key.loc (1003 : Nat) (0 : Nat), Obj.tok (List.length y))],
    [decide ((↑k : Int) < (↑M : Int)) = true, (0 : Int) ≤ (↑k : Int) ∧ ws[Int.toNat (↑k : Int)]? = some (rowV l),
      callIs C (105 : Nat) [V.slc (1 : Nat) bs Own.none, V.slc (1 : Nat) l Own.none] [] (tk y) []
        [Obj.tok (List.length y)]]) := by kernel_rfl
theorem vx (ve lo : Int) (iv ov : List V) (N i M : Nat) (ws bs : List V) (C : FuncId → Option Contract) : exitP C F15 b59_0 (vS (txc ve lo iv ov) (.slc 36 iv .none) N i (.slc 1 ws .none) M bs M) [.b false] =
    some
  ((Ex.exit (2 : Nat),
      St.mk
        [((41 : Nat), V.bool (decide ((↑M : Int) < (↑M : Int)))),
          ((1 : Nat), V.ptr (Key.loc (1 : Nat) (0 : Nat)) (0 : Nat)), ((3 : Nat), tokV (1003 : Nat) bs),
          ((26 : Nat), V.slc (36 : Nat) iv Own.none), ((27 : Nat), V.int IntKind.i64 (↑N : Int)),
          ((28 : Nat), V.int IntKind.i64 (↑i : Int)), ((38 : Nat), V.slc (1 : Nat) ws Own.none),
          ((39 : Nat), V.int IntKind.i64 (↑M : Int)), ((40 : Nat), V.int IntKind.i64 (↑M : Int))]
        [(Key.loc (1 : Nat) (0 : Nat), Ev.Obj.cells (txc ve lo iv ov)),
          (Key.loc (1003 : Nat) (0 : Nat), Obj.tok (List.length bs))]),
    [decide ((↑M : Int) < (↑M : Int)) = false]) := by kernel_rfl
theorem wb (ve lo vo sq : Int) (iv ov : List V) (N i : Nat) (bs y1 y2 sc : List V) (w : Nat → Int) (wi : List V) (C : FuncId → Option Contract) : bodyP C F15 cl59a b59_1 (wS (txc ve lo iv ov) (.slc 36 iv .none) N bs i) [.b true, .v (inC w vo sq sc wi), .call (tk y1) [] [.tok y1.length], .loop (.exit 2) (vX (txc ve lo iv ov) (.slc 36 iv .none) N i (.slc 1 wi .none) wi.length y2)] =
    some
  (St.mk
      [((1 : Nat), V.ptr (Key.loc (1 : Nat) (0 : Nat)) (0 : Nat)),
        ((3 : Nat), V.slc (1 : Nat) y2 (Own.tok (Key.loc (1004 : Nat) (0 : Nat)) (0 : Nat))),
        ((26 : Nat), V.slc (36 : Nat) iv Own.none), ((27 : Nat), V.int IntKind.i64 (↑N : Int)),
        ((28 : Nat), V.int IntKind.i64 (IntKind.wrap IntKind.i64 ((↑i : Int) + (1 : Int))))]
      [(Key.loc (1 : Nat) (0 : Nat),
          Ev.Obj.cells
            [V.int IntKind.u32 ve, V.slc (36 : Nat) iv Own.none, V.slc (2 : Nat) ov Own.none, V.int IntKind.u32 lo]),
        (Key.loc (1004 : Nat) (0 : Nat), Obj.tok (List.length y2))],
    [decide ((↑i : Int) < (↑N : Int)) = true,
      (0 : Int) ≤ (↑i : Int) ∧ iv[Int.toNat (↑i : Int)]? = some (inC w vo sq sc wi),
      callIs C (68 : Nat) [V.slc (1 : Nat) bs Own.none, V.int IntKind.i64 (↑(List.length wi) : Int)] [] (tk y1) []
        [Obj.tok (List.length y1)],
      evalCode C F15
          (ACode.loopR [(1 : Nat), (3 : Nat), (26 : Nat), (27 : Nat), (28 : Nat), (38 : Nat), (39 : Nat), (40 : Nat)]
            [(1 : Nat), (36 : Nat), (46 : Nat)] [((36 : Nat), (1003 : Nat)), ((46 : Nat), (1003 : Nat))] b59_0)
          (St.mk
            [((40 : Nat), V.int IntKind.i64 (0 : Int)), ((39 : Nat), V.int IntKind.i64 (↑(List.length wi) : Int)),
              ((38 : Nat), V.slc (1 : Nat) wi Own.none), ((37 : Nat), V.ptr (Key.loc (5 : Nat) (0 : Nat)) (35 : Nat)),
              ((3 : Nat), V.slc (1 : Nat) y1 (Own.tok (Key.loc (36 : Nat) (0 : Nat)) (0 : Nat))),
              ((36 : Nat), V.slc (1 : Nat) y1 (Own.tok (Key.loc (36 : Nat) (0 : Nat)) (0 : Nat))),
              ((35 : Nat), V.int IntKind.i64 (↑(List.length wi) : Int)), ((34 : Nat), V.slc (1 : Nat) wi Own.none),
              ((33 : Nat), V.ptr (Key.loc (5 : Nat) (0 : Nat)) (35 : Nat)),
              ((32 : Nat), V.slc (1 : Nat) bs (Own.tok (Key.loc (1004 : Nat) (0 : Nat)) (0 : Nat))),
              ((5 : Nat), V.ptr (Key.loc (5 : Nat) (0 : Nat)) (0 : Nat)),
              ((31 : Nat),
                V.agg
                  [V.int IntKind.u8 (w (0 : Nat)), V.int IntKind.u8 (w (1 : Nat)), V.int IntKind.u8 (w (2 : Nat)),
                    V.int IntKind.u8 (w (3 : Nat)), V.int IntKind.u8 (w (4 : Nat)), V.int IntKind.u8 (w (5 : Nat)),
                    V.int IntKind.u8 (w (6 : Nat)), V.int IntKind.u8 (w (7 : Nat)), V.int IntKind.u8 (w (8 : Nat)),
                    V.int IntKind.u8 (w (9 : Nat)), V.int IntKind.u8 (w (10 : Nat)), V.int IntKind.u8 (w (11 : Nat)),
                    V.int IntKind.u8 (w (12 : Nat)), V.int IntKind.u8 (w (13 : Nat)), V.int IntKind.u8 (w (14 : Nat)),
                    V.int IntKind.u8 (w (15 : Nat)), V.int IntKind.u8 (w (16 : Nat)), V.int IntKind.u8 (w (17 : Nat)),
                    V.int IntKind.u8 (w (18 : Nat)), V.int IntKind.u8 (w (19 : Nat)), V.int IntKind.u8 (w (20 : Nat)),
                    V.int IntKind.u8 (w (21 : Nat)), V.int IntKind.u8 (w (22 : Nat)), V.int IntKind.u8 (w (23 : Nat)),
                    V.int IntKind.u8 (w (24 : Nat)), V.int IntKind.u8 (w (25 : Nat)), V.int IntKind.u8 (w (26 : Nat)),
                    V.int IntKind.u8 (w (27 : Nat)), V.int IntKind.u8 (w (28 : Nat)), V.int IntKind.u8 (w (29 : Nat)),
                    V.int IntKind.u8 (w (30 : Nat)), V.int IntKind.u8 (w (31 : Nat)), V.int IntKind.u32 vo, rowV sc,
                    V.int IntKind.u32 sq, V.slc (1 : Nat) wi Own.none]),
              ((30 : Nat),
                V.elem
                  [V.int IntKind.u8 (w (0 : Nat)), V.int IntKind.u8 (w (1 : Nat)), V.int IntKind.u8 (w (2 : Nat)),
                    V.int IntKind.u8 (w (3 : Nat)), V.int IntKind.u8 (w (4 : Nat)), V.int IntKind.u8 (w (5 : Nat)),
                    V.int IntKind.u8 (w (6 : Nat)), V.int IntKind.u8 (w (7 : Nat)), V.int IntKind.u8 (w (8 : Nat)),
                    V.int IntKind.u8 (w (9 : Nat)), V.int IntKind.u8 (w (10 : Nat)), V.int IntKind.u8 (w (11 : Nat)),
                    V.int IntKind.u8 (w (12 : Nat)), V.int IntKind.u8 (w (13 : Nat)), V.int IntKind.u8 (w (14 : Nat)),
                    V.int IntKind.u8 (w (15 : Nat)), V.int IntKind.u8 (w (16 : Nat)), V.int IntKind.u8 (w (17 : Nat)),
                    V.int IntKind.u8 (w (18 : Nat)), V.int IntKind.u8 (w (19 : Nat)), V.int IntKind.u8 (w (20 : Nat)),
                    V.int IntKind.u8 (w (21 : Nat)), V.int IntKind.u8 (w (22 : Nat)), V.int IntKind.u8 (w (23 : Nat)),
                    V.int IntKind.u8 (w (24 : Nat)), V.int IntKind.u8 (w (25 : Nat)), V.int IntKind.u8 (w (26 : Nat)),
                    V.int IntKind.u8 (w (27 : Nat)), V.int IntKind.u8 (w (28 : Nat)), V.int IntKind.u8 (w (29 : Nat)),
                    V.int IntKind.u8 (w (30 : Nat)), V.int IntKind.u8 (w (31 : Nat)), V.int IntKind.u32 vo, rowV sc,
                    V.int IntKind.u32 sq, V.slc (1 : Nat) wi Own.none]),
              ((29 : Nat), V.bool (decide ((↑i : Int) < (↑N : Int)))),
              ((1 : Nat), V.ptr (Key.loc (1 : Nat) (0 : Nat)) (0 : Nat)), ((3 : Nat), tokV (1004 : Nat) bs),
              ((26 : Nat), V.slc (36 : Nat) iv Own.none), ((27 : Nat), V.int IntKind.i64 (↑N : Int)),
              ((28 : Nat), V.int IntKind.i64 (↑i : Int))]
            [(Key.loc (1 : Nat) (0 : Nat), Ev.Obj.cells (txc ve lo iv ov)),
              (Key.loc (1004 : Nat) (0 : Nat), Obj.tok (List.length bs)),
              (Key.loc (5 : Nat) (0 : Nat),
                Ev.Obj.cells
                  [V.int IntKind.u8 (w (0 : Nat)), V.int IntKind.u8 (w (1 : Nat)), V.int IntKind.u8 (w (2 : Nat)),
                    V.int IntKind.u8 (w (3 : Nat)), V.int IntKind.u8 (w (4 : Nat)), V.int IntKind.u8 (w (5 : Nat)),
                    V.int IntKind.u8 (w (6 : Nat)), V.int IntKind.u8 (w (7 : Nat)), V.int IntKind.u8 (w (8 : Nat)),
                    V.int IntKind.u8 (w (9 : Nat)), V.int IntKind.u8 (w (10 : Nat)), V.int IntKind.u8 (w (11 : Nat)),
                    V.int IntKind.u8 (w (12 : Nat)), V.int IntKind.u8 (w (13 : Nat)), V.int IntKind.u8 (w (14 : Nat)),
                    V.int IntKind.u8 (w (15 : Nat)), V.int IntKind.u8 (w (16 : Nat)), V.int IntKind.u8 (w (17 : Nat)),
                    V.int IntKind.u8 (w (18 : Nat)), V.int IntKind.u8 (w (19 : Nat)), V.int IntKind.u8 (w (20 : Nat)),
                    V.int IntKind.u8 (w (21 : Nat)), V.int IntKind.u8 (w (22 : Nat)), V.int IntKind.u8 (w (23 : Nat)),
                    V.int IntKind.u8 (w (24 : Nat)), V.int IntKind.u8 (w (25 : Nat)), V.int IntKind.u8 (w (26 : Nat)),
                    V.int IntKind.u8 (w (27 : Nat)), V.int IntKind.u8 (w (28 : Nat)), V.int IntKind.u8 (w (29 : Nat)),
                    V.int IntKind.u8 (w (30 : Nat)), V.int IntKind.u8 (w (31 : Nat)), V.int IntKind.u32 vo, rowV sc,
                    V.int IntKind.u32 sq, V.slc (1 : Nat) wi Own.none]),
              (Key.loc (36 : Nat) (0 : Nat), Obj.tok (List.length y1))]) =
        some
          (Ex.exit (2 : Nat),
            St.mk
              [((41 : Nat), V.bool (decide ((↑(List.length wi) : Int) < (↑(List.length wi) : Int)))),
                ((1 : Nat), V.ptr (Key.loc (1 : Nat) (0 : Nat)) (0 : Nat)), ((3 : Nat), tokV (1003 : Nat) y2),
                ((26 : Nat), V.slc (36 : Nat) iv Own.none), ((27 : Nat), V.int IntKind.i64 (↑N : Int)),
                ((28 : Nat), V.int IntKind.i64 (↑i : Int)), ((38 : Nat), V.slc (1 : Nat) wi Own.none),
                ((39 : Nat), V.int IntKind.i64 (↑(List.length wi) : Int)),
                ((40 : Nat), V.int IntKind.i64 (↑(List.length wi) : Int))]
              [(Key.loc (1 : Nat) (0 : Nat), Ev.Obj.cells (txc ve lo iv ov)),
                (Key.loc (1003 : Nat) (0 : Nat), Obj.tok (List.length y2))])]) := by kernel_rfl
theorem wx (ve lo : Int) (iv ov : List V) (N : Nat) (bs : List V) (C : FuncId → Option Contract) : exitP C F15 b59_1 (wS (txc ve lo iv ov) (.slc 36 iv .none) N bs N) [.b false] =
    some
  ((Ex.exit (0 : Nat),
      St.mk
        [((29 : Nat), V.bool (decide ((↑N : Int) < (↑N : Int)))),
          ((1 : Nat), V.ptr (Key.loc (1 : Nat) (0 : Nat)) (0 : Nat)), ((3 : Nat), tokV (1004 : Nat) bs),
          ((26 : Nat), V.slc (36 : Nat) iv Own.none), ((27 : Nat), V.int IntKind.i64 (↑N : Int)),
          ((28 : Nat), V.int IntKind.i64 (↑N : Int))]
        [(Key.loc (1 : Nat) (0 : Nat), Ev.Obj.cells (txc ve lo iv ov)),
          (Key.loc (1004 : Nat) (0 : Nat), Obj.tok (List.length bs))]),
    [decide ((↑N : Int) < (↑N : Int)) = false]) := by kernel_rfl
theorem by0 (ve lo : Int) (iv ov z : List V) (C : FuncId → Option Contract) : a59.runP F15 C [.agg (txc ve lo iv ov)] [] [.call (.bool false) [] [], .b true, .call (rowV z) [] []] =
    some
  ((V.slc (1 : Nat) z Own.none, [], []),
    [callIs C (102 : Nat)
        [V.agg [V.int IntKind.u32 ve, V.slc (36 : Nat) iv Own.none, V.slc (2 : Nat) ov Own.none, V.int IntKind.u32 lo]]
        [] (V.bool false) [] [],
      true = true,
      callIs C (58 : Nat)
        [V.agg [V.int IntKind.u32 ve, V.slc (36 : Nat) iv Own.none, V.slc (2 : Nat) ov Own.none, V.int IntKind.u32 lo]]
        [] (rowV z) [] []]) := by kernel_rfl
theorem by1 (ve lo : Int) (iv ov z : List V) (C : FuncId → Option Contract) : a59.runP F15 C [.agg (txc ve lo iv ov)] [] [.call (.bool true) [] [], .call (.bool false) [] [], .b true, .call (rowV z) [] []] =
    some
  ((V.slc (1 : Nat) z Own.none, [], []),
    [callIs C (102 : Nat)
        [V.agg [V.int IntKind.u32 ve, V.slc (36 : Nat) iv Own.none, V.slc (2 : Nat) ov Own.none, V.int IntKind.u32 lo]]
        [] (V.bool true) [] [],
      callIs C (104 : Nat)
        [V.agg [V.int IntKind.u32 ve, V.slc (36 : Nat) iv Own.none, V.slc (2 : Nat) ov Own.none, V.int IntKind.u32 lo]]
        [] (V.bool false) [] [],
      true = true,
      callIs C (58 : Nat)
        [V.agg [V.int IntKind.u32 ve, V.slc (36 : Nat) iv Own.none, V.slc (2 : Nat) ov Own.none, V.int IntKind.u32 lo]]
        [] (rowV z) [] []]) := by kernel_rfl
theorem by2 (ve lo : Int) (iv ov y1 y2 y3 y4 : List V) (C : FuncId → Option Contract) : a59.runP F15 C [.agg (txc ve lo iv ov)] [] [.call (.bool true) [] [], .call (.bool true) [] [], .b false, .call (tk y1) [] [.tok y1.length], .e false, .call (tk y2) [] [.tok y2.length], .loop (.exit 0) (wX (txc ve lo iv ov) (.slc 36 iv .none) iv.length y3), .call (tk y4) [] [.tok y4.length]] =
    some
  ((V.slc (1 : Nat) y4 Own.none, [], []),
    [callIs C (102 : Nat)
        [V.agg [V.int IntKind.u32 ve, V.slc (36 : Nat) iv Own.none, V.slc (2 : Nat) ov Own.none, V.int IntKind.u32 lo]]
        [] (V.bool true) [] [],
      callIs C (104 : Nat)
        [V.agg [V.int IntKind.u32 ve, V.slc (36 : Nat) iv Own.none, V.slc (2 : Nat) ov Own.none, V.int IntKind.u32 lo]]
        [] (V.bool true) [] [],
      false = false,
      callIs C (69 : Nat) [V.slc (1 : Nat) [] Own.none, V.int IntKind.u32 ve] [] (tk y1) [] [Obj.tok (List.length y1)],
      (List.length y1 + (2 : Nat)) * (1 : Nat) ≤ (1099511627776 : Nat),
      List.length y1 + (2 : Nat) ≤ (1099511627776 : Nat), false = false, List.length y1 = (0 : Nat) + List.length y1,
      callIs C (103 : Nat)
        [V.slc (1 : Nat) (y1 ++ [V.int IntKind.u8 (0 : Int), V.int IntKind.u8 (1 : Int)]) Own.none,
          V.agg [V.int IntKind.u32 ve, V.slc (36 : Nat) iv Own.none, V.slc (2 : Nat) ov Own.none, V.int IntKind.u32 lo]]
        [] (tk y2) [] [Obj.tok (List.length y2)],
      evalCode C F15
          (ACode.loopR [(1 : Nat), (3 : Nat), (26 : Nat), (27 : Nat), (28 : Nat)] [(1 : Nat), (24 : Nat), (1003 : Nat)]
            [((24 : Nat), (1004 : Nat)), ((1003 : Nat), (1004 : Nat))] b59_1)
          (St.mk
            [((28 : Nat), V.int IntKind.i64 (0 : Int)), ((27 : Nat), V.int IntKind.i64 (↑(List.length iv) : Int)),
              ((26 : Nat), V.slc (36 : Nat) iv Own.none), ((25 : Nat), V.ptr (Key.loc (1 : Nat) (0 : Nat)) (1 : Nat)),
              ((3 : Nat), V.slc (1 : Nat) y2 (Own.tok (Key.loc (24 : Nat) (0 : Nat)) (0 : Nat))),
              ((24 : Nat), V.slc (1 : Nat) y2 (Own.tok (Key.loc (24 : Nat) (0 : Nat)) (0 : Nat))),
              ((23 : Nat),
                V.agg
                  [V.int IntKind.u32 ve, V.slc (36 : Nat) iv Own.none, V.slc (2 : Nat) ov Own.none,
                    V.int IntKind.u32 lo]),
              ((22 : Nat),
                V.slc (1 : Nat) (y1 ++ [V.int IntKind.u8 (0 : Int), V.int IntKind.u8 (1 : Int)])
                  (Own.tok (Key.loc (20 : Nat) (0 : Nat)) (0 : Nat))),
              ((21 : Nat), V.slc (1 : Nat) [V.int IntKind.u8 (0 : Int), V.int IntKind.u8 (1 : Int)] Own.tight),
              ((20 : Nat), V.slc (1 : Nat) y1 (Own.tok (Key.loc (20 : Nat) (0 : Nat)) (0 : Nat))),
              ((19 : Nat), V.int IntKind.u32 ve), ((18 : Nat), V.ptr (Key.loc (1 : Nat) (0 : Nat)) (0 : Nat)),
              ((15 : Nat), V.bool false), ((14 : Nat), V.bool false), ((13 : Nat), V.bool true),
              ((12 : Nat),
                V.agg
                  [V.int IntKind.u32 ve, V.slc (36 : Nat) iv Own.none, V.slc (2 : Nat) ov Own.none,
                    V.int IntKind.u32 lo]),
              ((11 : Nat), V.bool false), ((10 : Nat), V.bool false), ((9 : Nat), V.bool true),
              ((8 : Nat),
                V.agg
                  [V.int IntKind.u32 ve, V.slc (36 : Nat) iv Own.none, V.slc (2 : Nat) ov Own.none,
                    V.int IntKind.u32 lo]),
              ((2 : Nat), V.slc (1 : Nat) [] Own.tight), ((1 : Nat), V.ptr (Key.loc (1 : Nat) (0 : Nat)) (0 : Nat)),
              ((0 : Nat), V.agg (txc ve lo iv ov))]
            [(Key.loc (1 : Nat) (0 : Nat),
                Ev.Obj.cells
                  [V.int IntKind.u32 ve, V.slc (36 : Nat) iv Own.none, V.slc (2 : Nat) ov Own.none,
                    V.int IntKind.u32 lo]),
              (Key.loc (20 : Nat) (0 : Nat), Obj.tok (List.length y1 + (2 : Nat))),
              (Key.loc (24 : Nat) (0 : Nat), Obj.tok (List.length y2))]) =
        some
          (Ex.exit (0 : Nat),
            St.mk
              [((29 : Nat), V.bool (decide ((↑(List.length iv) : Int) < (↑(List.length iv) : Int)))),
                ((1 : Nat), V.ptr (Key.loc (1 : Nat) (0 : Nat)) (0 : Nat)), ((3 : Nat), tokV (1004 : Nat) y3),
                ((26 : Nat), V.slc (36 : Nat) iv Own.none), ((27 : Nat), V.int IntKind.i64 (↑(List.length iv) : Int)),
                ((28 : Nat), V.int IntKind.i64 (↑(List.length iv) : Int))]
              [(Key.loc (1 : Nat) (0 : Nat), Ev.Obj.cells (txc ve lo iv ov)),
                (Key.loc (1004 : Nat) (0 : Nat), Obj.tok (List.length y3))]),
      callIs C (69 : Nat) [V.slc (1 : Nat) y3 Own.none, V.int IntKind.u32 lo] [] (tk y4) [] [Obj.tok (List.length y4)]]) := by kernel_rfl
def mk2 : List V := [.int .u8 0, .int .u8 1]
theorem mk2_len : mk2.length = 2 := rfl
def baseB (t : TxM) : List V := sm t.ve ++ bodyB t ++ sm t.lo
def wB (x : InM) : List V := countB x.wi.length ++ flat countedB x.wi
def bytesB (t : TxM) : List V := if witB t = true then sm t.ve ++ mk2 ++ bodyB t ++ flat wB t.ins ++ sm t.lo else baseB t
def mB (t : TxM) (l : List V) : List V := if mayB t = true then l else []
theorem bodyB_le {t : TxM} (hok : t.ok) (hm : t.may) : (bodyB t).length ≤ 60000 := by
  obtain ⟨⟨_, n2⟩, ⟨_, m2⟩, hi, ho⟩ := hm
  have hci := (countB_le (t.ins.length : Int)).2
  have hco := (countB_le (t.outs.length : Int)).2
  have h1 := flat_le inB 543 t.ins (fun x hx => inB_le (hok.1 x hx) (hi x hx))
  have h2 := flat_le otB 511 t.outs (fun x hx => otB_le (ho x hx))
  have h3 := Nat.mul_le_mul_right 543 n2
  have h4 := Nat.mul_le_mul_right 511 m2
  simp only [bodyB, List.length_append]
  omega
theorem wB_le {x : InM} (hs : x.small) : (wB x).length ≤ 5033 := by
  have hc := (countB_le (x.wi.length : Int)).2
  have h1 := flat_le countedB 503 x.wi (fun r hr => by have := countedB_le r; have := hs.2.2 r hr; omega)
  have h2 := Nat.mul_le_mul_right 503 hs.2.1
  simp only [wB, List.length_append]
  omega
noncomputable def C58 : FuncId → Option Contract := addC (addC (addC noC 102 c102) 69 c69) 103 c103
theorem s58 : Sound Tryd.prog G C58 := ((sound_noC.add Tryd.func102 (by kernel_rfl) h102').add Tryd.func69 (by kernel_rfl) h69').add Tryd.func103 (by kernel_rfl) h103'
noncomputable def c58 : Contract := relC (fun t : TxM => ([t.v], [])) TxM.ok (fun t => (rowV (mB t (baseB t)), [], []))
theorem run58 (t : TxM) (h : t.ok) : a58.run F15 C58 [t.v] [] = some (rowV (mB t (baseB t)), [], []) := by
  by_cases hb : mayB t = true
  · have hm := mayB_iff.1 hb
    have hl := bodyB_le h hm
    rw [mB, if_pos hb]
    exact runP_sound (bs1 t.ve t.lo (t.ins.map InM.v) (t.outs.map OutM.v) (sm t.ve) (sm t.ve ++ bodyB t) (sm t.ve ++ bodyB t ++ sm t.lo) C58)
      ⟨call102 rfl h hb, rfl, call69 (xs := []) rfl (by simp [lam]), call103 rfl (by rw [lowB_len4]; omega) h hm, call69 rfl (by rw [List.length_append, lowB_len4]; unfold lam; omega), trivial⟩
  · rw [mB, if_neg hb]
    exact runP_sound (bs0 t.ve t.lo (t.ins.map InM.v) (t.outs.map OutM.v) C58) ⟨call102 rfl h (by simpa using hb), rfl, trivial⟩
theorem h58' : Holds Tryd.prog G 58 c58 := (fn_holds s58 hM F15 Tryd.func58 p58 o58).less fun args objs x h => by
  obtain ⟨t, hl, he, rfl⟩ := relC_of h
  simp only [Prod.mk.injEq] at he
  obtain ⟨rfl, rfl⟩ := he
  exact run58 t hl
theorem call58 {C : FuncId → Option Contract} (hC : C 58 = some c58) {t : TxM} (h : t.ok) : callIs C 58 [t.v] [] (rowV (mB t (baseB t))) [] [] := by
  simp only [callIs, hC, c58]
  rw [txC_eq (fun _ h => h) h]
noncomputable def C59 : FuncId → Option Contract := addC (addC (addC (addC C58 104 c104) 58 c58) 68 c68) 105 c105
theorem s59 : Sound Tryd.prog G C59 := (((s58.add Tryd.func104 (by kernel_rfl) h104').add Tryd.func58 (by kernel_rfl) h58').add Tryd.func68 (by kernel_rfl) h68').add Tryd.func105 (by kernel_rfl) h105'
theorem wit_loop (ve lo : Int) (iv ov : List V) (N i : Nat) (ws : List (List V)) (hs : ∀ r ∈ ws, r.length ≤ 500) (hM : ws.length ≤ 10) (b0 : List V) (hb : b0.length ≤ 1000000) {s0 : St} (h0 : cl59b s0 = vS (txc ve lo iv ov) (.slc 36 iv .none) N i (.slc 1 (ws.map rowV) .none) ws.length b0 0) :
    evalCode C59 F15 (.loopR [1, 3, 26, 27, 28, 38, 39, 40] [1, 36, 46] [(36, 1003), (46, 1003)] b59_0) s0 = some (.exit 2, vX (txc ve lo iv ov) (.slc 36 iv .none) N i (.slc 1 (ws.map rowV) .none) ws.length (b0 ++ flat countedB ws)) := by
  have hfl : ∀ k, (b0 ++ flat countedB (ws.take k)).length ≤ 1010000 := fun k => by
    have h1 := flat_le countedB 503 (ws.take k) (fun r hr => by have := countedB_le r; have := hs r (List.mem_of_mem_take hr); omega)
    have h2 : (ws.take k).length ≤ 10 := by rw [List.length_take]; omega
    have h3 := Nat.mul_le_mul_right 503 h2
    rw [List.length_append]; omega
  refine ev_loopR (fun k => vS (txc ve lo iv ov) (.slc 36 iv .none) N i (.slc 1 (ws.map rowV) .none) ws.length (b0 ++ flat countedB (ws.take k)) k) ws.length (by simp only [List.take_zero, flat, List.append_nil]; exact h0) (fun k hk => ?_) ?_ (by simp) (by unfold F15; omega)
  · have hr := hs _ (List.getElem_mem hk)
    have hb := hfl k
    refine body_to (vb ve lo iv ov N i ws.length k (ws.map rowV) (b0 ++ flat countedB (ws.take k)) (b0 ++ flat countedB (ws.take k) ++ countedB ws[k]) ws[k] C59) ⟨by simpa using hk, ⟨by omega, getElem_map hk⟩, call105 rfl (by unfold lam; omega) (by omega), trivial⟩ ?_
    rw [wrap_succ k (by omega)]
    have e : b0 ++ flat countedB (ws.take k) ++ countedB ws[k] = b0 ++ flat countedB (ws.take (k + 1)) := by rw [flat_take countedB (List.getElem?_eq_getElem hk), List.append_assoc]
    rw [e]; rfl
  · have := exitP_sound (vx ve lo iv ov N i ws.length (ws.map rowV) (b0 ++ flat countedB (ws.take ws.length)) C59) ⟨by simp, trivial⟩
    rw [List.take_length] at this
    simp only [List.take_length]
    exact this
theorem wits_loop (ve lo : Int) (ov : List V) (ins : List InM) (hok : ∀ x ∈ ins, x.ok) (hs : ∀ x ∈ ins, x.small) (hN : ins.length ≤ 50) (b0 : List V) (hb : b0.length ≤ 100000) {s0 : St} (h0 : cl59a s0 = wS (txc ve lo (ins.map InM.v) ov) (insV ins) ins.length b0 0) :
    evalCode C59 F15 (.loopR [1, 3, 26, 27, 28] [1, 24, 1003] [(24, 1004), (1003, 1004)] b59_1) s0 = some (.exit 0, wX (txc ve lo (ins.map InM.v) ov) (insV ins) ins.length (b0 ++ flat wB ins)) := by
  have hfl : ∀ i, (b0 ++ flat wB (ins.take i)).length ≤ 400000 := fun i => by
    have h1 := flat_le wB 5033 (ins.take i) (fun x hx => wB_le (hs x (List.mem_of_mem_take hx)))
    have h2 : (ins.take i).length ≤ 50 := by rw [List.length_take]; omega
    have h3 := Nat.mul_le_mul_right 5033 h2
    rw [List.length_append]; omega
  refine ev_loopR (fun i => wS (txc ve lo (ins.map InM.v) ov) (insV ins) ins.length (b0 ++ flat wB (ins.take i)) i) ins.length (by simp only [List.take_zero, flat, List.append_nil]; exact h0) (fun i hi => ?_) ?_ (by simp) (by unfold F15; omega)
  · have hx := List.getElem_mem hi
    obtain ⟨w, hw⟩ := p32_of (hok _ hx).1 (hok _ hx).2
    have hsm := hs _ hx
    have hv := InM.v_eq ins[i] hw
    have hb := hfl i
    have hc := (countB_le (ins[i].wi.length : Int)).2
    have lw : (ins[i].wi.map rowV).length = ins[i].wi.length := List.length_map ..
    refine body_to (wb ve lo ins[i].vo ins[i].sq (ins.map InM.v) ov ins.length i (b0 ++ flat wB (ins.take i)) (b0 ++ flat wB (ins.take i) ++ countB ins[i].wi.length) (b0 ++ flat wB (ins.take i) ++ countB ins[i].wi.length ++ flat countedB ins[i].wi) ins[i].sc w (ins[i].wi.map rowV) C59)
      ⟨by simpa using hi, ⟨by omega, by rw [getElem_map hi, hv]⟩, by rw [lw]; exact call68 rfl (by unfold lam; omega) (by have := hsm.2.1; omega), by rw [lw]; exact wit_loop ve lo (ins.map InM.v) ov ins.length i ins[i].wi hsm.2.2 hsm.2.1 _ (by rw [List.length_append]; omega) rfl, trivial⟩ ?_
    rw [wrap_succ i (by omega)]
    have e : b0 ++ flat wB (ins.take i) ++ countB ins[i].wi.length ++ flat countedB ins[i].wi = b0 ++ flat wB (ins.take (i + 1)) := by
      rw [flat_take wB (List.getElem?_eq_getElem hi), wB]; simp only [List.append_assoc]
    rw [e]; rfl
  · have := exitP_sound (wx ve lo (ins.map InM.v) ov ins.length (b0 ++ flat wB (ins.take ins.length)) C59) ⟨by simp, trivial⟩
    rw [List.take_length] at this
    simp only [List.take_length]
    exact this
noncomputable def c59 : Contract := relC (fun t : TxM => ([t.v], [])) TxM.ok (fun t => (rowV (mB t (bytesB t)), [], []))
theorem run59 (t : TxM) (h : t.ok) : a59.run F15 C59 [t.v] [] = some (rowV (mB t (bytesB t)), [], []) := by
  by_cases hb : mayB t = true
  · have hm := mayB_iff.1 hb
    have hl := bodyB_le h hm
    by_cases hw : witB t = true
    · rw [mB, if_pos hb, bytesB, if_pos hw]
      have lw : (t.ins.map InM.v).length = t.ins.length := List.length_map ..
      have hfl := flat_le wB 5033 t.ins (fun x hx => wB_le (hm.2.2.1 x hx))
      have h3 := Nat.mul_le_mul_right 5033 hm.1.2
      exact runP_sound (by2 t.ve t.lo (t.ins.map InM.v) (t.outs.map OutM.v) (sm t.ve) (sm t.ve ++ mk2 ++ bodyB t) (sm t.ve ++ mk2 ++ bodyB t ++ flat wB t.ins) (sm t.ve ++ mk2 ++ bodyB t ++ flat wB t.ins ++ sm t.lo) C59)
        ⟨call102 rfl h hb, call104 rfl h hw, rfl, call69 (xs := []) rfl (by simp [lam]), by rw [lowB_len4]; omega, by rw [lowB_len4]; omega, rfl, by rw [Nat.zero_add], call103 (bs := sm t.ve ++ mk2) rfl (by rw [List.length_append, lowB_len4, mk2_len]; omega) h hm,
          by rw [lw]; exact wits_loop t.ve t.lo (t.outs.map OutM.v) t.ins h.1 hm.2.2.1 hm.1.2 _ (by simp only [List.length_append, lowB_len4, mk2_len]; omega) rfl,
          call69 rfl (by simp only [List.length_append, lowB_len4, mk2_len]; unfold lam; omega), trivial⟩
    · have hw' : witB t = false := by simpa using hw
      have e : mB t (bytesB t) = mB t (baseB t) := by rw [bytesB, if_neg hw]
      rw [e]
      exact runP_sound (by1 t.ve t.lo (t.ins.map InM.v) (t.outs.map OutM.v) _ C59) ⟨call102 rfl h hb, call104 rfl h hw', rfl, call58 rfl h, trivial⟩
  · have e : mB t (bytesB t) = mB t (baseB t) := by rw [mB, mB, if_neg hb, if_neg hb]
    rw [e]
    exact runP_sound (by0 t.ve t.lo (t.ins.map InM.v) (t.outs.map OutM.v) _ C59) ⟨call102 rfl h (by simpa using hb), rfl, call58 rfl h, trivial⟩
theorem h59' : Holds Tryd.prog G 59 c59 := (fn_holds s59 hM F15 Tryd.func59 p59 o59).less fun args objs x h => by
  obtain ⟨t, hl, he, rfl⟩ := relC_of h
  simp only [Prod.mk.injEq] at he
  obtain ⟨rfl, rfl⟩ := he
  exact run59 t hl
theorem call59 {C : FuncId → Option Contract} (hC : C 59 = some c59) {t : TxM} (h : t.ok) : callIs C 59 [t.v] [] (rowV (mB t (bytesB t))) [] [] := by
  simp only [callIs, hC, c59]
  rw [txC_eq (fun _ h => h) h]
end Go.Proofs.YtiiohfojejfolaaDoor
