/-
  What is proved: weights and sizes of transactions: what the law of sizes answers. Conditions: none.
-/
import Derived.Test.YtiiohfojejfolaaDoorF8
set_option linter.unusedVariables false
set_option linter.unusedSimpArgs false
set_option maxRecDepth 100000
set_option maxHeartbeats 1000000
namespace Go.Proofs.YtiiohfojejfolaaDoor
open Go Go.Ev Go.Proofs

/-! ### the law of sizes: its paths -/
def k0 : Key := .loc 11 0
def k1 : Key := .loc 11 1
def lS (ve lo : Int) (N M : Nat) (cs os : List V) (i : Nat) : St := ⟨[(5, .ptr (.loc 5 0) 0), (33, .int .i64 N), (34, .int .i64 i)], [(.loc 11 0, .row cs), (.loc 11 1, .row os), (.loc 5 0, .cells [.int .u32 ve, .rowv (.loc 11 0) 36 0 N, .rowv (.loc 11 1) 2 0 M, .int .u32 lo])]⟩
def cl9 : St → St := cleanQ [5, 33, 34] [5, 11]
theorem lb (ve lo : Int) (N M : Nat) (cs os ds : List V) (i : Nat) (C : FuncId → Option Contract) : bodyP C F15 cl9 b9_0 (lS ve lo N M cs os i) [.b true, .act ⟨.rptr (.loc 11 0) (0 + i * 36), []⟩ [.loc 11 0], .act ⟨.tuple [], [(.loc 11 0, .row ds)]⟩ [.loc 11 0]] =
    some
  (St.mk
      [((5 : Nat), V.ptr (Key.loc (5 : Nat) (0 : Nat)) (0 : Nat)), ((33 : Nat), V.int IntKind.i64 (↑N : Int)),
        ((34 : Nat), V.int IntKind.i64 (IntKind.wrap IntKind.i64 ((↑i : Int) + (1 : Int))))]
      [(Key.loc (11 : Nat) (0 : Nat), Obj.row ds), (Key.loc (11 : Nat) (1 : Nat), Obj.row os),
        (Key.loc (5 : Nat) (0 : Nat),
          Ev.Obj.cells
            [V.int IntKind.u32 ve, V.rowv (Key.loc (11 : Nat) (0 : Nat)) (36 : Nat) (0 : Nat) N,
              V.rowv (Key.loc (11 : Nat) (1 : Nat)) (2 : Nat) (0 : Nat) M, V.int IntKind.u32 lo])],
    [decide ((↑i : Int) < (↑N : Int)) = true,
      indexIs (36 : Nat) (V.rowv (Key.loc (11 : Nat) (0 : Nat)) (36 : Nat) (0 : Nat) N) (V.int IntKind.i64 (↑i : Int))
        [(Key.loc (11 : Nat) (0 : Nat), Obj.row cs), (Key.loc (11 : Nat) (1 : Nat), Obj.row os),
          (Key.loc (5 : Nat) (0 : Nat),
            Ev.Obj.cells
              [V.int IntKind.u32 ve, V.rowv (Key.loc (11 : Nat) (0 : Nat)) (36 : Nat) (0 : Nat) N,
                V.rowv (Key.loc (11 : Nat) (1 : Nat)) (2 : Nat) (0 : Nat) M, V.int IntKind.u32 lo])]
        (Ans.mk (V.rptr (Key.loc (11 : Nat) (0 : Nat)) ((0 : Nat) + i * (36 : Nat))) []) [Key.loc (11 : Nat) (0 : Nat)],
      storeIs (1 : Nat) (V.rptr (Key.loc (11 : Nat) (0 : Nat)) ((0 : Nat) + i * (36 : Nat) + (35 : Nat)))
        (V.slc (1 : Nat) [] Own.tight)
        [(Key.loc (11 : Nat) (0 : Nat), Obj.row cs), (Key.loc (11 : Nat) (1 : Nat), Obj.row os),
          (Key.loc (5 : Nat) (0 : Nat),
            Ev.Obj.cells
              [V.int IntKind.u32 ve, V.rowv (Key.loc (11 : Nat) (0 : Nat)) (36 : Nat) (0 : Nat) N,
                V.rowv (Key.loc (11 : Nat) (1 : Nat)) (2 : Nat) (0 : Nat) M, V.int IntKind.u32 lo])]
        (Ans.mk (V.tuple []) [(Key.loc (11 : Nat) (0 : Nat), Obj.row ds)]) [Key.loc (11 : Nat) (0 : Nat)]]) := by kernel_rfl
theorem lx (ve lo : Int) (N M : Nat) (cs os : List V) (i : Nat) (C : FuncId → Option Contract) : exitP C F15 b9_0 (lS ve lo N M cs os i) [.b false] =
    some
  ((Ex.exit (0 : Nat),
      St.mk
        [((35 : Nat), V.bool (decide ((↑i : Int) < (↑N : Int)))),
          ((5 : Nat), V.ptr (Key.loc (5 : Nat) (0 : Nat)) (0 : Nat)), ((33 : Nat), V.int IntKind.i64 (↑N : Int)),
          ((34 : Nat), V.int IntKind.i64 (↑i : Int))]
        [(Key.loc (11 : Nat) (0 : Nat), Obj.row cs), (Key.loc (11 : Nat) (1 : Nat), Obj.row os),
          (Key.loc (5 : Nat) (0 : Nat),
            Ev.Obj.cells
              [V.int IntKind.u32 ve, V.rowv (Key.loc (11 : Nat) (0 : Nat)) (36 : Nat) (0 : Nat) N,
                V.rowv (Key.loc (11 : Nat) (1 : Nat)) (2 : Nat) (0 : Nat) M, V.int IntKind.u32 lo])]),
    [decide ((↑i : Int) < (↑N : Int)) = false]) := by kernel_rfl
def lX (ve lo : Int) (N M : Nat) (cs os : List V) (i : Nat) : St := ⟨(35, .bool (decide ((i : Int) < (N : Int)))) :: (lS ve lo N M cs os i).tm, (lS ve lo N M cs os i).st⟩
def txR (ve lo : Int) (N M : Nat) : V := .agg [.int .u32 ve, .rowv (.arg 0) 36 0 N, .rowv (.arg 1) 2 0 M, .int .u32 lo]
theorem lr (n m ve lo w s w2 s2 : Int) (N M : Nat) (cs os ds fs gs b : List V) (C : FuncId → Option Contract) : a9.runP F15 C [.int .i64 n, .int .i64 m] [] [.callQ (txR ve lo N M) [] [.row cs, .row os], .act ⟨.int .i64 w, []⟩ [.loc 11 1, .loc 11 0], .act ⟨.int .i64 s, []⟩ [.loc 11 1, .loc 11 0], .g false, .g false, .g false, .g false, .g false, .k false, .g false, .g false, .k false, .b false, .loop (.exit 0) (lX ve lo N M ds os N), .act ⟨.int .i64 w2, []⟩ [.loc 11 1, .loc 11 0], .act ⟨.int .i64 s2, []⟩ [.loc 11 1, .loc 11 0], .g true, .g true, .act ⟨.int .i64 s2, []⟩ [.loc 11 1, .loc 11 0], .g true, .g true, .act ⟨rowV b, [(.loc 11 0, .froz fs), (.loc 11 1, .froz gs)]⟩ [.loc 11 1, .loc 11 0], .g true, .g true, .k true, .g true, .call (.bool true) [] [], .k true] =
    some
  ((V.bool true, [], []),
    [callIs C (22 : Nat) [V.int IntKind.i64 n, V.int IntKind.i64 m] [] (txR ve lo N M) [] [Obj.row cs, Obj.row os],
      keyless [cs, os],
      callRIs C (13 : Nat) (23 : Nat)
        [V.agg
            [V.int IntKind.u32 ve, V.rowv (Key.loc (11 : Nat) (0 : Nat)) (36 : Nat) (0 : Nat) N,
              V.rowv (Key.loc (11 : Nat) (1 : Nat)) (2 : Nat) (0 : Nat) M, V.int IntKind.u32 lo]]
        [(Key.loc (11 : Nat) (0 : Nat), Obj.row cs), (Key.loc (11 : Nat) (1 : Nat), Obj.row os),
          (Key.loc (5 : Nat) (0 : Nat),
            Ev.Obj.cells
              [V.int IntKind.u32 ve, V.rowv (Key.loc (11 : Nat) (0 : Nat)) (36 : Nat) (0 : Nat) N,
                V.rowv (Key.loc (11 : Nat) (1 : Nat)) (2 : Nat) (0 : Nat) M, V.int IntKind.u32 lo])]
        (Ans.mk (V.int IntKind.i64 w) []) [Key.loc (11 : Nat) (1 : Nat), Key.loc (11 : Nat) (0 : Nat)],
      callRIs C (15 : Nat) (24 : Nat)
        [V.agg
            [V.int IntKind.u32 ve, V.rowv (Key.loc (11 : Nat) (0 : Nat)) (36 : Nat) (0 : Nat) N,
              V.rowv (Key.loc (11 : Nat) (1 : Nat)) (2 : Nat) (0 : Nat) M, V.int IntKind.u32 lo]]
        [(Key.loc (11 : Nat) (0 : Nat), Obj.row cs), (Key.loc (11 : Nat) (1 : Nat), Obj.row os),
          (Key.loc (5 : Nat) (0 : Nat),
            Ev.Obj.cells
              [V.int IntKind.u32 ve, V.rowv (Key.loc (11 : Nat) (0 : Nat)) (36 : Nat) (0 : Nat) N,
                V.rowv (Key.loc (11 : Nat) (1 : Nat)) (2 : Nat) (0 : Nat) M, V.int IntKind.u32 lo])]
        (Ans.mk (V.int IntKind.i64 s) []) [Key.loc (11 : Nat) (1 : Nat), Key.loc (11 : Nat) (0 : Nat)],
      decide (IntKind.wrap IntKind.i64 ((4 : Int) * s) < w) = false,
      decide (IntKind.wrap IntKind.i64 ((4 : Int) * s) < w) = false,
      decide (IntKind.wrap IntKind.i64 ((4 : Int) * s) < w) = false,
      decide (IntKind.wrap IntKind.i64 ((4 : Int) * s) < w) = false,
      decide (IntKind.wrap IntKind.i64 ((4 : Int) * s) < w) = false,
      decide (IntKind.wrap IntKind.i64 ((4 : Int) * s) < w) = false,
      decide (IntKind.wrap IntKind.i64 ((4 : Int) * s) ≥ IntKind.wrap IntKind.i64 (w + (4 : Int))) = false,
      decide (IntKind.wrap IntKind.i64 ((4 : Int) * s) ≥ IntKind.wrap IntKind.i64 (w + (4 : Int))) = false,
      decide (IntKind.wrap IntKind.i64 ((4 : Int) * s) ≥ IntKind.wrap IntKind.i64 (w + (4 : Int))) = false,
      decide (s < (1 : Int)) = false,
      evalCode C F15 (ACode.loop [(5 : Nat), (33 : Nat), (34 : Nat)] [(5 : Nat), (11 : Nat)] b9_0)
          (St.mk
            [((34 : Nat), V.int IntKind.i64 (0 : Int)), ((33 : Nat), V.int IntKind.i64 (↑N : Int)),
              ((32 : Nat), V.rowv (Key.loc (11 : Nat) (0 : Nat)) (36 : Nat) (0 : Nat) N),
              ((31 : Nat), V.ptr (Key.loc (5 : Nat) (0 : Nat)) (1 : Nat)),
              ((30 : Nat), V.bool (decide (s < (1 : Int)))), ((29 : Nat), V.bool (decide (s < (1 : Int)))),
              ((28 : Nat), V.int IntKind.i64 s),
              ((27 : Nat),
                V.bool (decide (IntKind.wrap IntKind.i64 ((4 : Int) * s) ≥ IntKind.wrap IntKind.i64 (w + (4 : Int))))),
              ((26 : Nat),
                V.bool (decide (IntKind.wrap IntKind.i64 ((4 : Int) * s) ≥ IntKind.wrap IntKind.i64 (w + (4 : Int))))),
              ((25 : Nat),
                V.bool (decide (IntKind.wrap IntKind.i64 ((4 : Int) * s) ≥ IntKind.wrap IntKind.i64 (w + (4 : Int))))),
              ((24 : Nat), V.int IntKind.i64 (IntKind.wrap IntKind.i64 (w + (4 : Int)))),
              ((23 : Nat), V.int IntKind.i64 w),
              ((22 : Nat), V.int IntKind.i64 (IntKind.wrap IntKind.i64 ((4 : Int) * s))),
              ((21 : Nat), V.int IntKind.i64 s),
              ((20 : Nat), V.bool (decide (IntKind.wrap IntKind.i64 ((4 : Int) * s) < w))),
              ((19 : Nat), V.bool (decide (IntKind.wrap IntKind.i64 ((4 : Int) * s) < w))),
              ((18 : Nat), V.int IntKind.i64 w),
              ((17 : Nat), V.int IntKind.i64 (IntKind.wrap IntKind.i64 ((4 : Int) * s))),
              ((16 : Nat), V.int IntKind.i64 s), ((7 : Nat), V.int IntKind.i64 s), ((6 : Nat), V.int IntKind.i64 w),
              ((15 : Nat), V.int IntKind.i64 s),
              ((14 : Nat),
                V.agg
                  [V.int IntKind.u32 ve, V.rowv (Key.loc (11 : Nat) (0 : Nat)) (36 : Nat) (0 : Nat) N,
                    V.rowv (Key.loc (11 : Nat) (1 : Nat)) (2 : Nat) (0 : Nat) M, V.int IntKind.u32 lo]),
              ((13 : Nat), V.int IntKind.i64 w),
              ((12 : Nat),
                V.agg
                  [V.int IntKind.u32 ve, V.rowv (Key.loc (11 : Nat) (0 : Nat)) (36 : Nat) (0 : Nat) N,
                    V.rowv (Key.loc (11 : Nat) (1 : Nat)) (2 : Nat) (0 : Nat) M, V.int IntKind.u32 lo]),
              ((5 : Nat), V.ptr (Key.loc (5 : Nat) (0 : Nat)) (0 : Nat)),
              ((11 : Nat),
                V.agg
                  [V.int IntKind.u32 ve, V.rowv (Key.loc (11 : Nat) (0 : Nat)) (36 : Nat) (0 : Nat) N,
                    V.rowv (Key.loc (11 : Nat) (1 : Nat)) (2 : Nat) (0 : Nat) M, V.int IntKind.u32 lo]),
              ((10 : Nat), V.int IntKind.i64 m), ((9 : Nat), V.int IntKind.i64 n), ((4 : Nat), V.bool false),
              ((0 : Nat), V.int IntKind.i64 n), ((1 : Nat), V.int IntKind.i64 m)]
            [(Key.loc (11 : Nat) (0 : Nat), Obj.row cs), (Key.loc (11 : Nat) (1 : Nat), Obj.row os),
              (Key.loc (5 : Nat) (0 : Nat),
                Ev.Obj.cells
                  [V.int IntKind.u32 ve, V.rowv (Key.loc (11 : Nat) (0 : Nat)) (36 : Nat) (0 : Nat) N,
                    V.rowv (Key.loc (11 : Nat) (1 : Nat)) (2 : Nat) (0 : Nat) M, V.int IntKind.u32 lo])]) =
        some
          (Ex.exit (0 : Nat),
            St.mk
              [((35 : Nat), V.bool (decide ((↑N : Int) < (↑N : Int)))),
                ((5 : Nat), V.ptr (Key.loc (5 : Nat) (0 : Nat)) (0 : Nat)), ((33 : Nat), V.int IntKind.i64 (↑N : Int)),
                ((34 : Nat), V.int IntKind.i64 (↑N : Int))]
              [(Key.loc (11 : Nat) (0 : Nat), Obj.row ds), (Key.loc (11 : Nat) (1 : Nat), Obj.row os),
                (Key.loc (5 : Nat) (0 : Nat),
                  Ev.Obj.cells
                    [V.int IntKind.u32 ve, V.rowv (Key.loc (11 : Nat) (0 : Nat)) (36 : Nat) (0 : Nat) N,
                      V.rowv (Key.loc (11 : Nat) (1 : Nat)) (2 : Nat) (0 : Nat) M, V.int IntKind.u32 lo])]),
      callRIs C (44 : Nat) (23 : Nat)
        [V.agg
            [V.int IntKind.u32 ve, V.rowv (Key.loc (11 : Nat) (0 : Nat)) (36 : Nat) (0 : Nat) N,
              V.rowv (Key.loc (11 : Nat) (1 : Nat)) (2 : Nat) (0 : Nat) M, V.int IntKind.u32 lo]]
        [(Key.loc (11 : Nat) (0 : Nat), Obj.row ds), (Key.loc (11 : Nat) (1 : Nat), Obj.row os),
          (Key.loc (5 : Nat) (0 : Nat),
            Ev.Obj.cells
              [V.int IntKind.u32 ve, V.rowv (Key.loc (11 : Nat) (0 : Nat)) (36 : Nat) (0 : Nat) N,
                V.rowv (Key.loc (11 : Nat) (1 : Nat)) (2 : Nat) (0 : Nat) M, V.int IntKind.u32 lo])]
        (Ans.mk (V.int IntKind.i64 w2) []) [Key.loc (11 : Nat) (1 : Nat), Key.loc (11 : Nat) (0 : Nat)],
      callRIs C (46 : Nat) (24 : Nat)
        [V.agg
            [V.int IntKind.u32 ve, V.rowv (Key.loc (11 : Nat) (0 : Nat)) (36 : Nat) (0 : Nat) N,
              V.rowv (Key.loc (11 : Nat) (1 : Nat)) (2 : Nat) (0 : Nat) M, V.int IntKind.u32 lo]]
        [(Key.loc (11 : Nat) (0 : Nat), Obj.row ds), (Key.loc (11 : Nat) (1 : Nat), Obj.row os),
          (Key.loc (5 : Nat) (0 : Nat),
            Ev.Obj.cells
              [V.int IntKind.u32 ve, V.rowv (Key.loc (11 : Nat) (0 : Nat)) (36 : Nat) (0 : Nat) N,
                V.rowv (Key.loc (11 : Nat) (1 : Nat)) (2 : Nat) (0 : Nat) M, V.int IntKind.u32 lo])]
        (Ans.mk (V.int IntKind.i64 s2) []) [Key.loc (11 : Nat) (1 : Nat), Key.loc (11 : Nat) (0 : Nat)],
      (w2 == IntKind.wrap IntKind.i64 ((4 : Int) * s2)) = true,
      (w2 == IntKind.wrap IntKind.i64 ((4 : Int) * s2)) = true,
      callRIs C (51 : Nat) (24 : Nat)
        [V.agg
            [V.int IntKind.u32 ve, V.rowv (Key.loc (11 : Nat) (0 : Nat)) (36 : Nat) (0 : Nat) N,
              V.rowv (Key.loc (11 : Nat) (1 : Nat)) (2 : Nat) (0 : Nat) M, V.int IntKind.u32 lo]]
        [(Key.loc (11 : Nat) (0 : Nat), Obj.row ds), (Key.loc (11 : Nat) (1 : Nat), Obj.row os),
          (Key.loc (5 : Nat) (0 : Nat),
            Ev.Obj.cells
              [V.int IntKind.u32 ve, V.rowv (Key.loc (11 : Nat) (0 : Nat)) (36 : Nat) (0 : Nat) N,
                V.rowv (Key.loc (11 : Nat) (1 : Nat)) (2 : Nat) (0 : Nat) M, V.int IntKind.u32 lo])]
        (Ans.mk (V.int IntKind.i64 s2) []) [Key.loc (11 : Nat) (1 : Nat), Key.loc (11 : Nat) (0 : Nat)],
      (w2 == IntKind.wrap IntKind.i64 ((4 : Int) * s2)) = true,
      (w2 == IntKind.wrap IntKind.i64 ((4 : Int) * s2)) = true,
      callRIs C (53 : Nat) (25 : Nat)
        [V.agg
            [V.int IntKind.u32 ve, V.rowv (Key.loc (11 : Nat) (0 : Nat)) (36 : Nat) (0 : Nat) N,
              V.rowv (Key.loc (11 : Nat) (1 : Nat)) (2 : Nat) (0 : Nat) M, V.int IntKind.u32 lo]]
        [(Key.loc (11 : Nat) (0 : Nat), Obj.row ds), (Key.loc (11 : Nat) (1 : Nat), Obj.row os),
          (Key.loc (5 : Nat) (0 : Nat),
            Ev.Obj.cells
              [V.int IntKind.u32 ve, V.rowv (Key.loc (11 : Nat) (0 : Nat)) (36 : Nat) (0 : Nat) N,
                V.rowv (Key.loc (11 : Nat) (1 : Nat)) (2 : Nat) (0 : Nat) M, V.int IntKind.u32 lo])]
        (Ans.mk (rowV b) [(Key.loc (11 : Nat) (0 : Nat), Obj.froz fs), (Key.loc (11 : Nat) (1 : Nat), Obj.froz gs)])
        [Key.loc (11 : Nat) (1 : Nat), Key.loc (11 : Nat) (0 : Nat)],
      (w2 == IntKind.wrap IntKind.i64 ((4 : Int) * s2)) = true,
      (w2 == IntKind.wrap IntKind.i64 ((4 : Int) * s2)) = true,
      (w2 == IntKind.wrap IntKind.i64 ((4 : Int) * s2)) = true, (s2 == (↑(List.length b) : Int)) = true,
      callIs C (26 : Nat) [] [] (V.bool true) [] [], (s2 == (↑(List.length b) : Int)) = true]) := by kernel_rfl
theorem aw (ve lo w s : Int) (N M : Nat) (cs os : List V) (x : Nat → Int) (C : FuncId → Option Contract) : a26.runP F15 C [] [] [.callQ (txR ve lo N M) [] [.row cs, .row os], .act ⟨.agg (p32 x), []⟩ [.loc 2 1, .loc 2 0], .act ⟨.agg (p32 x), []⟩ [.loc 2 1, .loc 2 0], .q true, .g true, .g true, .call (.int .i64 0) [] [], .g true, .k true, .g true, .g true, .call (.int .i64 0) [] [], .g true, .k true, .g true, .g true, .act ⟨.int .i64 s, []⟩ [.loc 2 1, .loc 2 0], .g true, .k true, .g true, .g true, .act ⟨.int .i64 w, []⟩ [.loc 2 1, .loc 2 0], .g true, .g true, .act ⟨.int .i64 s, []⟩ [.loc 2 1, .loc 2 0], .g true, .g true, .g true, .k true] =
    some
  ((V.bool (decide (w ≥ IntKind.wrap IntKind.i64 (IntKind.wrap IntKind.i64 ((4 : Int) * s) - (3 : Int)))), [], []),
    [callIs C (22 : Nat) [V.int IntKind.i64 (5 : Int), V.int IntKind.i64 (9 : Int)] [] (txR ve lo N M) []
        [Obj.row cs, Obj.row os],
      keyless [cs, os],
      callRIs C (4 : Nat) (63 : Nat)
        [V.agg
            [V.int IntKind.u32 ve, V.rowv (Key.loc (2 : Nat) (0 : Nat)) (36 : Nat) (0 : Nat) N,
              V.rowv (Key.loc (2 : Nat) (1 : Nat)) (2 : Nat) (0 : Nat) M, V.int IntKind.u32 lo]]
        [(Key.loc (2 : Nat) (0 : Nat), Obj.row cs), (Key.loc (2 : Nat) (1 : Nat), Obj.row os),
          (Key.loc (1 : Nat) (0 : Nat),
            Ev.Obj.cells
              [V.int IntKind.u32 ve, V.rowv (Key.loc (2 : Nat) (0 : Nat)) (36 : Nat) (0 : Nat) N,
                V.rowv (Key.loc (2 : Nat) (1 : Nat)) (2 : Nat) (0 : Nat) M, V.int IntKind.u32 lo])]
        (Ans.mk (V.agg (p32 x)) []) [Key.loc (2 : Nat) (1 : Nat), Key.loc (2 : Nat) (0 : Nat)],
      callRIs C (6 : Nat) (64 : Nat)
        [V.agg
            [V.int IntKind.u32 ve, V.rowv (Key.loc (2 : Nat) (0 : Nat)) (36 : Nat) (0 : Nat) N,
              V.rowv (Key.loc (2 : Nat) (1 : Nat)) (2 : Nat) (0 : Nat) M, V.int IntKind.u32 lo]]
        [(Key.loc (2 : Nat) (0 : Nat), Obj.row cs), (Key.loc (2 : Nat) (1 : Nat), Obj.row os),
          (Key.loc (1 : Nat) (0 : Nat),
            Ev.Obj.cells
              [V.int IntKind.u32 ve, V.rowv (Key.loc (2 : Nat) (0 : Nat)) (36 : Nat) (0 : Nat) N,
                V.rowv (Key.loc (2 : Nat) (1 : Nat)) (2 : Nat) (0 : Nat) M, V.int IntKind.u32 lo])]
        (Ans.mk (V.agg (p32 x)) []) [Key.loc (2 : Nat) (1 : Nat), Key.loc (2 : Nat) (0 : Nat)],
      (32 : Nat) = (32 : Nat), (32 : Nat) = (32 : Nat), eqCells (p32 x) (p32 x) = some true, true = true, true = true,
      callIs C (23 : Nat)
        [V.agg
            [V.int IntKind.u32 (0 : Int), V.slc (36 : Nat) [] Own.tight, V.slc (2 : Nat) [] Own.tight,
              V.int IntKind.u32 (0 : Int)]]
        [] (V.int IntKind.i64 (0 : Int)) [] [],
      true = true, true = true, true = true, true = true,
      callIs C (24 : Nat)
        [V.agg
            [V.int IntKind.u32 (0 : Int), V.slc (36 : Nat) [] Own.tight, V.slc (2 : Nat) [] Own.tight,
              V.int IntKind.u32 (0 : Int)]]
        [] (V.int IntKind.i64 (0 : Int)) [] [],
      true = true, true = true, true = true, true = true,
      callRIs C (20 : Nat) (24 : Nat)
        [V.agg
            [V.int IntKind.u32 ve, V.rowv (Key.loc (2 : Nat) (0 : Nat)) (36 : Nat) (0 : Nat) N,
              V.rowv (Key.loc (2 : Nat) (1 : Nat)) (2 : Nat) (0 : Nat) M, V.int IntKind.u32 lo]]
        [(Key.loc (2 : Nat) (0 : Nat), Obj.row cs), (Key.loc (2 : Nat) (1 : Nat), Obj.row os),
          (Key.loc (1 : Nat) (0 : Nat),
            Ev.Obj.cells
              [V.int IntKind.u32 ve, V.rowv (Key.loc (2 : Nat) (0 : Nat)) (36 : Nat) (0 : Nat) N,
                V.rowv (Key.loc (2 : Nat) (1 : Nat)) (2 : Nat) (0 : Nat) M, V.int IntKind.u32 lo])]
        (Ans.mk (V.int IntKind.i64 s) []) [Key.loc (2 : Nat) (1 : Nat), Key.loc (2 : Nat) (0 : Nat)],
      true = true, true = true, decide (s > (0 : Int)) = true, decide (s > (0 : Int)) = true,
      callRIs C (25 : Nat) (23 : Nat)
        [V.agg
            [V.int IntKind.u32 ve, V.rowv (Key.loc (2 : Nat) (0 : Nat)) (36 : Nat) (0 : Nat) N,
              V.rowv (Key.loc (2 : Nat) (1 : Nat)) (2 : Nat) (0 : Nat) M, V.int IntKind.u32 lo]]
        [(Key.loc (2 : Nat) (0 : Nat), Obj.row cs), (Key.loc (2 : Nat) (1 : Nat), Obj.row os),
          (Key.loc (1 : Nat) (0 : Nat),
            Ev.Obj.cells
              [V.int IntKind.u32 ve, V.rowv (Key.loc (2 : Nat) (0 : Nat)) (36 : Nat) (0 : Nat) N,
                V.rowv (Key.loc (2 : Nat) (1 : Nat)) (2 : Nat) (0 : Nat) M, V.int IntKind.u32 lo])]
        (Ans.mk (V.int IntKind.i64 w) []) [Key.loc (2 : Nat) (1 : Nat), Key.loc (2 : Nat) (0 : Nat)],
      decide (s > (0 : Int)) = true, decide (s > (0 : Int)) = true,
      callRIs C (27 : Nat) (24 : Nat)
        [V.agg
            [V.int IntKind.u32 ve, V.rowv (Key.loc (2 : Nat) (0 : Nat)) (36 : Nat) (0 : Nat) N,
              V.rowv (Key.loc (2 : Nat) (1 : Nat)) (2 : Nat) (0 : Nat) M, V.int IntKind.u32 lo]]
        [(Key.loc (2 : Nat) (0 : Nat), Obj.row cs), (Key.loc (2 : Nat) (1 : Nat), Obj.row os),
          (Key.loc (1 : Nat) (0 : Nat),
            Ev.Obj.cells
              [V.int IntKind.u32 ve, V.rowv (Key.loc (2 : Nat) (0 : Nat)) (36 : Nat) (0 : Nat) N,
                V.rowv (Key.loc (2 : Nat) (1 : Nat)) (2 : Nat) (0 : Nat) M, V.int IntKind.u32 lo])]
        (Ans.mk (V.int IntKind.i64 s) []) [Key.loc (2 : Nat) (1 : Nat), Key.loc (2 : Nat) (0 : Nat)],
      decide (s > (0 : Int)) = true, decide (s > (0 : Int)) = true, decide (s > (0 : Int)) = true,
      decide (s > (0 : Int)) = true]) := by kernel_rfl
/-! ### weight, size, base, names -/
def wtB (t : TxM) : Int := 3 * ((mB t (baseB t)).length : Int) + ((mB t (bytesB t)).length : Int)
def szB (t : TxM) : Int := (wtB t + 3) / 4
theorem mB_le {t : TxM} (h : t.ok) : (mB t (baseB t)).length ≤ 60008 ∧ (mB t (bytesB t)).length ≤ 400000 := by
  unfold mB
  by_cases hb : mayB t = true
  · rw [if_pos hb, if_pos hb]
    have hm := mayB_iff.1 hb
    have hl := bodyB_le h hm
    have hfl := flat_le wB 5033 t.ins (fun x hx => wB_le (hm.2.2.1 x hx))
    have h3 := Nat.mul_le_mul_right 5033 hm.1.2
    have h1 : (baseB t).length ≤ 60008 := by simp only [baseB, List.length_append, lowB_len4]; omega
    refine ⟨h1, ?_⟩
    unfold bytesB
    split
    · simp only [List.length_append, lowB_len4, mk2_len]; omega
    · omega
  · rw [if_neg hb, if_neg hb]; simp
theorem wtB_rng {t : TxM} (h : t.ok) : 0 ≤ wtB t ∧ wtB t ≤ 600000 := by
  have := mB_le h; unfold wtB; omega
noncomputable def C23 : FuncId → Option Contract := addC (addC noC 58 c58) 59 c59
theorem s23 : Sound Tryd.prog G C23 := (sound_noC.add Tryd.func58 (by kernel_rfl) h58').add Tryd.func59 (by kernel_rfl) h59'
noncomputable def c23 : Contract := relC (fun t : TxM => ([t.v], [])) TxM.ok (fun t => (.int .i64 (wtB t), [], []))
theorem run23 (t : TxM) (h : t.ok) : a23.run F15 C23 [t.v] [] = some (.int .i64 (wtB t), [], []) := by
  have hl := mB_le h
  have e1 : IntKind.i64.wrap (3 * ((mB t (baseB t)).length : Int)) = 3 * ((mB t (baseB t)).length : Int) := wrap64_id (by omega) (by omega)
  have e2 : IntKind.i64.wrap (3 * ((mB t (baseB t)).length : Int) + ((mB t (bytesB t)).length : Int)) = wtB t := wrap64_id (by omega) (by omega)
  have := runP_sound (we0 t.ve t.lo (t.ins.map InM.v) (t.outs.map OutM.v) (mB t (baseB t)) (mB t (bytesB t)) C23) ⟨call58 rfl h, call59 rfl h, trivial⟩
  rw [e1, e2] at this
  exact this
theorem h23' : Holds Tryd.prog G 23 c23 := (fn_holds s23 hM F15 Tryd.func23 p23 o23).less fun args objs x h => by
  obtain ⟨t, hl, he, rfl⟩ := relC_of h
  simp only [Prod.mk.injEq] at he
  obtain ⟨rfl, rfl⟩ := he
  exact run23 t hl
theorem call23 {C : FuncId → Option Contract} (hC : C 23 = some c23) {t : TxM} (h : t.ok) : callIs C 23 [t.v] [] (.int .i64 (wtB t)) [] [] := by
  simp only [callIs, hC, c23]
  rw [txC_eq (fun _ h => h) h]
noncomputable def C24 : FuncId → Option Contract := addC noC 23 c23
theorem s24 : Sound Tryd.prog G C24 := sound_noC.add Tryd.func23 (by kernel_rfl) h23'
noncomputable def c24 : Contract := relC (fun t : TxM => ([t.v], [])) TxM.ok (fun t => (.int .i64 (szB t), [], []))
theorem run24 (t : TxM) (h : t.ok) : a24.run F15 C24 [t.v] [] = some (.int .i64 (szB t), [], []) := by
  have hl := wtB_rng h
  have e1 : IntKind.i64.wrap (wtB t + 3) = wtB t + 3 := wrap64_id (by omega) (by omega)
  have e2 : IntKind.i64.wrap (Int.tdiv (wtB t + 3) 4) = szB t := by
    rw [Int.tdiv_eq_ediv_of_nonneg (by omega)]
    exact wrap64_id (by omega) (by omega)
  have := runP_sound (si0 t.ve t.lo (wtB t) (t.ins.map InM.v) (t.outs.map OutM.v) C24) ⟨call23 rfl h, trivial⟩
  rw [e1, e2] at this
  exact this
theorem h24' : Holds Tryd.prog G 24 c24 := (fn_holds s24 hM F15 Tryd.func24 p24 o24).less fun args objs x h => by
  obtain ⟨t, hl, he, rfl⟩ := relC_of h
  simp only [Prod.mk.injEq] at he
  obtain ⟨rfl, rfl⟩ := he
  exact run24 t hl
def ok25 (t : TxM) : Prop := t.ok ∧ t.num
noncomputable def C25 : FuncId → Option Contract := addC (addC (addC noC 60 c60) 61 c61) 62 c62
theorem s25 : Sound Tryd.prog G C25 := ((sound_noC.add Tryd.func60 (by kernel_rfl) h60').add Tryd.func61 (by kernel_rfl) h61').add Tryd.func62 (by kernel_rfl) h62'
noncomputable def c25 : Contract := relC (fun t : TxM => ([t.v], [])) ok25 (fun t => (rowV (mB t (baseB t)), [], []))
theorem run25 (t : TxM) (h : t.ok) (hn : t.num) : a25.run F15 C25 [t.v] [] = some (rowV (mB t (baseB t)), [], []) := by
  by_cases hb : mayB t = true
  · have hm := mayB_iff.1 hb
    have hl := bodyB_le h hm
    rw [mB, if_pos hb]
    exact runP_sound (ba1 t.ve t.lo (t.ins.map InM.v) (t.outs.map OutM.v) (sm t.ve) (sm t.ve ++ bodyB t) (sm t.ve ++ bodyB t ++ sm t.lo) C25)
      ⟨call60 rfl h hb, rfl, call61 (xs := []) rfl (by simp [lam]) hn.1, call62 rfl (by rw [lowB_len4]; omega) h hm hn, call61 rfl (by rw [List.length_append, lowB_len4]; unfold lam; omega) hn.2.1, trivial⟩
  · rw [mB, if_neg hb]
    exact runP_sound (ba0 t.ve t.lo (t.ins.map InM.v) (t.outs.map OutM.v) C25) ⟨call60 rfl h (by simpa using hb), rfl, trivial⟩
theorem h25' : Holds Tryd.prog G 25 c25 := (fn_holds s25 hM F15 Tryd.func25 p25 o25).less fun args objs x h => by
  obtain ⟨t, hl, he, rfl⟩ := relC_of h
  simp only [Prod.mk.injEq] at he
  obtain ⟨rfl, rfl⟩ := he
  exact run25 t hl.1 hl.2
theorem call25 {C : FuncId → Option Contract} (hC : C 25 = some c25) {t : TxM} (h : t.ok) (hn : t.num) : callIs C 25 [t.v] [] (rowV (mB t (baseB t))) [] [] := by
  simp only [callIs, hC, c25]
  rw [txC_eq (fun _ h => h.1) ⟨h, hn⟩]
def ok63 (t : TxM) : Prop := t.ok ∧ t.num ∧ kinds .u8 (mB t (baseB t)) = true
def nameB (t : TxM) : List V := shaV (shaV (mB t (baseB t)))
noncomputable def C63 : FuncId → Option Contract := addC (addC (addC (addC noC 58 c58) 25 c25) 19 c19) 20 c19
theorem s63 : Sound Tryd.prog G C63 := (((sound_noC.add Tryd.func58 (by kernel_rfl) h58').add Tryd.func25 (by kernel_rfl) h25').add Tryd.func19 (by kernel_rfl) h19').add Tryd.func20 (by kernel_rfl) h20'
theorem nameB_p (t : TxM) : ∃ w, nameB t = p32 w := p32_of (shaV_len _) (shaV_kinds _)
noncomputable def c63 : Contract := relC (fun t : TxM => ([t.v], [])) ok63 (fun t => (.agg (nameB t), [], []))
theorem call19 {C : FuncId → Option Contract} {f : FuncId} (hC : C f = some c19) {xs : List V} (hk : kinds .u8 xs = true) (hl : xs.length ≤ lim) : callIs C f [.slc 1 xs .none] [] (.agg (shaV (shaV xs))) [] [] := by
  simp only [callIs, hC, c19, if_pos (And.intro hk hl)]
theorem run63 (t : TxM) (h : ok63 t) : a63.run F15 C63 [t.v] [] = some (.agg (nameB t), [], []) := by
  obtain ⟨w, hw⟩ := nameB_p t
  have hl := mB_le h.1
  have h19 := call19 (C := C63) (f := 19) rfl h.2.2 (by unfold lim; omega)
  have e : shaV (shaV (mB t (baseB t))) = p32 w := hw
  rw [e] at h19
  rw [hw]
  exact runP_sound (ti0 t.ve t.lo (t.ins.map InM.v) (t.outs.map OutM.v) (mB t (baseB t)) w C63) ⟨call58 rfl h.1, h19, trivial⟩
theorem run64 (t : TxM) (h : ok63 t) : a64.run F15 C63 [t.v] [] = some (.agg (nameB t), [], []) := by
  obtain ⟨w, hw⟩ := nameB_p t
  have hl := mB_le h.1
  have h19 := call19 (C := C63) (f := 20) rfl h.2.2 (by unfold lim; omega)
  have e : shaV (shaV (mB t (baseB t))) = p32 w := hw
  rw [e] at h19
  rw [hw]
  exact runP_sound (ti1 t.ve t.lo (t.ins.map InM.v) (t.outs.map OutM.v) (mB t (baseB t)) w C63) ⟨call25 rfl h.1 h.2.1, h19, trivial⟩
theorem h63' : Holds Tryd.prog G 63 c63 := (fn_holds s63 hM F15 Tryd.func63 p63 o63).less fun args objs x h => by
  obtain ⟨t, hl, he, rfl⟩ := relC_of h
  simp only [Prod.mk.injEq] at he
  obtain ⟨rfl, rfl⟩ := he
  exact run63 t hl
theorem h64' : Holds Tryd.prog G 64 c63 := (fn_holds s63 hM F15 Tryd.func64 p64 o64).less fun args objs x h => by
  obtain ⟨t, hl, he, rfl⟩ := relC_of h
  simp only [Prod.mk.injEq] at he
  obtain ⟨rfl, rfl⟩ := he
  exact run64 t hl

/-! ### a transaction of numbers, as rows and as a model -/
def insOf (m : Int) (N : Nat) : List InM := (List.range N).map (inOf m)
def outsOf (n m : Int) (M : Nat) : List OutM := (List.range M).map (outOf n m)
def txOf (n m : Int) : TxM := ⟨veO n, insOf m (tN n), outsOf n m (uN n), loO n⟩
def rowI (l : List InM) : List V := l.flatMap fun x => x.v.cellsOf
def rowO (l : List OutM) : List V := l.flatMap fun y => y.v.cellsOf
theorem rowIn_eq (m : Int) : ∀ N, rowIn m N = rowI (insOf m N)
  | 0 => rfl
  | N + 1 => by rw [rowIn, rowIn_eq m N, insOf, insOf, List.range_succ, List.map_append, rowI, rowI, List.flatMap_append]; simp
theorem rowOut_eq (n m : Int) : ∀ M, rowOut n m M = rowO (outsOf n m M)
  | 0 => rfl
  | M + 1 => by
    rw [rowOut, rowOut_eq n m M, outsOf, outsOf, List.range_succ, List.map_append, rowO, rowO, List.flatMap_append]
    simp [OutM.v, V.cellsOf]
theorem inOf_ok (m : Int) (i : Nat) : (inOf m i).ok := by
  refine ⟨?_, ?_⟩
  · simp only [inOf, inR, List.length_cons, List.length_append, List.length_replicate, List.length_nil]
  · simp only [inOf, inR]
    have h1 := kinds_rep 30
    have h2 : kinds .u8 [V.int .u8 (IntKind.u8.wrap i)] = true := rfl
    have h3 := kinds_append h1 h2
    simp only [kinds, List.all_cons, Bool.and_eq_true] at h3 ⊢
    exact ⟨by simp [isU], h3⟩
theorem insOf_mem {m : Int} {N : Nat} {x : InM} (h : x ∈ insOf m N) : ∃ i, x = inOf m i := by
  obtain ⟨i, _, rfl⟩ := List.mem_map.1 h; exact ⟨i, rfl⟩
theorem outsOf_mem {n m : Int} {M : Nat} {y : OutM} (h : y ∈ outsOf n m M) : ∃ i, y = outOf n m i := by
  obtain ⟨i, _, rfl⟩ := List.mem_map.1 h; exact ⟨i, rfl⟩
theorem insOf_len (m : Int) (N : Nat) : (insOf m N).length = N := by simp [insOf]
theorem outsOf_len (n m : Int) (M : Nat) : (outsOf n m M).length = M := by simp [outsOf]
theorem txOf_ok (n m : Int) : (txOf n m).ok := by
  have := tN_eq n
  have := uN_eq n
  refine ⟨fun x hx => ?_, ?_, ?_⟩
  · obtain ⟨i, rfl⟩ := insOf_mem hx; exact inOf_ok m i
  · simp only [txOf, insOf_len]; omega
  · simp only [txOf, outsOf_len]; omega
theorem wR_small (m : Int) : ∀ w, (wR m w).length ≤ 10 ∧ ∀ r ∈ wR m w, r.length ≤ 500
  | 0 => by simp [wR]
  | 1 => by simp [wR]
  | n + 2 => by simp [wR]
theorem inOf_small (m : Int) (i : Nat) : (inOf m i).small := by
  have h := wR_small m (wK m i)
  refine ⟨?_, h.1, h.2⟩
  simp only [inOf, inR]
  cases sK m <;> simp [sR]
theorem txOf_may (n m : Int) : (txOf n m).may := by
  have := tN_eq n
  have := uN_eq n
  refine ⟨?_, ?_, fun x hx => ?_, fun y hy => ?_⟩
  · simp only [txOf, insOf_len]; omega
  · simp only [txOf, outsOf_len]; omega
  · obtain ⟨i, rfl⟩ := insOf_mem hx; exact inOf_small m i
  · obtain ⟨i, rfl⟩ := outsOf_mem hy
    have := scB_le (shi m (IntKind.u64.wrap i))
    show (scB _).length ≤ 500
    omega
theorem txOf_num (n m : Int) : (txOf n m).num := by
  refine ⟨u32_rng _, u32_rng _, fun x hx => ?_, fun y hy => ?_⟩
  · obtain ⟨i, rfl⟩ := insOf_mem hx; exact ⟨u32_rng _, u32_rng _⟩
  · obtain ⟨i, rfl⟩ := outsOf_mem hy; exact u64_rng _

/-! ### what is read of rows -/
theorem cells_len {x : InM} (h : x.ok) : x.v.cellsOf.length = 36 := by
  simp only [InM.v, V.cellsOf, List.length_append, h.1, List.length_cons, List.length_nil]
theorem cells_fine {x : InM} (h : x.ok) : x.v.cellsOf.all (fun c => c.frozen && c.isCell) = true ∧ x.v.cellsOf.map V.thin = x.v.cellsOf ∧ V.keyss x.v.cellsOf = [] := by
  obtain ⟨w, hw⟩ := p32_of h.1 h.2
  rw [InM.v, hw]
  exact ⟨rfl, rfl, rfl⟩
theorem rowI_len : ∀ {l : List InM}, (∀ x ∈ l, x.ok) → (rowI l).length = l.length * 36
  | [], _ => rfl
  | x :: r, h => by
    have e : rowI (x :: r) = x.v.cellsOf ++ rowI r := rfl
    rw [e, List.length_append, cells_len (h x (by simp)), rowI_len (l := r) (fun y hy => h y (List.mem_cons_of_mem _ hy)), List.length_cons]; omega
theorem rowI_fine : ∀ {l : List InM}, (∀ x ∈ l, x.ok) → (rowI l).all (fun c => c.frozen && c.isCell) = true ∧ (rowI l).map V.thin = rowI l ∧ V.keyss (rowI l) = []
  | [], _ => ⟨rfl, rfl, rfl⟩
  | x :: r, h => by
    have e : rowI (x :: r) = x.v.cellsOf ++ rowI r := rfl
    obtain ⟨a1, a2, a3⟩ := cells_fine (h x (by simp))
    obtain ⟨b1, b2, b3⟩ := rowI_fine (l := r) (fun y hy => h y (List.mem_cons_of_mem _ hy))
    rw [e]
    exact ⟨by rw [List.all_append, a1, b1]; rfl, by rw [List.map_append, a2, b2], by rw [keyss_append, a3, b3]; rfl⟩
theorem chunksI : ∀ {l : List InM}, (∀ x ∈ l, x.ok) → chunks 36 l.length (rowI l) = l.map InM.v
  | [], _ => rfl
  | x :: r, h => by
    have e : rowI (x :: r) = x.v.cellsOf ++ rowI r := rfl
    have hl := cells_len (h x (by simp))
    have hv : V.agg x.v.cellsOf = x.v := rfl
    rw [e, List.length_cons, chunks, List.take_left' hl, List.drop_left' hl, chunksI (l := r) (fun y hy => h y (List.mem_cons_of_mem _ hy)), hv]; rfl
theorem elemsI {l : List InM} (h : ∀ x ∈ l, x.ok) {cs : List V} (hc : cs.map V.thin = rowI l) : elemsOf 36 l.length ((cs.drop 0).take (l.length * 36)) = some (l.map InM.v) := by
  have hl : cs.length = l.length * 36 := by rw [← rowI_len h, ← hc, List.length_map]
  obtain ⟨b1, b2, b3⟩ := rowI_fine h
  rw [List.drop_zero, ← hl, List.take_length]
  simp only [elemsOf, hc, rowI_len h, b1, chunksI h, ne_eq, and_self, if_true]
  rfl
theorem rowO_len : ∀ {l : List OutM}, (rowO l).length = l.length * 2
  | [] => rfl
  | y :: r => by
    have e : rowO (y :: r) = y.v.cellsOf ++ rowO r := rfl
    rw [e, List.length_append, rowO_len (l := r), List.length_cons]
    show 2 + _ = _
    omega
theorem rowO_fine : ∀ {l : List OutM}, (rowO l).all (fun c => c.frozen && c.isCell) = true ∧ (rowO l).map V.thin = rowO l ∧ V.keyss (rowO l) = []
  | [] => ⟨rfl, rfl, rfl⟩
  | y :: r => by
    have e : rowO (y :: r) = y.v.cellsOf ++ rowO r := rfl
    obtain ⟨b1, b2, b3⟩ := rowO_fine (l := r)
    rw [e]
    exact ⟨by rw [List.all_append, b1]; rfl, by rw [List.map_append, b2]; rfl, by rw [keyss_append, b3]; rfl⟩
theorem chunksO : ∀ {l : List OutM}, chunks 2 l.length (rowO l) = l.map OutM.v
  | [] => rfl
  | y :: r => by
    have e : rowO (y :: r) = y.v.cellsOf ++ rowO r := rfl
    have hl : y.v.cellsOf.length = 2 := rfl
    have hv : V.agg y.v.cellsOf = y.v := rfl
    rw [e, List.length_cons, chunks, List.take_left' hl, List.drop_left' hl, chunksO (l := r), hv]; rfl
theorem elemsO {l : List OutM} : elemsOf 2 l.length (((rowO l).drop 0).take (l.length * 2)) = some (l.map OutM.v) := by
  obtain ⟨b1, b2, b3⟩ := rowO_fine (l := l)
  rw [List.drop_zero, ← rowO_len, List.take_length]
  simp only [elemsOf, b2, rowO_len, b1, chunksO, ne_eq, and_self, if_true]
  rfl
/-- The places of a transaction's rows. -/
def txV (ve lo : Int) (N M : Nat) (a b : Key) : V := .agg [.int .u32 ve, .rowv a 36 0 N, .rowv b 2 0 M, .int .u32 lo]
theorem frz_tx {σ : Store} {a b : Key} {cs os : List V} {ve lo : Int} {N M : Nat} {iv ov : List V} (h0 : σ.get a = some (.row cs)) (h1 : σ.get b = some (.row os)) (e0 : elemsOf 36 N ((cs.drop 0).take (N * 36)) = some iv) (e1 : elemsOf 2 M ((os.drop 0).take (M * 2)) = some ov)
    (a0 : (cs.map V.thin).all (fun c => c.frozen && c.isCell) = true) (a1 : (os.map V.thin).all (fun c => c.frozen && c.isCell) = true) :
    (frzVals [txV ve lo N M a b]).run σ [] = some (([.agg (txc ve lo iv ov)], [(a, .froz (cs.map V.thin)), (b, .froz (os.map V.thin))]), [b, a]) := by
  simp only [txV, frzVals, frzVal, frzCells, frzCell, Act.bind, Act.run, h0, h1, e0, e1, a0, a1, if_true, List.append_nil, List.nil_append, List.cons_append, txc]
theorem callRIs_tx {C : FuncId → Option Contract} {f : FuncId} {c : Contract} {d : Nat} {σ : Store} {a b : Key} {cs os : List V} {ve lo : Int} {N M : Nat} {iv ov : List V} {r : V} (hC : C f = some c) (h0 : σ.get a = some (.row cs)) (h1 : σ.get b = some (.row os)) (e0 : elemsOf 36 N ((cs.drop 0).take (N * 36)) = some iv) (e1 : elemsOf 2 M ((os.drop 0).take (M * 2)) = some ov)
    (a0 : (cs.map V.thin).all (fun c => c.frozen && c.isCell) = true) (a1 : (os.map V.thin).all (fun c => c.frozen && c.isCell) = true) (hc : c [.agg (txc ve lo iv ov)] [] = some (r, [], [])) (hf : r.flat = true) :
    callRIs C d f [txV ve lo N M a b] σ ⟨r, []⟩ [b, a] := by
  unfold callRIs callRows
  simp only [hC]
  rw [bind_runF, frz_tx h0 h1 e0 e1 a0 a1]
  have hk : V.keyss [V.agg (txc ve lo iv ov)] = [] ∧ ([V.agg (txc ve lo iv ov)].any isView) = false := ⟨rfl, rfl⟩
  simp only [lends, lend, Act.bind, hk, and_self, if_true, hc, hf, List.isEmpty_nil, Bool.and_self]
  rfl
theorem callRIs_tx2 {C : FuncId → Option Contract} {f : FuncId} {c : Contract} {d : Nat} {σ : Store} {a b : Key} {cs os : List V} {ve lo : Int} {N M : Nat} {iv ov : List V} {l : List V} (hC : C f = some c) (h0 : σ.get a = some (.row cs)) (h1 : σ.get b = some (.row os)) (e0 : elemsOf 36 N ((cs.drop 0).take (N * 36)) = some iv) (e1 : elemsOf 2 M ((os.drop 0).take (M * 2)) = some ov)
    (a0 : (cs.map V.thin).all (fun c => c.frozen && c.isCell) = true) (a1 : (os.map V.thin).all (fun c => c.frozen && c.isCell) = true) (hc : c [.agg (txc ve lo iv ov)] [] = some (rowV l, [], [])) :
    callRIs C d f [txV ve lo N M a b] σ ⟨rowV l, [(a, .froz (cs.map V.thin)), (b, .froz (os.map V.thin))]⟩ [b, a] := by
  unfold callRIs callRows
  simp only [hC]
  rw [bind_runF, frz_tx h0 h1 e0 e1 a0 a1]
  have hk : V.keyss [V.agg (txc ve lo iv ov)] = [] ∧ ([V.agg (txc ve lo iv ov)].any isView) = false := ⟨rfl, rfl⟩
  have hf : (rowV l).flat = false := rfl
  simp only [lends, lend, Act.bind, hk, and_self, if_true, hc, hf, Bool.false_and, Bool.false_eq_true, if_false, news, newObjs, List.map_nil, List.append_nil]
  rfl

/-! ### without witnesses -/
def noW (x : InM) : InM := ⟨x.p, x.vo, x.sc, x.sq, []⟩
def preT (x : InM) : List V := x.p ++ [.int .u32 x.vo, rowV x.sc, .int .u32 x.sq]
def cellsT (x : InM) : List V := preT x ++ [.slc 1 [] .tight]
theorem preT_len {x : InM} (h : x.ok) : (preT x).length = 35 := by simp only [preT, List.length_append, h.1, List.length_cons, List.length_nil]
theorem cells_pre (x : InM) : x.v.cellsOf = preT x ++ [.slc 1 (x.wi.map rowV) .none] := by simp [InM.v, V.cellsOf, preT]
theorem cellsT_fine {x : InM} (h : x.ok) : (cellsT x).map V.thin = (noW x).v.cellsOf ∧ V.keyss (cellsT x) = [] := by
  obtain ⟨w, hw⟩ := p32_of h.1 h.2
  rw [cellsT, preT, InM.v, noW, hw]
  exact ⟨rfl, rfl⟩
def rowT (l : List InM) (i : Nat) : List V := (l.take i).flatMap cellsT ++ rowI (l.drop i)
def txT (l : List InM) (i : Nat) : List InM := (l.take i).map noW ++ l.drop i
theorem noW_ok {x : InM} (h : x.ok) : (noW x).ok := h
theorem flatT_fine : ∀ {l : List InM}, (∀ x ∈ l, x.ok) → (l.flatMap cellsT).map V.thin = rowI (l.map noW) ∧ V.keyss (l.flatMap cellsT) = [] ∧ (l.flatMap cellsT).length = l.length * 36
  | [], _ => ⟨rfl, rfl, rfl⟩
  | x :: r, h => by
    obtain ⟨a2, a3⟩ := cellsT_fine (h x (by simp))
    obtain ⟨b2, b3, b4⟩ := flatT_fine (l := r) (fun y hy => h y (List.mem_cons_of_mem _ hy))
    have e : (x :: r).flatMap cellsT = cellsT x ++ r.flatMap cellsT := rfl
    have e2 : rowI ((x :: r).map noW) = (noW x).v.cellsOf ++ rowI (r.map noW) := rfl
    rw [e, e2]
    refine ⟨by rw [List.map_append, a2, b2], by rw [keyss_append, a3, b3]; rfl, ?_⟩
    rw [List.length_append, b4, cellsT, List.length_append, preT_len (h x (by simp)), List.length_cons, List.length_cons, List.length_nil]; omega
theorem rowT_fine {l : List InM} (h : ∀ x ∈ l, x.ok) (i : Nat) : (rowT l i).map V.thin = rowI (txT l i) ∧ V.keyss (rowT l i) = [] := by
  obtain ⟨b2, b3, b4⟩ := flatT_fine (l := l.take i) (fun y hy => h y (List.mem_of_mem_take hy))
  obtain ⟨c1, c2, c3⟩ := rowI_fine (l := l.drop i) (fun y hy => h y (List.mem_of_mem_drop hy))
  rw [rowT, txT]
  refine ⟨?_, by rw [keyss_append, b3, c3]; rfl⟩
  rw [List.map_append, b2, c2]; simp only [rowI, List.flatMap_append]
theorem splice_at (A B R : List V) (v w : V) : splice (A ++ (B ++ (w :: R))) (A.length + B.length) [v] = A ++ (B ++ (v :: R)) := by
  have e : A ++ (B ++ (w :: R)) = (A ++ B) ++ (w :: R) := by rw [List.append_assoc]
  have e2 : A ++ (B ++ (v :: R)) = (A ++ B) ++ [v] ++ R := by simp
  have hl : (A ++ B).length = A.length + B.length := List.length_append
  rw [e, e2, splice, List.take_left' hl]
  congr 1
  have : (A ++ B ++ w :: R) = (A ++ B ++ [w]) ++ R := by simp
  rw [this, List.drop_left' (by simp; omega)]
theorem rowT_step {l : List InM} (h : ∀ x ∈ l, x.ok) (i : Nat) (hi : i < l.length) : splice (rowT l i) (0 + i * 36 + 35) [.slc 1 [] .tight] = rowT l (i + 1) ∧ 0 + i * 36 + 35 + 1 ≤ (rowT l i).length := by
  obtain ⟨b2, b3, b4⟩ := flatT_fine (l := l.take i) (fun y hy => h y (List.mem_of_mem_take hy))
  have hd : l.drop i = l[i] :: l.drop (i + 1) := List.drop_eq_getElem_cons hi
  have ht : l.take (i + 1) = l.take i ++ [l[i]] := by rw [List.take_add_one, List.getElem?_eq_getElem hi]; rfl
  have hp := preT_len (h l[i] (List.getElem_mem hi))
  have e1 : rowT l i = (l.take i).flatMap cellsT ++ (preT l[i] ++ (V.slc 1 (l[i].wi.map rowV) .none :: rowI (l.drop (i + 1)))) := by
    rw [rowT, hd]
    have : rowI (l[i] :: l.drop (i + 1)) = l[i].v.cellsOf ++ rowI (l.drop (i + 1)) := rfl
    rw [this, cells_pre]; simp
  have e2 : rowT l (i + 1) = (l.take i).flatMap cellsT ++ (preT l[i] ++ (V.slc 1 [] .tight :: rowI (l.drop (i + 1)))) := by
    rw [rowT, ht, List.flatMap_append]
    simp [cellsT]
  have hlen : (l.take i).length = i := by rw [List.length_take]; omega
  rw [hlen] at b4
  have ho : 0 + i * 36 + 35 = ((l.take i).flatMap cellsT).length + (preT l[i]).length := by rw [b4, hp]; omega
  refine ⟨by rw [e1, e2, ho, splice_at], ?_⟩
  rw [e1, List.length_append, List.length_append, List.length_cons, b4, hp]; omega
theorem indexIs_row {σ : Store} {k : Key} {cs : List V} {N i : Nat} (hk : σ.get k = some (.row cs)) (hi : i < N) : indexIs 36 (.rowv k 36 0 N) (.int .i64 i) σ ⟨.rptr k (0 + i * 36), []⟩ [k] := by
  have h : (36 : Nat) = 36 ∧ (0 : Int) ≤ (i : Int) ∧ (i : Int) < (N : Int) := ⟨rfl, by omega, by omega⟩
  unfold indexIs indexSA
  simp only [h, and_self, if_true, Act.run, hk, Obj.rowCells, Option.isSome_some]
  rfl
theorem storeIs_row {σ : Store} {k : Key} {cs : List V} {off : Nat} {v : V} (hk : σ.get k = some (.row cs)) (hv : v.cellsOf = [v]) (hc : v.isCell = true) (ho : off + 1 ≤ cs.length) : storeIs 1 (.rptr k off) v σ ⟨.tuple [], [(k, .row (splice cs off [v]))]⟩ [k] := by
  unfold storeIs storeA
  simp only [Act.run, hk, storeRow, hv, List.length_cons, List.length_nil, Nat.zero_add, ho, List.all_cons, List.all_nil, hc, Bool.and_self, and_self, if_true, forceL_eq]
theorem wit_off (ve lo : Int) (M : Nat) (l : List InM) (os : List V) (h : ∀ x ∈ l, x.ok) (ho : V.keyss os = []) (hl : l.length ≤ 50) (C : FuncId → Option Contract) {s0 : St} (h0 : clean [5, 33, 34] [5, 11] s0 = lS ve lo l.length M (rowI l) os 0) :
    evalCode C F15 (.loop [5, 33, 34] [5, 11] b9_0) s0 = some (.exit 0, lX ve lo l.length M (rowT l l.length) os l.length) := by
  refine ev_loop (fun i => lS ve lo l.length M (rowT l i) os i) l.length (by rw [h0]; rfl) (fun i hi => ?_) (exitP_sound (lx ve lo l.length M (rowT l l.length) os l.length C) ⟨by simp, trivial⟩) (by simp) (by unfold F15; omega)
  obtain ⟨h1, h2⟩ := rowT_step h i hi
  have hs : storeIs 1 (.rptr (.loc 11 0) (0 + i * 36 + 35)) (.slc 1 [] .tight) (lS ve lo l.length M (rowT l i) os i).st ⟨.tuple [], [(.loc 11 0, .row (splice (rowT l i) (0 + i * 36 + 35) [.slc 1 [] .tight]))]⟩ [.loc 11 0] := storeIs_row rfl rfl rfl h2
  rw [h1] at hs
  refine body_toC (lb ve lo l.length M (rowT l i) os (rowT l (i + 1)) i C) ⟨by simpa using hi, indexIs_row rfl hi, hs, trivial⟩ ⟨(rowT_fine h (i + 1)).2, ho, trivial⟩ ?_
  rw [wrap_succ i (by omega)]; rfl

/-! ### the law -/
theorem wrap_small {n : Int} (h0 : -1000000000000 ≤ n) (h1 : n ≤ 1000000000000) : IntKind.i64.wrap n = n := wrap64_id (by omega) (by omega)
noncomputable def CL : FuncId → Option Contract := addC (addC (addC (addC (addC (addC noC 22 c22) 23 (thinC c23)) 24 (thinC c24)) 25 c25) 63 c63) 64 c63
theorem sL : Sound Tryd.prog G CL := (((((sound_noC.add Tryd.func22 (by kernel_rfl) h22').add Tryd.func23 (by kernel_rfl) (Holds.thin h23')).add Tryd.func24 (by kernel_rfl) (Holds.thin h24')).add Tryd.func25 (by kernel_rfl) h25').add Tryd.func63 (by kernel_rfl) h63').add Tryd.func64 (by kernel_rfl) h64'
theorem thin23 {t : TxM} (h : t.ok) : thinC c23 [t.v] [] = some (.int .i64 (wtB t), [], []) := by
  show c23 [t.v] [] = _
  unfold c23; rw [txC_eq (fun _ h => h) h]
theorem thin24 {t : TxM} (h : t.ok) : thinC c24 [t.v] [] = some (.int .i64 (szB t), [], []) := by
  show c24 [t.v] [] = _
  unfold c24; rw [txC_eq (fun _ h => h) h]
theorem at25 {t : TxM} (h : t.ok) (hn : t.num) : c25 [t.v] [] = some (rowV (mB t (baseB t)), [], []) := by
  unfold c25; rw [txC_eq (fun _ h => h.1) ⟨h, hn⟩]
theorem at63 {t : TxM} (h : ok63 t) : c63 [t.v] [] = some (.agg (nameB t), [], []) := by
  unfold c63; rw [txC_eq (fun _ h => h.1) h]
theorem call22 {C : FuncId → Option Contract} (hC : C 22 = some c22) (n m : Int) : callIs C 22 [.int .i64 n, .int .i64 m] [] (txR (veO n) (loO n) (tN n) (uN n)) [] [.row (rowI (insOf m (tN n))), .row (rowO (outsOf n m (uN n)))] := by
  simp only [callIs, hC, c22, rowIn_eq, rowOut_eq]; rfl
/-- The same without witnesses. -/
def bare (t : TxM) : TxM := ⟨t.ve, t.ins.map noW, t.outs, t.lo⟩
theorem bare_ok {t : TxM} (h : t.ok) : (bare t).ok := by
  refine ⟨fun x hx => ?_, by simpa [bare] using h.2.1, h.2.2⟩
  obtain ⟨y, hy, rfl⟩ := List.mem_map.1 hx
  exact noW_ok (h.1 y hy)
theorem bare_num {t : TxM} (h : t.num) : (bare t).num := by
  refine ⟨h.1, h.2.1, fun x hx => ?_, h.2.2.2⟩
  obtain ⟨y, hy, rfl⟩ := List.mem_map.1 hx
  exact h.2.2.1 y hy
theorem bare_wit (t : TxM) : witB (bare t) = false := by
  unfold witB bare
  rw [List.any_eq_false]
  intro x hx
  obtain ⟨y, hy, rfl⟩ := List.mem_map.1 hx
  simp [hasW, noW]
theorem base_pos {t : TxM} (h : t.may) : 1 ≤ (mB t (baseB t)).length := by
  rw [mB, if_pos (mayB_iff.2 h), baseB, List.length_append, List.length_append, lowB_len4]; omega
theorem tx_iv (n m : Int) : (txOf n m).v = .agg (txc (veO n) (loO n) ((insOf m (tN n)).map InM.v) ((outsOf n m (uN n)).map OutM.v)) := rfl
theorem bare_iv (n m : Int) : (bare (txOf n m)).v = .agg (txc (veO n) (loO n) ((txT (insOf m (tN n)) (tN n)).map InM.v) ((outsOf n m (uN n)).map OutM.v)) := by
  have : txT (insOf m (tN n)) (tN n) = (insOf m (tN n)).map noW := by
    have hl := insOf_len m (tN n)
    rw [txT, List.take_of_length_le (by omega), List.drop_eq_nil_of_le (by omega), List.append_nil]
  rw [this]; rfl
/-- A call on a transaction that is lent. -/
theorem lent {C : FuncId → Option Contract} {f : FuncId} {c : Contract} {d : Nat} {σ : Store} {a b : Key} {cs : List V} {ve lo : Int} {l : List InM} {o : List OutM} {r : V} (hC : C f = some c) (hl : ∀ x ∈ l, x.ok) (h0 : σ.get a = some (.row cs)) (h1 : σ.get b = some (.row (rowO o))) (hcs : cs.map V.thin = rowI l)
    (hc : c [.agg (txc ve lo (l.map InM.v) (o.map OutM.v))] [] = some (r, [], [])) (hf : r.flat = true) : callRIs C d f [txV ve lo l.length o.length a b] σ ⟨r, []⟩ [b, a] :=
  callRIs_tx hC h0 h1 (elemsI hl hcs) elemsO (by rw [hcs]; exact (rowI_fine hl).1) (by rw [rowO_fine.2.1]; exact rowO_fine.1) hc hf
theorem lent2 {C : FuncId → Option Contract} {f : FuncId} {c : Contract} {d : Nat} {σ : Store} {a b : Key} {cs : List V} {ve lo : Int} {l : List InM} {o : List OutM} {r : List V} (hC : C f = some c) (hl : ∀ x ∈ l, x.ok) (h0 : σ.get a = some (.row cs)) (h1 : σ.get b = some (.row (rowO o))) (hcs : cs.map V.thin = rowI l)
    (hc : c [.agg (txc ve lo (l.map InM.v) (o.map OutM.v))] [] = some (rowV r, [], [])) : callRIs C d f [txV ve lo l.length o.length a b] σ ⟨rowV r, [(a, .froz (cs.map V.thin)), (b, .froz ((rowO o).map V.thin))]⟩ [b, a] :=
  callRIs_tx2 hC h0 h1 (elemsI hl hcs) elemsO (by rw [hcs]; exact (rowI_fine hl).1) (by rw [rowO_fine.2.1]; exact rowO_fine.1) hc

/-! ### the law's sentinel -/
def zT : TxM := ⟨0, [], [], 0⟩
theorem zT_ok : zT.ok := ⟨by simp [zT], by simp [zT], by simp [zT]⟩
theorem z23 {C : FuncId → Option Contract} (hC : C 23 = some (thinC c23)) : callIs C 23 [.agg [.int .u32 0, .slc 36 [] .tight, .slc 2 [] .tight, .int .u32 0]] [] (.int .i64 0) [] [] := by
  simp only [callIs, hC]
  exact thin23 zT_ok
theorem z24 {C : FuncId → Option Contract} (hC : C 24 = some (thinC c24)) : callIs C 24 [.agg [.int .u32 0, .slc 36 [] .tight, .slc 2 [] .tight, .int .u32 0]] [] (.int .i64 0) [] [] := by
  simp only [callIs, hC]
  exact thin24 zT_ok
theorem szB_pos {t : TxM} (h : t.may) : szB t > 0 := by
  have := base_pos h
  unfold szB wtB; omega
theorem szB_le (t : TxM) : 4 * szB t - 3 ≤ wtB t ∧ wtB t ≤ 4 * szB t := by unfold szB; omega
theorem kinds59 : kinds .u8 (mB (txOf 5 9) (baseB (txOf 5 9))) = true := by
  rw [mB, if_pos (mayB_iff.2 (txOf_may 5 9))]
  kernel_rfl
def c26 : Contract := fun args objs =>
  match args, objs with
  | [], [] => some (.bool true, [], [])
  | _, _ => none
theorem eqp (x : Nat → Int) : eqCells (p32 x) (p32 x) = some true := by
  simp only [p32, List.range, List.range.loop, List.map_cons, List.map_nil, u8, eqCells, eqCell, if_true, beq_self_eq_true]
theorem run26 : a26.run F15 CL [] [] = some (.bool true, [], []) := by
  have ok := txOf_ok 5 9
  have hm := txOf_may 5 9
  have hn := txOf_num 5 9
  have hr := wtB_rng ok
  have hs := szB_le (txOf 5 9)
  have hp := szB_pos hm
  obtain ⟨x, hx⟩ := nameB_p (txOf 5 9)
  have h63 := at63 ⟨ok, hn, kinds59⟩
  rw [hx] at h63
  have hl : ∀ y ∈ insOf 9 (tN 5), y.ok := ok.1
  have li := insOf_len 9 (tN 5)
  have lo := outsOf_len 5 9 (uN 5)
  have gp : decide (szB (txOf 5 9) > 0) = true := decide_eq_true hp
  have e1 : IntKind.i64.wrap (4 * szB (txOf 5 9)) = 4 * szB (txOf 5 9) := wrap_small (by omega) (by omega)
  have e2 : IntKind.i64.wrap (4 * szB (txOf 5 9) - 3) = 4 * szB (txOf 5 9) - 3 := wrap_small (by omega) (by omega)
  have key : ∀ {f : FuncId} {c : Contract} {d : Nat} {r : V}, CL f = some c → c [.agg (txc (veO 5) (loO 5) ((insOf 9 (tN 5)).map InM.v) ((outsOf 5 9 (uN 5)).map OutM.v))] [] = some (r, [], []) → r.flat = true →
      callRIs CL d f [txV (veO 5) (loO 5) (tN 5) (uN 5) (.loc 2 0) (.loc 2 1)] [(.loc 2 0, .row (rowI (insOf 9 (tN 5)))), (.loc 2 1, .row (rowO (outsOf 5 9 (uN 5)))), (.loc 1 0, .cells [.int .u32 (veO 5), .rowv (.loc 2 0) 36 0 (tN 5), .rowv (.loc 2 1) 2 0 (uN 5), .int .u32 (loO 5)])] ⟨r, []⟩ [.loc 2 1, .loc 2 0] := fun {f c d r} h1 h2 h3 => by
    have := lent (σ := [(.loc 2 0, .row (rowI (insOf 9 (tN 5)))), (.loc 2 1, .row (rowO (outsOf 5 9 (uN 5)))), (.loc 1 0, .cells [.int .u32 (veO 5), .rowv (.loc 2 0) 36 0 (tN 5), .rowv (.loc 2 1) 2 0 (uN 5), .int .u32 (loO 5)])]) (a := .loc 2 0) (b := .loc 2 1) (d := d) h1 hl rfl rfl (rowI_fine hl).2.1 h2 h3
    rw [li, lo] at this
    exact this
  have := runP_sound (aw (veO 5) (loO 5) (wtB (txOf 5 9)) (szB (txOf 5 9)) (tN 5) (uN 5) (rowI (insOf 9 (tN 5))) (rowO (outsOf 5 9 (uN 5))) x CL)
    ⟨call22 rfl 5 9, ⟨(rowI_fine hl).2.2, rowO_fine.2.2, trivial⟩, key rfl h63 rfl, key rfl h63 rfl, rfl, rfl, eqp x, rfl, rfl, z23 rfl, rfl, rfl, rfl, rfl, z24 rfl, rfl, rfl, rfl, rfl,
      key rfl (thin24 ok) rfl, rfl, rfl, gp, gp, key rfl (thin23 ok) rfl, gp, gp, key rfl (thin24 ok) rfl, gp, gp, gp, gp, trivial⟩
  rw [this, e1, e2, decide_eq_true (by omega)]
theorem h26' : Holds Tryd.prog G 26 c26 := (fn_holds sL hM F15 Tryd.func26 p26 o26).less fun args objs x h => by
  unfold c26 at h
  split at h
  · rw [← h]; exact run26
  · cases h
noncomputable def C9 : FuncId → Option Contract := addC CL 26 c26
theorem s9 : Sound Tryd.prog G C9 := sL.add Tryd.func26 (by kernel_rfl) h26'
theorem run9 (n m : Int) : a9.run F15 C9 [.int .i64 n, .int .i64 m] [] = some (.bool true, [], []) := by
  have ok := txOf_ok n m
  have hm := txOf_may n m
  have hn := txOf_num n m
  have ok2 := bare_ok ok
  have hn2 := bare_num hn
  have hr := wtB_rng ok
  have hr2 := wtB_rng ok2
  have hs := szB_le (txOf n m)
  have hp := szB_pos hm
  have hl : ∀ y ∈ insOf m (tN n), y.ok := ok.1
  have li := insOf_len m (tN n)
  have lo := outsOf_len n m (uN n)
  have hN := tN_eq n
  have hbare : wtB (bare (txOf n m)) = 4 * ((mB (bare (txOf n m)) (baseB (bare (txOf n m)))).length : Int) := by
    unfold wtB; rw [bytesB, if_neg (by rw [bare_wit]; simp)]; omega
  have hsb : szB (bare (txOf n m)) = ((mB (bare (txOf n m)) (baseB (bare (txOf n m)))).length : Int) := by
    unfold szB; rw [hbare]; omega
  have e1 : IntKind.i64.wrap (4 * szB (txOf n m)) = 4 * szB (txOf n m) := wrap_small (by omega) (by omega)
  have e2 : IntKind.i64.wrap (wtB (txOf n m) + 4) = wtB (txOf n m) + 4 := wrap_small (by omega) (by omega)
  have e3 : IntKind.i64.wrap (4 * szB (bare (txOf n m))) = wtB (bare (txOf n m)) := by rw [hsb, hbare]; exact wrap_small (by omega) (by omega)
  have g1 : decide (IntKind.i64.wrap (4 * szB (txOf n m)) < wtB (txOf n m)) = false := by rw [e1]; exact decide_eq_false (by omega)
  have g2 : decide (IntKind.i64.wrap (4 * szB (txOf n m)) ≥ IntKind.i64.wrap (wtB (txOf n m) + 4)) = false := by rw [e1, e2]; exact decide_eq_false (by unfold szB; omega)
  have g3 : decide (szB (txOf n m) < 1) = false := decide_eq_false (by omega)
  have g4 : (wtB (bare (txOf n m)) == IntKind.i64.wrap (4 * szB (bare (txOf n m)))) = true := by rw [e3]; simp
  have g5 : (szB (bare (txOf n m)) == ((mB (bare (txOf n m)) (baseB (bare (txOf n m)))).length : Int)) = true := by rw [hsb]; simp
  have hT := rowT_fine hl (tN n)
  have hlT : ∀ y ∈ txT (insOf m (tN n)) (tN n), y.ok := fun y hy => by
    rcases List.mem_append.1 hy with h | h
    · obtain ⟨z, hz, rfl⟩ := List.mem_map.1 h
      exact noW_ok (hl z (List.mem_of_mem_take hz))
    · exact hl y (List.mem_of_mem_drop h)
  have lT : (txT (insOf m (tN n)) (tN n)).length = tN n := by
    rw [txT, List.length_append, List.length_map, List.length_take, List.length_drop]; omega
  have key : ∀ {f : FuncId} {c : Contract} {d : Nat} {r : V}, C9 f = some c → c [(txOf n m).v] [] = some (r, [], []) → r.flat = true →
      callRIs C9 d f [txV (veO n) (loO n) (tN n) (uN n) (.loc 11 0) (.loc 11 1)] (lS (veO n) (loO n) (tN n) (uN n) (rowI (insOf m (tN n))) (rowO (outsOf n m (uN n))) 0).st ⟨r, []⟩ [.loc 11 1, .loc 11 0] := fun {f c d r} h1 h2 h3 => by
    have := lent (σ := (lS (veO n) (loO n) (tN n) (uN n) (rowI (insOf m (tN n))) (rowO (outsOf n m (uN n))) 0).st) (a := .loc 11 0) (b := .loc 11 1) (d := d) h1 hl rfl rfl (rowI_fine hl).2.1 (by rw [← tx_iv]; exact h2) h3
    rw [li, lo] at this
    exact this
  have key2 : ∀ {f : FuncId} {c : Contract} {d : Nat} {r : V}, C9 f = some c → c [(bare (txOf n m)).v] [] = some (r, [], []) → r.flat = true →
      callRIs C9 d f [txV (veO n) (loO n) (tN n) (uN n) (.loc 11 0) (.loc 11 1)] (lS (veO n) (loO n) (tN n) (uN n) (rowT (insOf m (tN n)) (tN n)) (rowO (outsOf n m (uN n))) 0).st ⟨r, []⟩ [.loc 11 1, .loc 11 0] := fun {f c d r} h1 h2 h3 => by
    have := lent (σ := (lS (veO n) (loO n) (tN n) (uN n) (rowT (insOf m (tN n)) (tN n)) (rowO (outsOf n m (uN n))) 0).st) (a := .loc 11 0) (b := .loc 11 1) (d := d) h1 hlT rfl rfl hT.1 (by rw [← bare_iv]; exact h2) h3
    rw [lT, lo] at this
    exact this
  have key3 : ∀ {f : FuncId} {c : Contract} {d : Nat} {r : List V}, C9 f = some c → c [(bare (txOf n m)).v] [] = some (rowV r, [], []) →
      callRIs C9 d f [txV (veO n) (loO n) (tN n) (uN n) (.loc 11 0) (.loc 11 1)] (lS (veO n) (loO n) (tN n) (uN n) (rowT (insOf m (tN n)) (tN n)) (rowO (outsOf n m (uN n))) 0).st ⟨rowV r, [(.loc 11 0, .froz ((rowT (insOf m (tN n)) (tN n)).map V.thin)), (.loc 11 1, .froz ((rowO (outsOf n m (uN n))).map V.thin))]⟩ [.loc 11 1, .loc 11 0] := fun {f c d r} h1 h2 => by
    have := lent2 (σ := (lS (veO n) (loO n) (tN n) (uN n) (rowT (insOf m (tN n)) (tN n)) (rowO (outsOf n m (uN n))) 0).st) (a := .loc 11 0) (b := .loc 11 1) (d := d) h1 hlT rfl rfl hT.1 (by rw [← bare_iv]; exact h2)
    rw [lT, lo] at this
    exact this
  have hw : ∀ {s0 : St}, clean [5, 33, 34] [5, 11] s0 = lS (veO n) (loO n) (tN n) (uN n) (rowI (insOf m (tN n))) (rowO (outsOf n m (uN n))) 0 → evalCode C9 F15 (.loop [5, 33, 34] [5, 11] b9_0) s0 = some (.exit 0, lX (veO n) (loO n) (tN n) (uN n) (rowT (insOf m (tN n)) (tN n)) (rowO (outsOf n m (uN n))) (tN n)) := fun h0 => by
    have := wit_off (veO n) (loO n) (uN n) (insOf m (tN n)) (rowO (outsOf n m (uN n))) hl rowO_fine.2.2 (by omega) C9 (s0 := _) (by rw [li]; exact h0)
    rw [li] at this
    exact this
  exact runP_sound (lr n m (veO n) (loO n) (wtB (txOf n m)) (szB (txOf n m)) (wtB (bare (txOf n m))) (szB (bare (txOf n m))) (tN n) (uN n) (rowI (insOf m (tN n))) (rowO (outsOf n m (uN n))) (rowT (insOf m (tN n)) (tN n)) _ _ (mB (bare (txOf n m)) (baseB (bare (txOf n m)))) C9)
    ⟨call22 rfl n m, ⟨(rowI_fine hl).2.2, rowO_fine.2.2, trivial⟩, key rfl (thin23 ok) rfl, key rfl (thin24 ok) rfl, g1, g1, g1, g1, g1, g1, g2, g2, g2, g3,
      hw ((cleanQ_eq (by exact ⟨(rowI_fine hl).2.2, rowO_fine.2.2, trivial⟩)).trans rfl), key2 rfl (thin23 ok2) rfl, key2 rfl (thin24 ok2) rfl, g4, g4, key2 rfl (thin24 ok2) rfl, g4, g4, key3 rfl (at25 ok2 hn2), g4, g4, g4, g5, rfl, g5, trivial⟩
def c9 : Contract := fun args objs =>
  match args, objs with
  | [.int .i64 n, .int .i64 m], [] => some (.bool true, [], [])
  | _, _ => none
theorem h9' : Holds Tryd.prog G 9 c9 := (fn_holds s9 hM F15 Tryd.func9 p9 o9).less fun args objs x h => by
  unfold c9 at h
  split at h
  · rw [← h]; exact run9 _ _
  · cases h
theorem c9_true (n0 : Int) (w0 : (Lit.int .i64 n0).wf = true) (n1 : Int) (w1 : (Lit.int .i64 n1).wf = true) : c9 [.int .i64 n0, .int .i64 n1] [] = some (.bool true, [], []) := rfl
end Go.Proofs.YtiiohfojejfolaaDoor
