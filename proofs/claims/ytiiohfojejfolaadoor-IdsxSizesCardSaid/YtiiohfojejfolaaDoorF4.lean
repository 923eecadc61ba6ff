/-
  What is proved: whether a transaction may be, whether it has a witness, and its bytes, with witnesses and without. Conditions: none.
-/
import Derived.Test.YtiiohfojejfolaaDoorF3
set_option linter.unusedVariables false
set_option linter.unusedSimpArgs false
set_option maxRecDepth 100000
namespace Go.Proofs.YtiiohfojejfolaaDoor
open Go Go.Ev Go.Proofs

/-! ### long -/
theorem lg (l : List V) : a134.runP F15 noC [.slc 1 l .none] [] [] =
    some ((V.bool (decide ((↑(List.length l) : Int) > (500 : Int))), [], []), []) := by kernel_rfl
def fv (f : Nat) : V := .func (.func f) [] []
def xS (rows f : V) (N i : Nat) : St := ⟨[(0, rows), (1, f), (7, .int .i64 N), (8, .int .i64 i)], []⟩
def xI (rows f : V) (N : Nat) : St := ⟨[(8, .int .i64 0), (7, .int .i64 N), (6, rows), (4, .int .i64 0), (0, rows), (1, f)], []⟩
def xX (rows f : V) (N : Nat) : St := ⟨(9, .bool (decide ((N : Int) < N))) :: (xS rows f N N).tm, []⟩
theorem ixb (rows : List V) (l : List V) (N i : Nat) (C : FuncId → Option Contract) : bodyP C F15 (clean [0, 1, 7, 8] [7]) b146_0 (xS (.slc 1 rows .none) (fv 134) N i) [.b true, .v (rowV l), .call (.bool false) [] [], .b false] =
    some
  (St.mk
      [((0 : Nat), V.slc (1 : Nat) rows Own.none), ((1 : Nat), V.func (Fn.func (134 : Nat)) [] []),
        ((7 : Nat), V.int IntKind.i64 (↑N : Int)),
        ((8 : Nat), V.int IntKind.i64 (IntKind.wrap IntKind.i64 ((↑i : Int) + (1 : Int))))]
      [],
    [decide ((↑i : Int) < (↑N : Int)) = true, (0 : Int) ≤ (↑i : Int) ∧ rows[Int.toNat (↑i : Int)]? = some (rowV l),
      callIs C (134 : Nat) [V.slc (1 : Nat) l Own.none] [] (V.bool false) [] [], false = false]) := by kernel_rfl
theorem ixf (rows : List V) (l : List V) (N i : Nat) (C : FuncId → Option Contract) : exitP C F15 b146_0 (xS (.slc 1 rows .none) (fv 134) N i) [.b true, .v (rowV l), .call (.bool true) [] [], .b true] =
    some
  ((Ex.ret,
      St.mk
        [((4 : Nat), V.int IntKind.i64 (↑i : Int)), ((17 : Nat), V.int IntKind.i64 (↑i : Int)),
          ((16 : Nat), V.bool true), ((15 : Nat), V.slc (1 : Nat) l Own.none), ((14 : Nat), V.elem [rowV l]),
          ((13 : Nat), V.int IntKind.i64 (↑i : Int)), ((12 : Nat), V.slc (1 : Nat) rows Own.none),
          ((11 : Nat), V.func (Fn.func (134 : Nat)) [] []), ((5 : Nat), V.int IntKind.i64 (↑i : Int)),
          ((10 : Nat), V.int IntKind.i64 (↑i : Int)), ((9 : Nat), V.bool (decide ((↑i : Int) < (↑N : Int)))),
          ((0 : Nat), V.slc (1 : Nat) rows Own.none), ((1 : Nat), fv (134 : Nat)),
          ((7 : Nat), V.int IntKind.i64 (↑N : Int)), ((8 : Nat), V.int IntKind.i64 (↑i : Int))]
        []),
    [decide ((↑i : Int) < (↑N : Int)) = true, (0 : Int) ≤ (↑i : Int) ∧ rows[Int.toNat (↑i : Int)]? = some (rowV l),
      callIs C (134 : Nat) [V.slc (1 : Nat) l Own.none] [] (V.bool true) [] [], true = true]) := by kernel_rfl
theorem ixn (rows : List V) (N : Nat) (C : FuncId → Option Contract) : exitP C F15 b146_0 (xS (.slc 1 rows .none) (fv 134) N N) [.b false] =
    some
  ((Ex.exit (0 : Nat),
      St.mk
        [((9 : Nat), V.bool (decide ((↑N : Int) < (↑N : Int)))), ((0 : Nat), V.slc (1 : Nat) rows Own.none),
          ((1 : Nat), fv (134 : Nat)), ((7 : Nat), V.int IntKind.i64 (↑N : Int)),
          ((8 : Nat), V.int IntKind.i64 (↑N : Int))]
        []),
    [decide ((↑N : Int) < (↑N : Int)) = false]) := by kernel_rfl
theorem iyb (rows : List V) (w : Nat → Int) (vo sq : Int) (sc : List V) (wi : List V) (N i : Nat) (C : FuncId → Option Contract) : bodyP C F15 (clean [0, 1, 7, 8] [7]) b147_0 (xS (.slc 36 rows .none) (fv 138) N i) [.b true, .v (inC w vo sq sc wi), .call (.bool false) [] [], .b false] =
    some
  (St.mk
      [((0 : Nat), V.slc (36 : Nat) rows Own.none), ((1 : Nat), V.func (Fn.func (138 : Nat)) [] []),
        ((7 : Nat), V.int IntKind.i64 (↑N : Int)),
        ((8 : Nat), V.int IntKind.i64 (IntKind.wrap IntKind.i64 ((↑i : Int) + (1 : Int))))]
      [],
    [decide ((↑i : Int) < (↑N : Int)) = true,
      (0 : Int) ≤ (↑i : Int) ∧ rows[Int.toNat (↑i : Int)]? = some (inC w vo sq sc wi),
      callIs C (138 : Nat)
        [V.agg
            [V.int IntKind.u8 (w (0 : Nat)), V.int IntKind.u8 (w (1 : Nat)), V.int IntKind.u8 (w (2 : Nat)),
              V.int IntKind.u8 (w (3 : Nat)), V.int IntKind.u8 (w (4 : Nat)), V.int IntKind.u8 (w (5 : Nat)),
              V.int IntKind.u8 (w (6 : Nat)), V.int IntKind.u8 (w (7 : Nat)), V.int IntKind.u8 (w (8 : Nat)),
              V.int IntKind.u8 (w (9 : Nat)), V.int IntKind.u8 (w (10 : Nat)), V.int IntKind.u8 (w (11 : Nat)),
              V.int IntKind.u8 (w (12 : Nat)), V.int IntKind.u8 (w (13 : Nat)), V.int IntKind.u8 (w (14 : Nat)),
              V.int IntKind.u8 (w (15 : Nat)), V.int IntKind.u8 (w (16 : Nat)), V.int IntKind.u8 (w (17 : Nat)),
              V.int IntKind.u8 (w (18 : Nat)), V.int IntKind.u8 (w (19 : Nat)), V.int IntKind.u8 (w (20 : Nat)),
              V.int IntKind.u8 (w (21 : Nat)), V.int IntKind.u8 (w (22 : Nat)), V.int IntKind.u8 (w (23 : Nat)),
              V.int IntKind.u8 (w (24 : Nat)), V.int IntKind.u8 (w (25 : Nat)), V.int IntKind.u8 (w (26 : Nat)),
              V.int IntKind.u8 (w (27 : Nat)), V.int IntKind.u8 (w (28 : Nat)), V.int IntKind.u8 (w (29 : Nat)),
              V.int IntKind.u8 (w (30 : Nat)), V.int IntKind.u8 (w (31 : Nat)), V.int IntKind.u32 vo,
              V.slc (1 : Nat) sc Own.none, V.int IntKind.u32 sq, V.slc (1 : Nat) wi Own.none]]
        [] (V.bool false) [] [],
      false = false]) := by kernel_rfl
theorem iyf (rows : List V) (w : Nat → Int) (vo sq : Int) (sc : List V) (wi : List V) (N i : Nat) (C : FuncId → Option Contract) : exitP C F15 b147_0 (xS (.slc 36 rows .none) (fv 138) N i) [.b true, .v (inC w vo sq sc wi), .call (.bool true) [] [], .b true] =
    some
  ((Ex.ret,
      St.mk
        [((4 : Nat), V.int IntKind.i64 (↑i : Int)), ((17 : Nat), V.int IntKind.i64 (↑i : Int)),
          ((16 : Nat), V.bool true),
          ((15 : Nat),
            V.agg
              [V.int IntKind.u8 (w (0 : Nat)), V.int IntKind.u8 (w (1 : Nat)), V.int IntKind.u8 (w (2 : Nat)),
                V.int IntKind.u8 (w (3 : Nat)), V.int IntKind.u8 (w (4 : Nat)), V.int IntKind.u8 (w (5 : Nat)),
                V.int IntKind.u8 (w (6 : Nat)), V.int IntKind.u8 (w (7 : Nat)), V.int IntKind.u8 (w (8 : Nat)),
                V.int IntKind.u8 (w (9 : Nat)), V.int IntKind.u8 (w (10 : Nat)), V.int IntKind.u8 (w (11 : Nat)),
                V.int IntKind.u8 (w (12 : Nat)), V.int IntKind.u8 (w (13 : Nat)), V.int IntKind.u8 (w (14 : Nat)),
                V.int IntKind.u8 (w (15 : Nat)), V.int IntKind.u8 (w (16 : Nat)), V.int IntKind.u8 (w (17 : Nat)),
                V.int IntKind.u8 (w (18 : Nat)), V.int IntKind.u8 (w (19 : Nat)), V.int IntKind.u8 (w (20 : Nat)),
                V.int IntKind.u8 (w (21 : Nat)), V.int IntKind.u8 (w (22 : Nat)), V.int IntKind.u8 (w (23 : Nat)),
                V.int IntKind.u8 (w (24 : Nat)), V.int IntKind.u8 (w (25 : Nat)), V.int IntKind.u8 (w (26 : Nat)),
                V.int IntKind.u8 (w (27 : Nat)), V.int IntKind.u8 (w (28 : Nat)), V.int IntKind.u8 (w (29 : Nat)),
                V.int IntKind.u8 (w (30 : Nat)), V.int IntKind.u8 (w (31 : Nat)), V.int IntKind.u32 vo, rowV sc,
                V.int IntKind.u32 sq, V.slc (1 : Nat) wi Own.none]),
          ((14 : Nat),
            V.elem
              [V.int IntKind.u8 (w (0 : Nat)), V.int IntKind.u8 (w (1 : Nat)), V.int IntKind.u8 (w (2 : Nat)),
                V.int IntKind.u8 (w (3 : Nat)), V.int IntKind.u8 (w (4 : Nat)), V.int IntKind.u8 (w (5 : Nat)),
                V.int IntKind.u8 (w (6 : Nat)), V.int IntKind.u8 (w (7 : Nat)), V.int IntKind.u8 (w (8 : Nat)),
                V.int IntKind.u8 (w (9 : Nat)), V.int IntKind.u8 (w (10 : Nat)), V.int IntKind.u8 (w (11 : Nat)),
                V.int IntKind.u8 (w (12 : Nat)), V.int IntKind.u8 (w (13 : Nat)), V.int IntKind.u8 (w (14 : Nat)),
                V.int IntKind.u8 (w (15 : Nat)), V.int IntKind.u8 (w (16 : Nat)), V.int IntKind.u8 (w (17 : Nat)),
                V.int IntKind.u8 (w (18 : Nat)), V.int IntKind.u8 (w (19 : Nat)), V.int IntKind.u8 (w (20 : Nat)),
                V.int IntKind.u8 (w (21 : Nat)), V.int IntKind.u8 (w (22 : Nat)), V.int IntKind.u8 (w (23 : Nat)),
                V.int IntKind.u8 (w (24 : Nat)), V.int IntKind.u8 (w (25 : Nat)), V.int IntKind.u8 (w (26 : Nat)),
                V.int IntKind.u8 (w (27 : Nat)), V.int IntKind.u8 (w (28 : Nat)), V.int IntKind.u8 (w (29 : Nat)),
                V.int IntKind.u8 (w (30 : Nat)), V.int IntKind.u8 (w (31 : Nat)), V.int IntKind.u32 vo, rowV sc,
                V.int IntKind.u32 sq, V.slc (1 : Nat) wi Own.none]),
          ((13 : Nat), V.int IntKind.i64 (↑i : Int)), ((12 : Nat), V.slc (36 : Nat) rows Own.none),
          ((11 : Nat), V.func (Fn.func (138 : Nat)) [] []), ((5 : Nat), V.int IntKind.i64 (↑i : Int)),
          ((10 : Nat), V.int IntKind.i64 (↑i : Int)), ((9 : Nat), V.bool (decide ((↑i : Int) < (↑N : Int)))),
          ((0 : Nat), V.slc (36 : Nat) rows Own.none), ((1 : Nat), fv (138 : Nat)),
          ((7 : Nat), V.int IntKind.i64 (↑N : Int)), ((8 : Nat), V.int IntKind.i64 (↑i : Int))]
        []),
    [decide ((↑i : Int) < (↑N : Int)) = true,
      (0 : Int) ≤ (↑i : Int) ∧ rows[Int.toNat (↑i : Int)]? = some (inC w vo sq sc wi),
      callIs C (138 : Nat)
        [V.agg
            [V.int IntKind.u8 (w (0 : Nat)), V.int IntKind.u8 (w (1 : Nat)), V.int IntKind.u8 (w (2 : Nat)),
              V.int IntKind.u8 (w (3 : Nat)), V.int IntKind.u8 (w (4 : Nat)), V.int IntKind.u8 (w (5 : Nat)),
              V.int IntKind.u8 (w (6 : Nat)), V.int IntKind.u8 (w (7 : Nat)), V.int IntKind.u8 (w (8 : Nat)),
              V.int IntKind.u8 (w (9 : Nat)), V.int IntKind.u8 (w (10 : Nat)), V.int IntKind.u8 (w (11 : Nat)),
              V.int IntKind.u8 (w (12 : Nat)), V.int IntKind.u8 (w (13 : Nat)), V.int IntKind.u8 (w (14 : Nat)),
              V.int IntKind.u8 (w (15 : Nat)), V.int IntKind.u8 (w (16 : Nat)), V.int IntKind.u8 (w (17 : Nat)),
              V.int IntKind.u8 (w (18 : Nat)), V.int IntKind.u8 (w (19 : Nat)), V.int IntKind.u8 (w (20 : Nat)),
              V.int IntKind.u8 (w (21 : Nat)), V.int IntKind.u8 (w (22 : Nat)), V.int IntKind.u8 (w (23 : Nat)),
              V.int IntKind.u8 (w (24 : Nat)), V.int IntKind.u8 (w (25 : Nat)), V.int IntKind.u8 (w (26 : Nat)),
              V.int IntKind.u8 (w (27 : Nat)), V.int IntKind.u8 (w (28 : Nat)), V.int IntKind.u8 (w (29 : Nat)),
              V.int IntKind.u8 (w (30 : Nat)), V.int IntKind.u8 (w (31 : Nat)), V.int IntKind.u32 vo,
              V.slc (1 : Nat) sc Own.none, V.int IntKind.u32 sq, V.slc (1 : Nat) wi Own.none]]
        [] (V.bool true) [] [],
      true = true]) := by kernel_rfl
theorem iyn (rows : List V) (N : Nat) (C : FuncId → Option Contract) : exitP C F15 b147_0 (xS (.slc 36 rows .none) (fv 138) N N) [.b false] =
    some
  ((Ex.exit (0 : Nat),
      St.mk
        [((9 : Nat), V.bool (decide ((↑N : Int) < (↑N : Int)))), ((0 : Nat), V.slc (36 : Nat) rows Own.none),
          ((1 : Nat), fv (138 : Nat)), ((7 : Nat), V.int IntKind.i64 (↑N : Int)),
          ((8 : Nat), V.int IntKind.i64 (↑N : Int))]
        []),
    [decide ((↑N : Int) < (↑N : Int)) = false]) := by kernel_rfl
theorem wt (w : Nat → Int) (vo sq : Int) (sc : List V) (wi : List V) : a138.runP F15 noC [inC w vo sq sc wi] [] [] =
    some ((V.bool (decide ((↑(List.length wi) : Int) > (0 : Int))), [], []), []) := by kernel_rfl
theorem ixr (rows : List V) (s : St) (C : FuncId → Option Contract) (n : Int) : a146.runP F15 C [.slc 1 rows .none, fv 134] [] [.loop (.exit 0) s] =
    some
  ((V.int IntKind.i64 (-1 : Int), [], []),
    [evalCode C F15 (ACode.loop [(0 : Nat), (1 : Nat), (7 : Nat), (8 : Nat)] [(7 : Nat)] b146_0)
          (St.mk
            [((8 : Nat), V.int IntKind.i64 (0 : Int)), ((7 : Nat), V.int IntKind.i64 (↑(List.length rows) : Int)),
              ((6 : Nat), V.slc (1 : Nat) rows Own.none), ((4 : Nat), V.int IntKind.i64 (0 : Int)),
              ((0 : Nat), V.slc (1 : Nat) rows Own.none), ((1 : Nat), fv (134 : Nat))]
            []) =
        some (Ex.exit (0 : Nat), s)]) := by kernel_rfl
theorem ixq (rows : List V) (tm : Tm) (C : FuncId → Option Contract) (n : Int) : a146.runP F15 C [.slc 1 rows .none, fv 134] [] [.loop .ret ⟨(4, .int .i64 n) :: tm, []⟩] =
    some
  ((V.int IntKind.i64 n, [], []),
    [evalCode C F15 (ACode.loop [(0 : Nat), (1 : Nat), (7 : Nat), (8 : Nat)] [(7 : Nat)] b146_0)
          (St.mk
            [((8 : Nat), V.int IntKind.i64 (0 : Int)), ((7 : Nat), V.int IntKind.i64 (↑(List.length rows) : Int)),
              ((6 : Nat), V.slc (1 : Nat) rows Own.none), ((4 : Nat), V.int IntKind.i64 (0 : Int)),
              ((0 : Nat), V.slc (1 : Nat) rows Own.none), ((1 : Nat), fv (134 : Nat))]
            []) =
        some (Ex.ret, St.mk (((4 : Nat), V.int IntKind.i64 n) :: tm) [])]) := by kernel_rfl
theorem iyr (rows : List V) (s : St) (C : FuncId → Option Contract) (n : Int) : a147.runP F15 C [.slc 36 rows .none, fv 138] [] [.loop (.exit 0) s] =
    some
  ((V.int IntKind.i64 (-1 : Int), [], []),
    [evalCode C F15 (ACode.loop [(0 : Nat), (1 : Nat), (7 : Nat), (8 : Nat)] [(7 : Nat)] b147_0)
          (St.mk
            [((8 : Nat), V.int IntKind.i64 (0 : Int)), ((7 : Nat), V.int IntKind.i64 (↑(List.length rows) : Int)),
              ((6 : Nat), V.slc (36 : Nat) rows Own.none), ((4 : Nat), V.int IntKind.i64 (0 : Int)),
              ((0 : Nat), V.slc (36 : Nat) rows Own.none), ((1 : Nat), fv (138 : Nat))]
            []) =
        some (Ex.exit (0 : Nat), s)]) := by kernel_rfl
theorem iyq (rows : List V) (tm : Tm) (C : FuncId → Option Contract) (n : Int) : a147.runP F15 C [.slc 36 rows .none, fv 138] [] [.loop .ret ⟨(4, .int .i64 n) :: tm, []⟩] =
    some
  ((V.int IntKind.i64 n, [], []),
    [evalCode C F15 (ACode.loop [(0 : Nat), (1 : Nat), (7 : Nat), (8 : Nat)] [(7 : Nat)] b147_0)
          (St.mk
            [((8 : Nat), V.int IntKind.i64 (0 : Int)), ((7 : Nat), V.int IntKind.i64 (↑(List.length rows) : Int)),
              ((6 : Nat), V.slc (36 : Nat) rows Own.none), ((4 : Nat), V.int IntKind.i64 (0 : Int)),
              ((0 : Nat), V.slc (36 : Nat) rows Own.none), ((1 : Nat), fv (138 : Nat))]
            []) =
        some (Ex.ret, St.mk (((4 : Nat), V.int IntKind.i64 n) :: tm) [])]) := by kernel_rfl
theorem cfr (rows : List V) (C : FuncId → Option Contract) (n : Int) : a135.runP F15 C [.slc 1 rows .none, fv 134] [] [.call (.int .i64 n) [] []] =
    some
  ((V.bool (decide (n ≥ (0 : Int))), [], []),
    [callIs C (146 : Nat) [V.slc (1 : Nat) rows Own.none, V.func (Fn.func (134 : Nat)) [] []] [] (V.int IntKind.i64 n)
        [] []]) := by kernel_rfl
theorem cgr (rows : List V) (C : FuncId → Option Contract) (n : Int) : a137.runP F15 C [.slc 36 rows .none, fv 138] [] [.call (.int .i64 n) [] []] =
    some
  ((V.bool (decide (n ≥ (0 : Int))), [], []),
    [callIs C (147 : Nat) [V.slc (36 : Nat) rows Own.none, V.func (Fn.func (138 : Nat)) [] []] [] (V.int IntKind.i64 n)
        [] []]) := by kernel_rfl
/-! ### the first of a list -/
def idx {α : Type} (p : α → Bool) : List α → Int
  | [] => -1
  | x :: r => if p x = true then 0 else (if idx p r < 0 then -1 else idx p r + 1)
theorem idx_none {α : Type} {p : α → Bool} : ∀ {l : List α}, (∀ x ∈ l, p x = false) → idx p l = -1
  | [], _ => rfl
  | x :: r, h => by
    rw [idx, if_neg (by simp [h x (by simp)]), idx_none fun y hy => h y (by simp [hy])]
    rfl
theorem idx_some {α : Type} {p : α → Bool} : ∀ {l : List α} {k : Nat} (hk : k < l.length), p l[k] = true → (∀ j (hj : j < k), p (l[j]'(by omega)) = false) → idx p l = k
  | [], k, hk, _, _ => by simp at hk
  | x :: r, 0, hk, hp, _ => by rw [idx, if_pos (by simpa using hp)]; rfl
  | x :: r, k + 1, hk, hp, hn => by
    have h0 := hn 0 (by omega)
    have ih := idx_some (l := r) (k := k) (by simpa using hk) (by simpa using hp) (fun j hj => by have := hn (j + 1) (by omega); simpa using this)
    rw [idx, if_neg (by simpa using h0), ih, if_neg (by omega)]
    omega
theorem idx_any {α : Type} {p : α → Bool} : ∀ (l : List α), decide (idx p l ≥ 0) = l.any p
  | [] => rfl
  | x :: r => by
    have ih := idx_any (p := p) r
    rw [idx, List.any_cons, ← ih]
    by_cases hx : p x = true
    · simp [hx]
    · have hx' : p x = false := by simpa using hx
      rw [if_neg hx, hx', Bool.false_or]
      by_cases hr : idx p r < 0
      · rw [if_pos hr]; simp [hr]
      · rw [if_neg hr]
        have e1 : idx p r + 1 ≥ 0 := by omega
        have e2 : idx p r ≥ 0 := by omega
        simp [e1, e2]
theorem first {α : Type} (p : α → Bool) : ∀ (l : List α), (∀ x ∈ l, p x = false) ∨ ∃ (k : Nat) (hk : k < l.length), p l[k] = true ∧ ∀ j (hj : j < k), p (l[j]'(by omega)) = false
  | [] => .inl (by simp)
  | x :: r => by
    by_cases hx : p x = true
    · exact .inr ⟨0, by simp, by simpa using hx, fun j hj => by omega⟩
    · have hx' : p x = false := by simpa using hx
      rcases first p r with h | ⟨k, hk, h1, h2⟩
      · exact .inl fun y hy => by
          rcases List.mem_cons.1 hy with rfl | hy
          · exact hx'
          · exact h y hy
      · refine .inr ⟨k + 1, by simpa using hk, by simpa using h1, fun j hj => ?_⟩
        cases j with
        | zero => simpa using hx'
        | succ j => have := h2 j (by omega); simpa using this

/-! ### long, and whether one of many is -/
def longB (l : List V) : Bool := decide ((l.length : Int) > 500)
def c134 : Contract := fun args objs =>
  match args, objs with
  | [.slc 1 l .none], [] => some (.bool (longB l), [], [])
  | _, _ => none
theorem h134' : Holds Tryd.prog G 134 c134 := (fn_holds (sound_noC (P := Tryd.prog) (G := G)) hM F15 Tryd.func134 p134 o134).less fun args objs x h => by
  unfold c134 at h
  split at h
  · rename_i l
    cases h
    exact runP_sound (lg l) trivial
  · cases h
def C134 : FuncId → Option Contract := addC noC 134 c134
theorem s134 : Sound Tryd.prog G C134 := sound_noC.add Tryd.func134 (by kernel_rfl) h134'
theorem call134 {C : FuncId → Option Contract} (hC : C 134 = some c134) {l : List V} {b : Bool} (hb : longB l = b) : callIs C 134 [.slc 1 l .none] [] (.bool b) [] [] := by
  simp only [callIs, hC, c134, hb]
noncomputable def c146 : Contract := relC (fun ws : List (List V) => ([.slc 1 (ws.map rowV) .none, fv 134], [])) (fun ws => ws.length ≤ 1000000) (fun ws => (.int .i64 (idx longB ws), [], []))
theorem wsl {α : Type} {f : α → V} {l : List α} {n : Nat} (h : l.length ≤ n) : (l.map f).length ≤ n := by simpa using h
theorem run146 (ws : List (List V)) (hl : ws.length ≤ 1000000) : a146.run F15 C134 [.slc 1 (ws.map rowV) .none, fv 134] [] = some (.int .i64 (idx longB ws), [], []) := by
  have step : ∀ (N : Nat) (i : Nat) (hi : i < ws.length), i < N → longB ws[i] = false → ∃ s', evalCode C134 F15 b146_0 (xS (.slc 1 (ws.map rowV) .none) (fv 134) N i) = some (.normal, s') ∧ clean [0, 1, 7, 8] [7] s' = xS (.slc 1 (ws.map rowV) .none) (fv 134) N (i + 1) := fun N i hi hN hb => by
    refine body_to (ixb (ws.map rowV) ws[i] N i C134) ⟨by simpa using hN, ⟨by omega, getElem_map hi⟩, call134 rfl hb, rfl, trivial⟩ ?_
    rw [wrap_succ i (by omega)]; rfl
  rcases first longB ws with h | ⟨k, hk, h1, h2⟩
  · rw [idx_none h]
    refine runP_sound (ixr (ws.map rowV) (xX (.slc 1 (ws.map rowV) .none) (fv 134) ws.length) C134 0) ⟨?_, trivial⟩
    rw [List.length_map]
    exact ev_loop (fun i => xS (.slc 1 (ws.map rowV) .none) (fv 134) ws.length i) ws.length rfl (fun i hi => step ws.length i hi hi (h _ (List.getElem_mem hi))) (exitP_sound (ixn (ws.map rowV) ws.length C134) ⟨by simp, trivial⟩) (by simp) (by unfold F15; omega)
  · rw [idx_some hk h1 h2]
    obtain ⟨tm, hlp⟩ : ∃ tm, evalCode C134 F15 (.loop [0, 1, 7, 8] [7] b146_0) (xI (.slc 1 (ws.map rowV) .none) (fv 134) ws.length) = some (.ret, ⟨(4, .int .i64 k) :: tm, []⟩) := ⟨_, ev_loop (fun i => xS (.slc 1 (ws.map rowV) .none) (fv 134) ws.length i) k rfl (fun i hi => step ws.length i (by omega) (by omega) (h2 i hi)) (exitP_sound (ixf (ws.map rowV) ws[k] ws.length k C134) ⟨by simpa using hk, ⟨by omega, getElem_map hk⟩, call134 rfl h1, rfl, trivial⟩) (by simp) (by unfold F15; omega)⟩
    refine runP_sound (ixq (ws.map rowV) tm C134 k) ⟨?_, trivial⟩
    rw [List.length_map]; exact hlp
theorem h146' : Holds Tryd.prog G 146 c146 := (fn_holds s134 hM F15 Tryd.func146 p146 o146).less fun args objs x h => by
  obtain ⟨ws, hl, he, rfl⟩ := relC_of h
  simp only [Prod.mk.injEq] at he
  obtain ⟨rfl, rfl⟩ := he
  exact run146 ws hl
theorem call146 {C : FuncId → Option Contract} (hC : C 146 = some c146) {ws : List (List V)} (hl : ws.length ≤ 1000000) : callIs C 146 [.slc 1 (ws.map rowV) .none, fv 134] [] (.int .i64 (idx longB ws)) [] [] := by
  simp only [callIs, hC]
  refine relC_eq (a := ws) (enc := fun ws : List (List V) => ([.slc 1 (ws.map rowV) .none, fv 134], [])) (ok := fun ws => ws.length ≤ 1000000) (fun a b _ _ he => ?_) hl
  simp only [Prod.mk.injEq, List.cons.injEq, V.slc.injEq, true_and, and_true] at he
  rw [map_inj (fun a _ b _ => rowV_inj) he]
noncomputable def C146 : FuncId → Option Contract := addC C134 146 c146
theorem s146 : Sound Tryd.prog G C146 := s134.add Tryd.func146 (by kernel_rfl) h146'
noncomputable def c135 : Contract := relC (fun ws : List (List V) => ([.slc 1 (ws.map rowV) .none, fv 134], [])) (fun ws => ws.length ≤ 1000000) (fun ws => (.bool (ws.any longB), [], []))
theorem h135' : Holds Tryd.prog G 135 c135 := (fn_holds s146 hM F15 Tryd.func135 p135 o135).less fun args objs x h => by
  obtain ⟨ws, hl, he, rfl⟩ := relC_of h
  simp only [Prod.mk.injEq] at he
  obtain ⟨rfl, rfl⟩ := he
  rw [← idx_any]
  exact runP_sound (cfr (ws.map rowV) C146 (idx longB ws)) ⟨call146 rfl hl, trivial⟩
theorem call135 {C : FuncId → Option Contract} (hC : C 135 = some c135) {ws : List (List V)} (hl : ws.length ≤ 1000000) {b : Bool} (hb : ws.any longB = b) : callIs C 135 [.slc 1 (ws.map rowV) .none, fv 134] [] (.bool b) [] [] := by
  simp only [callIs, hC]
  rw [← hb]
  refine relC_eq (a := ws) (enc := fun ws : List (List V) => ([.slc 1 (ws.map rowV) .none, fv 134], [])) (ok := fun ws => ws.length ≤ 1000000) (fun a b _ _ he => ?_) hl
  simp only [Prod.mk.injEq, List.cons.injEq, V.slc.injEq, true_and, and_true] at he
  rw [map_inj (fun a _ b _ => rowV_inj) he]

/-! ### whether there is a witness -/
def hasW (x : InM) : Bool := decide ((x.wi.length : Int) > 0)
noncomputable def c138 : Contract := relC (fun x : InM => ([x.v], [])) (fun x => x.ok) (fun x => (.bool (hasW x), [], []))
theorem h138' : Holds Tryd.prog G 138 c138 := (fn_holds (sound_noC (P := Tryd.prog) (G := G)) hM F15 Tryd.func138 p138 o138).less fun args objs x h => by
  obtain ⟨y, hl, he, rfl⟩ := relC_of h
  simp only [Prod.mk.injEq] at he
  obtain ⟨rfl, rfl⟩ := he
  obtain ⟨w, hw⟩ := p32_of hl.1 hl.2
  rw [InM.v_eq y hw]
  have := runP_sound (wt w y.vo y.sq y.sc (y.wi.map rowV)) trivial
  rw [this, List.length_map]; rfl
theorem call138 {C : FuncId → Option Contract} (hC : C 138 = some c138) {x : InM} (hl : x.ok) {b : Bool} (hb : hasW x = b) : callIs C 138 [x.v] [] (.bool b) [] [] := by
  simp only [callIs, hC]
  rw [← hb]
  refine relC_eq (a := x) (enc := fun x : InM => ([x.v], [])) (ok := fun x => x.ok) (fun a b ha hb he => ?_) hl
  simp only [Prod.mk.injEq, List.cons.injEq, and_true] at he
  rw [InM.v_inj (ha.1.trans hb.1.symm) he]
noncomputable def C138 : FuncId → Option Contract := addC noC 138 c138
theorem s138 : Sound Tryd.prog G C138 := sound_noC.add Tryd.func138 (by kernel_rfl) h138'
def insOk (l : List InM) : Prop := (∀ x ∈ l, x.ok) ∧ l.length ≤ 1000000
noncomputable def c147 : Contract := relC (fun l : List InM => ([insV l, fv 138], [])) insOk (fun l => (.int .i64 (idx hasW l), [], []))
theorem run147 (l : List InM) (hl : insOk l) : a147.run F15 C138 [insV l, fv 138] [] = some (.int .i64 (idx hasW l), [], []) := by
  obtain ⟨hok, hlen⟩ := hl
  have step : ∀ (i : Nat) (hi : i < l.length), hasW l[i] = false → ∃ s', evalCode C138 F15 b147_0 (xS (.slc 36 (l.map InM.v) .none) (fv 138) l.length i) = some (.normal, s') ∧ clean [0, 1, 7, 8] [7] s' = xS (.slc 36 (l.map InM.v) .none) (fv 138) l.length (i + 1) := fun i hi hb => by
    have hx := hok _ (List.getElem_mem hi)
    obtain ⟨w, hw⟩ := p32_of hx.1 hx.2
    have hv := InM.v_eq l[i] hw
    refine body_to (iyb (l.map InM.v) w l[i].vo l[i].sq l[i].sc (l[i].wi.map rowV) l.length i C138) ⟨by simpa using hi, ⟨by omega, by rw [getElem_map hi, hv]⟩, ?_, rfl, trivial⟩ ?_
    · have := call138 (C := C138) rfl hx hb
      rw [hv] at this; exact this
    · rw [wrap_succ i (by omega)]; rfl
  rcases first hasW l with h | ⟨k, hk, h1, h2⟩
  · rw [idx_none h]
    refine runP_sound (iyr (l.map InM.v) (xX (.slc 36 (l.map InM.v) .none) (fv 138) l.length) C138 0) ⟨?_, trivial⟩
    rw [List.length_map]
    exact ev_loop (fun i => xS (.slc 36 (l.map InM.v) .none) (fv 138) l.length i) l.length rfl (fun i hi => step i hi (h _ (List.getElem_mem hi))) (exitP_sound (iyn (l.map InM.v) l.length C138) ⟨by simp, trivial⟩) (by simp) (by unfold F15; omega)
  · rw [idx_some hk h1 h2]
    have hx := hok _ (List.getElem_mem hk)
    obtain ⟨w, hw⟩ := p32_of hx.1 hx.2
    have hv := InM.v_eq l[k] hw
    have hc := call138 (C := C138) rfl hx h1
    rw [hv] at hc
    obtain ⟨tm, hlp⟩ : ∃ tm, evalCode C138 F15 (.loop [0, 1, 7, 8] [7] b147_0) (xI (.slc 36 (l.map InM.v) .none) (fv 138) l.length) = some (.ret, ⟨(4, .int .i64 k) :: tm, []⟩) := ⟨_, ev_loop (fun i => xS (.slc 36 (l.map InM.v) .none) (fv 138) l.length i) k rfl (fun i hi => step i (by omega) (h2 i hi)) (exitP_sound (iyf (l.map InM.v) w l[k].vo l[k].sq l[k].sc (l[k].wi.map rowV) l.length k C138) ⟨by simpa using hk, ⟨by omega, by rw [getElem_map hk, hv]⟩, hc, rfl, trivial⟩) (by simp) (by unfold F15; omega)⟩
    refine runP_sound (iyq (l.map InM.v) tm C138 k) ⟨?_, trivial⟩
    rw [List.length_map]; exact hlp
theorem h147' : Holds Tryd.prog G 147 c147 := (fn_holds s138 hM F15 Tryd.func147 p147 o147).less fun args objs x h => by
  obtain ⟨ws, hl, he, rfl⟩ := relC_of h
  simp only [Prod.mk.injEq] at he
  obtain ⟨rfl, rfl⟩ := he
  exact run147 ws hl
theorem insV_inj {a b : List InM} (ha : insOk a) (hb : insOk b) (h : insV a = insV b) : a = b := by
  simp only [insV, V.slc.injEq, true_and, and_true] at h
  exact map_inj (fun x hx y hy => InM.v_inj ((ha.1 x hx).1.trans (hb.1 y hy).1.symm)) h
theorem call147 {C : FuncId → Option Contract} (hC : C 147 = some c147) {l : List InM} (hl : insOk l) : callIs C 147 [insV l, fv 138] [] (.int .i64 (idx hasW l)) [] [] := by
  simp only [callIs, hC]
  refine relC_eq (a := l) (enc := fun l : List InM => ([insV l, fv 138], [])) (ok := insOk) (fun a b ha hb he => ?_) hl
  simp only [Prod.mk.injEq, List.cons.injEq, true_and, and_true] at he
  rw [insV_inj ha hb he]
noncomputable def C147 : FuncId → Option Contract := addC C138 147 c147
theorem s147 : Sound Tryd.prog G C147 := s138.add Tryd.func147 (by kernel_rfl) h147'
noncomputable def c137 : Contract := relC (fun l : List InM => ([insV l, fv 138], [])) insOk (fun l => (.bool (l.any hasW), [], []))
theorem h137' : Holds Tryd.prog G 137 c137 := (fn_holds s147 hM F15 Tryd.func137 p137 o137).less fun args objs x h => by
  obtain ⟨l, hl, he, rfl⟩ := relC_of h
  simp only [Prod.mk.injEq] at he
  obtain ⟨rfl, rfl⟩ := he
  rw [← idx_any]
  exact runP_sound (cgr (l.map InM.v) C147 (idx hasW l)) ⟨call147 rfl hl, trivial⟩
theorem call137 {C : FuncId → Option Contract} (hC : C 137 = some c137) {l : List InM} (hl : insOk l) : callIs C 137 [insV l, fv 138] [] (.bool (l.any hasW)) [] [] := by
  simp only [callIs, hC]
  refine relC_eq (a := l) (enc := fun l : List InM => ([insV l, fv 138], [])) (ok := insOk) (fun a b ha hb he => ?_) hl
  simp only [Prod.mk.injEq, List.cons.injEq, true_and, and_true] at he
  rw [insV_inj ha hb he]
noncomputable def C137 : FuncId → Option Contract := addC noC 137 c137
theorem s137 : Sound Tryd.prog G C137 := sound_noC.add Tryd.func137 (by kernel_rfl) h137'
theorem wdr (ve lo : Int) (iv ov : List V) (b : Bool) (C : FuncId → Option Contract) : a104.runP F15 C [.agg (txc ve lo iv ov)] [] [.call (.bool b) [] []] =
    some
  ((V.bool b, [], []),
    [callIs C (137 : Nat) [V.slc (36 : Nat) iv Own.none, V.func (Fn.func (138 : Nat)) [] []] [] (V.bool b) [] []]) := by kernel_rfl
def witB (t : TxM) : Bool := t.ins.any hasW
theorem TxM.okIns {t : TxM} (h : t.ok) : insOk t.ins := ⟨h.1, h.2.1⟩
noncomputable def c104 : Contract := relC (fun t : TxM => ([t.v], [])) TxM.ok (fun t => (.bool (witB t), [], []))
theorem h104' : Holds Tryd.prog G 104 c104 := (fn_holds s137 hM F15 Tryd.func104 p104 o104).less fun args objs x h => by
  obtain ⟨t, hl, he, rfl⟩ := relC_of h
  simp only [Prod.mk.injEq] at he
  obtain ⟨rfl, rfl⟩ := he
  exact runP_sound (wdr t.ve t.lo (t.ins.map InM.v) (t.outs.map OutM.v) (witB t) C137) ⟨call137 rfl (TxM.okIns hl), trivial⟩
theorem txC_eq {ok : TxM → Prop} (hk : ∀ t, ok t → t.ok) {res : TxM → V × List Ev.Obj × List Ev.Obj} {t : TxM} (ht : ok t) : relC (fun t : TxM => ([t.v], [])) ok res [t.v] [] = some (res t) := by
  refine relC_eq (a := t) (enc := fun t : TxM => ([t.v], [])) (fun a b ha hb he => ?_) ht
  simp only [Prod.mk.injEq, List.cons.injEq, and_true] at he
  rw [TxM.v_inj (hk _ ha).1 (hk _ hb).1 he]

/-! ### whether a transaction may be -/
noncomputable def C102 : FuncId → Option Contract := addC (addC noC 134 c134) 135 c135
theorem s102 : Sound Tryd.prog G C102 := (sound_noC.add Tryd.func134 (by kernel_rfl) h134').add Tryd.func135 (by kernel_rfl) h135'
def mS (c : List V) (ins : V) (N i : Nat) : St := ⟨[(1, .ptr (.loc 1 0) 0), (8, ins), (9, .int .i64 N), (10, .int .i64 i)], [(.loc 1 0, .cells c)]⟩
def nS (c : List V) (outs : V) (N i : Nat) : St := ⟨[(1, .ptr (.loc 1 0) 0), (30, outs), (31, .int .i64 N), (32, .int .i64 i)], [(.loc 1 0, .cells c)]⟩
def mX (c : List V) (ins : V) (N : Nat) : St := ⟨(11, .bool (decide ((N : Int) < N))) :: (mS c ins N N).tm, (mS c ins N N).st⟩
def nX (c : List V) (outs : V) (N : Nat) : St := ⟨(33, .bool (decide ((N : Int) < N))) :: (nS c outs N N).tm, (nS c outs N N).st⟩
theorem mb (ve lo vo sq : Int) (iv ov : List V) (N i : Nat) (sc : List V) (w : Nat → Int) (wi : List V) (C : FuncId → Option Contract) : bodyP C F15 (clean [1, 8, 9, 10] [1]) b102_0 (mS (txc ve lo iv ov) (.slc 36 iv .none) N i) [.b true, .v (inC w vo sq sc wi), .call (.bool false) [] [], .g false, .g false, .g false, .g false, .g false, .g false, .g false, .call (.bool false) [] [], .k false, .b false] =
    some
  (St.mk
      [((1 : Nat), V.ptr (Key.loc (1 : Nat) (0 : Nat)) (0 : Nat)), ((8 : Nat), V.slc (36 : Nat) iv Own.none),
        ((9 : Nat), V.int IntKind.i64 (↑N : Int)),
        ((10 : Nat), V.int IntKind.i64 (IntKind.wrap IntKind.i64 ((↑i : Int) + (1 : Int))))]
      [(Key.loc (1 : Nat) (0 : Nat),
          Ev.Obj.cells
            [V.int IntKind.u32 ve, V.slc (36 : Nat) iv Own.none, V.slc (2 : Nat) ov Own.none, V.int IntKind.u32 lo])],
    [decide ((↑i : Int) < (↑N : Int)) = true,
      (0 : Int) ≤ (↑i : Int) ∧ iv[Int.toNat (↑i : Int)]? = some (inC w vo sq sc wi),
      callIs C (134 : Nat) [V.slc (1 : Nat) sc Own.none] [] (V.bool false) [] [], false = false, false = false,
      false = false, false = false, decide ((↑(List.length wi) : Int) > (10 : Int)) = false,
      decide ((↑(List.length wi) : Int) > (10 : Int)) = false, decide ((↑(List.length wi) : Int) > (10 : Int)) = false,
      callIs C (135 : Nat) [V.slc (1 : Nat) wi Own.none, V.func (Fn.func (134 : Nat)) [] []] [] (V.bool false) [] [],
      decide ((↑(List.length wi) : Int) > (10 : Int)) = false, false = false]) := by kernel_rfl
theorem m1 (ve lo vo sq : Int) (iv ov : List V) (N i : Nat) (sc : List V) (w : Nat → Int) (wi : List V) (C : FuncId → Option Contract) : exitP C F15 b102_0 (mS (txc ve lo iv ov) (.slc 36 iv .none) N i) [.b true, .v (inC w vo sq sc wi), .call (.bool true) [] [], .b true] =
    some
  ((Ex.ret,
      St.mk
        [((2 : Nat), V.bool false), ((27 : Nat), V.bool true), ((26 : Nat), V.tuple []), ((25 : Nat), V.tuple []),
          ((24 : Nat), V.tuple []), ((23 : Nat), V.bool true), ((22 : Nat), V.bool true), ((21 : Nat), V.tuple []),
          ((20 : Nat), V.tuple []), ((19 : Nat), V.tuple []), ((18 : Nat), V.tuple []), ((17 : Nat), V.bool true),
          ((16 : Nat), V.bool true), ((15 : Nat), V.slc (1 : Nat) sc Own.none),
          ((14 : Nat), V.ptr (Key.loc (4 : Nat) (0 : Nat)) (33 : Nat)),
          ((4 : Nat), V.ptr (Key.loc (4 : Nat) (0 : Nat)) (0 : Nat)),
          ((13 : Nat),
            V.agg
              [V.int IntKind.u8 (w (0 : Nat)), V.int IntKind.u8 (w (1 : Nat)), V.int IntKind.u8 (w (2 : Nat)),
                V.int IntKind.u8 (w (3 : Nat)), V.int IntKind.u8 (w (4 : Nat)), V.int IntKind.u8 (w (5 : Nat)),
                V.int IntKind.u8 (w (6 : Nat)), V.int IntKind.u8 (w (7 : Nat)), V.int IntKind.u8 (w (8 : Nat)),
                V.int IntKind.u8 (w (9 : Nat)), V.int IntKind.u8 (w (10 : Nat)), V.int IntKind.u8 (w (11 : Nat)),
                V.int IntKind.u8 (w (12 : Nat)), V.int IntKind.u8 (w (13 : Nat)), V.int IntKind.u8 (w (14 : Nat)),
                V.int IntKind.u8 (w (15 : Nat)), V.int IntKind.u8 (w (16 : Nat)), V.int IntKind.u8 (w (17 : Nat)),
                V.int IntKind.u8 (w (18 : Nat)), V.int IntKind.u8 (w (19 : Nat)), V.int IntKind.u8 (w (20 : Nat)),
                V.int IntKind.u8 (w (21 : Nat)), V.int IntKind.u8 (w (22 : Nat)), V.int IntKind.u8 (w (23 : Nat)),
                V.int IntKind.u8 (w (24 : Nat)), V.int IntKind.u8 (w (25 : Nat)), V.int IntKind.u8 (w (26 : Nat)),
                V.int IntKind.u8 (w (27 : Nat)), V.int IntKind.u8 (w (28 : Nat)), V.int IntKind.u8 (w (29 : Nat)),
                V.int IntKind.u8 (w (30 : Nat)), V.int IntKind.u8 (w (31 : Nat)), V.int IntKind.u32 vo, rowV sc,
                V.int IntKind.u32 sq, V.slc (1 : Nat) wi Own.none]),
          ((12 : Nat),
            V.elem
              [V.int IntKind.u8 (w (0 : Nat)), V.int IntKind.u8 (w (1 : Nat)), V.int IntKind.u8 (w (2 : Nat)),
                V.int IntKind.u8 (w (3 : Nat)), V.int IntKind.u8 (w (4 : Nat)), V.int IntKind.u8 (w (5 : Nat)),
                V.int IntKind.u8 (w (6 : Nat)), V.int IntKind.u8 (w (7 : Nat)), V.int IntKind.u8 (w (8 : Nat)),
                V.int IntKind.u8 (w (9 : Nat)), V.int IntKind.u8 (w (10 : Nat)), V.int IntKind.u8 (w (11 : Nat)),
                V.int IntKind.u8 (w (12 : Nat)), V.int IntKind.u8 (w (13 : Nat)), V.int IntKind.u8 (w (14 : Nat)),
                V.int IntKind.u8 (w (15 : Nat)), V.int IntKind.u8 (w (16 : Nat)), V.int IntKind.u8 (w (17 : Nat)),
                V.int IntKind.u8 (w (18 : Nat)), V.int IntKind.u8 (w (19 : Nat)), V.int IntKind.u8 (w (20 : Nat)),
                V.int IntKind.u8 (w (21 : Nat)), V.int IntKind.u8 (w (22 : Nat)), V.int IntKind.u8 (w (23 : Nat)),
                V.int IntKind.u8 (w (24 : Nat)), V.int IntKind.u8 (w (25 : Nat)), V.int IntKind.u8 (w (26 : Nat)),
                V.int IntKind.u8 (w (27 : Nat)), V.int IntKind.u8 (w (28 : Nat)), V.int IntKind.u8 (w (29 : Nat)),
                V.int IntKind.u8 (w (30 : Nat)), V.int IntKind.u8 (w (31 : Nat)), V.int IntKind.u32 vo, rowV sc,
                V.int IntKind.u32 sq, V.slc (1 : Nat) wi Own.none]),
          ((11 : Nat), V.bool (decide ((↑i : Int) < (↑N : Int)))),
          ((1 : Nat), V.ptr (Key.loc (1 : Nat) (0 : Nat)) (0 : Nat)), ((8 : Nat), V.slc (36 : Nat) iv Own.none),
          ((9 : Nat), V.int IntKind.i64 (↑N : Int)), ((10 : Nat), V.int IntKind.i64 (↑i : Int))]
        [(Key.loc (1 : Nat) (0 : Nat), Ev.Obj.cells (txc ve lo iv ov)),
          (Key.loc (4 : Nat) (0 : Nat),
            Ev.Obj.cells
              [V.int IntKind.u8 (w (0 : Nat)), V.int IntKind.u8 (w (1 : Nat)), V.int IntKind.u8 (w (2 : Nat)),
                V.int IntKind.u8 (w (3 : Nat)), V.int IntKind.u8 (w (4 : Nat)), V.int IntKind.u8 (w (5 : Nat)),
                V.int IntKind.u8 (w (6 : Nat)), V.int IntKind.u8 (w (7 : Nat)), V.int IntKind.u8 (w (8 : Nat)),
                V.int IntKind.u8 (w (9 : Nat)), V.int IntKind.u8 (w (10 : Nat)), V.int IntKind.u8 (w (11 : Nat)),
                V.int IntKind.u8 (w (12 : Nat)), V.int IntKind.u8 (w (13 : Nat)), V.int IntKind.u8 (w (14 : Nat)),
                V.int IntKind.u8 (w (15 : Nat)), V.int IntKind.u8 (w (16 : Nat)), V.int IntKind.u8 (w (17 : Nat)),
                V.int IntKind.u8 (w (18 : Nat)), V.int IntKind.u8 (w (19 : Nat)), V.int IntKind.u8 (w (20 : Nat)),
                V.int IntKind.u8 (w (21 : Nat)), V.int IntKind.u8 (w (22 : Nat)), V.int IntKind.u8 (w (23 : Nat)),
                V.int IntKind.u8 (w (24 : Nat)), V.int IntKind.u8 (w (25 : Nat)), V.int IntKind.u8 (w (26 : Nat)),
                V.int IntKind.u8 (w (27 : Nat)), V.int IntKind.u8 (w (28 : Nat)), V.int IntKind.u8 (w (29 : Nat)),
                V.int IntKind.u8 (w (30 : Nat)), V.int IntKind.u8 (w (31 : Nat)), V.int IntKind.u32 vo, rowV sc,
                V.int IntKind.u32 sq, V.slc (1 : Nat) wi Own.none])]),
    [decide ((↑i : Int) < (↑N : Int)) = true,
      (0 : Int) ≤ (↑i : Int) ∧ iv[Int.toNat (↑i : Int)]? = some (inC w vo sq sc wi),
      callIs C (134 : Nat) [V.slc (1 : Nat) sc Own.none] [] (V.bool true) [] [], true = true]) := by kernel_rfl
theorem m2 (ve lo vo sq : Int) (iv ov : List V) (N i : Nat) (sc : List V) (w : Nat → Int) (wi : List V) (C : FuncId → Option Contract) : exitP C F15 b102_0 (mS (txc ve lo iv ov) (.slc 36 iv .none) N i) [.b true, .v (inC w vo sq sc wi), .call (.bool false) [] [], .g false, .g false, .g false, .g false, .g true, .g true, .g true, .k true, .b true] =
    some
  ((Ex.ret,
      St.mk
        [((2 : Nat), V.bool false), ((27 : Nat), V.bool true), ((26 : Nat), V.tuple []), ((25 : Nat), V.tuple []),
          ((24 : Nat), V.tuple []), ((23 : Nat), V.bool (decide ((↑(List.length wi) : Int) > (10 : Int)))),
          ((22 : Nat), V.bool (decide ((↑(List.length wi) : Int) > (10 : Int)))),
          ((21 : Nat), V.bool (decide ((↑(List.length wi) : Int) > (10 : Int)))),
          ((20 : Nat), V.int IntKind.i64 (↑(List.length wi) : Int)), ((19 : Nat), V.slc (1 : Nat) wi Own.none),
          ((18 : Nat), V.ptr (Key.loc (4 : Nat) (0 : Nat)) (35 : Nat)), ((17 : Nat), V.bool false),
          ((16 : Nat), V.bool false), ((15 : Nat), V.slc (1 : Nat) sc Own.none),
          ((14 : Nat), V.ptr (Key.loc (4 : Nat) (0 : Nat)) (33 : Nat)),
          ((4 : Nat), V.ptr (Key.loc (4 : Nat) (0 : Nat)) (0 : Nat)),
          ((13 : Nat),
            V.agg
              [V.int IntKind.u8 (w (0 : Nat)), V.int IntKind.u8 (w (1 : Nat)), V.int IntKind.u8 (w (2 : Nat)),
                V.int IntKind.u8 (w (3 : Nat)), V.int IntKind.u8 (w (4 : Nat)), V.int IntKind.u8 (w (5 : Nat)),
                V.int IntKind.u8 (w (6 : Nat)), V.int IntKind.u8 (w (7 : Nat)), V.int IntKind.u8 (w (8 : Nat)),
                V.int IntKind.u8 (w (9 : Nat)), V.int IntKind.u8 (w (10 : Nat)), V.int IntKind.u8 (w (11 : Nat)),
                V.int IntKind.u8 (w (12 : Nat)), V.int IntKind.u8 (w (13 : Nat)), V.int IntKind.u8 (w (14 : Nat)),
                V.int IntKind.u8 (w (15 : Nat)), V.int IntKind.u8 (w (16 : Nat)), V.int IntKind.u8 (w (17 : Nat)),
                V.int IntKind.u8 (w (18 : Nat)), V.int IntKind.u8 (w (19 : Nat)), V.int IntKind.u8 (w (20 : Nat)),
                V.int IntKind.u8 (w (21 : Nat)), V.int IntKind.u8 (w (22 : Nat)), V.int IntKind.u8 (w (23 : Nat)),
                V.int IntKind.u8 (w (24 : Nat)), V.int IntKind.u8 (w (25 : Nat)), V.int IntKind.u8 (w (26 : Nat)),
                V.int IntKind.u8 (w (27 : Nat)), V.int IntKind.u8 (w (28 : Nat)), V.int IntKind.u8 (w (29 : Nat)),
                V.int IntKind.u8 (w (30 : Nat)), V.int IntKind.u8 (w (31 : Nat)), V.int IntKind.u32 vo, rowV sc,
                V.int IntKind.u32 sq, V.slc (1 : Nat) wi Own.none]),
          ((12 : Nat),
            V.elem
              [V.int IntKind.u8 (w (0 : Nat)), V.int IntKind.u8 (w (1 : Nat)), V.int IntKind.u8 (w (2 : Nat)),
                V.int IntKind.u8 (w (3 : Nat)), V.int IntKind.u8 (w (4 : Nat)), V.int IntKind.u8 (w (5 : Nat)),
                V.int IntKind.u8 (w (6 : Nat)), V.int IntKind.u8 (w (7 : Nat)), V.int IntKind.u8 (w (8 : Nat)),
                V.int IntKind.u8 (w (9 : Nat)), V.int IntKind.u8 (w (10 : Nat)), V.int IntKind.u8 (w (11 : Nat)),
                V.int IntKind.u8 (w (12 : Nat)), V.int IntKind.u8 (w (13 : Nat)), V.int IntKind.u8 (w (14 : Nat)),
                V.int IntKind.u8 (w (15 : Nat)), V.int IntKind.u8 (w (16 : Nat)), V.int IntKind.u8 (w (17 : Nat)),
                V.int IntKind.u8 (w (18 : Nat)), V.int IntKind.u8 (w (19 : Nat)), V.int IntKind.u8 (w (20 : Nat)),
                V.int IntKind.u8 (w (21 : Nat)), V.int IntKind.u8 (w (22 : Nat)), V.int IntKind.u8 (w (23 : Nat)),
                V.int IntKind.u8 (w (24 : Nat)), V.int IntKind.u8 (w (25 : Nat)), V.int IntKind.u8 (w (26 : Nat)),
                V.int IntKind.u8 (w (27 : Nat)), V.int IntKind.u8 (w (28 : Nat)), V.int IntKind.u8 (w (29 : Nat)),
                V.int IntKind.u8 (w (30 : Nat)), V.int IntKind.u8 (w (31 : Nat)), V.int IntKind.u32 vo, rowV sc,
                V.int IntKind.u32 sq, V.slc (1 : Nat) wi Own.none]),
          ((11 : Nat), V.bool (decide ((↑i : Int) < (↑N : Int)))),
          ((1 : Nat), V.ptr (Key.loc (1 : Nat) (0 : Nat)) (0 : Nat)), ((8 : Nat), V.slc (36 : Nat) iv Own.none),
          ((9 : Nat), V.int IntKind.i64 (↑N : Int)), ((10 : Nat), V.int IntKind.i64 (↑i : Int))]
        [(Key.loc (1 : Nat) (0 : Nat), Ev.Obj.cells (txc ve lo iv ov)),
          (Key.loc (4 : Nat) (0 : Nat),
            Ev.Obj.cells
              [V.int IntKind.u8 (w (0 : Nat)), V.int IntKind.u8 (w (1 : Nat)), V.int IntKind.u8 (w (2 : Nat)),
                V.int IntKind.u8 (w (3 : Nat)), V.int IntKind.u8 (w (4 : Nat)), V.int IntKind.u8 (w (5 : Nat)),
                V.int IntKind.u8 (w (6 : Nat)), V.int IntKind.u8 (w (7 : Nat)), V.int IntKind.u8 (w (8 : Nat)),
                V.int IntKind.u8 (w (9 : Nat)), V.int IntKind.u8 (w (10 : Nat)), V.int IntKind.u8 (w (11 : Nat)),
                V.int IntKind.u8 (w (12 : Nat)), V.int IntKind.u8 (w (13 : Nat)), V.int IntKind.u8 (w (14 : Nat)),
                V.int IntKind.u8 (w (15 : Nat)), V.int IntKind.u8 (w (16 : Nat)), V.int IntKind.u8 (w (17 : Nat)),
                V.int IntKind.u8 (w (18 : Nat)), V.int IntKind.u8 (w (19 : Nat)), V.int IntKind.u8 (w (20 : Nat)),
                V.int IntKind.u8 (w (21 : Nat)), V.int IntKind.u8 (w (22 : Nat)), V.int IntKind.u8 (w (23 : Nat)),
                V.int IntKind.u8 (w (24 : Nat)), V.int IntKind.u8 (w (25 : Nat)), V.int IntKind.u8 (w (26 : Nat)),
                V.int IntKind.u8 (w (27 : Nat)), V.int IntKind.u8 (w (28 : Nat)), V.int IntKind.u8 (w (29 : Nat)),
                V.int IntKind.u8 (w (30 : Nat)), V.int IntKind.u8 (w (31 : Nat)), V.int IntKind.u32 vo, rowV sc,
                V.int IntKind.u32 sq, V.slc (1 : Nat) wi Own.none])]),
    [decide ((↑i : Int) < (↑N : Int)) = true,
      (0 : Int) ≤ (↑i : Int) ∧ iv[Int.toNat (↑i : Int)]? = some (inC w vo sq sc wi),
      callIs C (134 : Nat) [V.slc (1 : Nat) sc Own.none] [] (V.bool false) [] [], false = false, false = false,
      false = false, false = false, decide ((↑(List.length wi) : Int) > (10 : Int)) = true,
      decide ((↑(List.length wi) : Int) > (10 : Int)) = true, decide ((↑(List.length wi) : Int) > (10 : Int)) = true,
      decide ((↑(List.length wi) : Int) > (10 : Int)) = true, true = true]) := by kernel_rfl
theorem m3 (ve lo vo sq : Int) (iv ov : List V) (N i : Nat) (sc : List V) (w : Nat → Int) (wi : List V) (C : FuncId → Option Contract) : exitP C F15 b102_0 (mS (txc ve lo iv ov) (.slc 36 iv .none) N i) [.b true, .v (inC w vo sq sc wi), .call (.bool false) [] [], .g false, .g false, .g false, .g false, .g false, .g false, .g false, .call (.bool true) [] [], .k false, .b true] =
    some
  ((Ex.ret,
      St.mk
        [((2 : Nat), V.bool false), ((27 : Nat), V.bool true), ((26 : Nat), V.bool true),
          ((25 : Nat), V.slc (1 : Nat) wi Own.none), ((24 : Nat), V.ptr (Key.loc (4 : Nat) (0 : Nat)) (35 : Nat)),
          ((23 : Nat), V.bool (decide ((↑(List.length wi) : Int) > (10 : Int)))),
          ((22 : Nat), V.bool (decide ((↑(List.length wi) : Int) > (10 : Int)))),
          ((21 : Nat), V.bool (decide ((↑(List.length wi) : Int) > (10 : Int)))),
          ((20 : Nat), V.int IntKind.i64 (↑(List.length wi) : Int)), ((19 : Nat), V.slc (1 : Nat) wi Own.none),
          ((18 : Nat), V.ptr (Key.loc (4 : Nat) (0 : Nat)) (35 : Nat)), ((17 : Nat), V.bool false),
          ((16 : Nat), V.bool false), ((15 : Nat), V.slc (1 : Nat) sc Own.none),
          ((14 : Nat), V.ptr (Key.loc (4 : Nat) (0 : Nat)) (33 : Nat)),
          ((4 : Nat), V.ptr (Key.loc (4 : Nat) (0 : Nat)) (0 : Nat)),
          ((13 : Nat),
            V.agg
              [V.int IntKind.u8 (w (0 : Nat)), V.int IntKind.u8 (w (1 : Nat)), V.int IntKind.u8 (w (2 : Nat)),
                V.int IntKind.u8 (w (3 : Nat)), V.int IntKind.u8 (w (4 : Nat)), V.int IntKind.u8 (w (5 : Nat)),
                V.int IntKind.u8 (w (6 : Nat)), V.int IntKind.u8 (w (7 : Nat)), V.int IntKind.u8 (w (8 : Nat)),
                V.int IntKind.u8 (w (9 : Nat)), V.int IntKind.u8 (w (10 : Nat)), V.int IntKind.u8 (w (11 : Nat)),
                V.int IntKind.u8 (w (12 : Nat)), V.int IntKind.u8 (w (13 : Nat)), V.int IntKind.u8 (w (14 : Nat)),
                V.int IntKind.u8 (w (15 : Nat)), V.int IntKind.u8 (w (16 : Nat)), V.int IntKind.u8 (w (17 : Nat)),
                V.int IntKind.u8 (w (18 : Nat)), V.int IntKind.u8 (w (19 : Nat)), V.int IntKind.u8 (w (20 : Nat)),
                V.int IntKind.u8 (w (21 : Nat)), V.int IntKind.u8 (w (22 : Nat)), V.int IntKind.u8 (w (23 : Nat)),
                V.int IntKind.u8 (w (24 : Nat)), V.int IntKind.u8 (w (25 : Nat)), V.int IntKind.u8 (w (26 : Nat)),
                V.int IntKind.u8 (w (27 : Nat)), V.int IntKind.u8 (w (28 : Nat)), V.int IntKind.u8 (w (29 : Nat)),
                V.int IntKind.u8 (w (30 : Nat)), V.int IntKind.u8 (w (31 : Nat)), V.int IntKind.u32 vo, rowV sc,
                V.int IntKind.u32 sq, V.slc (1 : Nat) wi Own.none]),
          ((12 : Nat),
            V.elem
              [V.int IntKind.u8 (w (0 : Nat)), V.int IntKind.u8 (w (1 : Nat)), V.int IntKind.u8 (w (2 : Nat)),
                V.int IntKind.u8 (w (3 : Nat)), V.int IntKind.u8 (w (4 : Nat)), V.int IntKind.u8 (w (5 : Nat)),
                V.int IntKind.u8 (w (6 : Nat)), V.int IntKind.u8 (w (7 : Nat)), V.int IntKind.u8 (w (8 : Nat)),
                V.int IntKind.u8 (w (9 : Nat)), V.int IntKind.u8 (w (10 : Nat)), V.int IntKind.u8 (w (11 : Nat)),
                V.int IntKind.u8 (w (12 : Nat)), V.int IntKind.u8 (w (13 : Nat)), V.int IntKind.u8 (w (14 : Nat)),
                V.int IntKind.u8 (w (15 : Nat)), V.int IntKind.u8 (w (16 : Nat)), V.int IntKind.u8 (w (17 : Nat)),
                V.int IntKind.u8 (w (18 : Nat)), V.int IntKind.u8 (w (19 : Nat)), V.int IntKind.u8 (w (20 : Nat)),
                V.int IntKind.u8 (w (21 : Nat)), V.int IntKind.u8 (w (22 : Nat)), V.int IntKind.u8 (w (23 : Nat)),
                V.int IntKind.u8 (w (24 : Nat)), V.int IntKind.u8 (w (25 : Nat)), V.int IntKind.u8 (w (26 : Nat)),
                V.int IntKind.u8 (w (27 : Nat)), V.int IntKind.u8 (w (28 : Nat)), V.int IntKind.u8 (w (29 : Nat)),
                V.int IntKind.u8 (w (30 : Nat)), V.int IntKind.u8 (w (31 : Nat)), V.int IntKind.u32 vo, rowV sc,
                V.int IntKind.u32 sq, V.slc (1 : Nat) wi Own.none]),
          ((11 : Nat), V.bool (decide ((↑i : Int) < (↑N : Int)))),
          ((1 : Nat), V.ptr (Key.loc (1 : Nat) (0 : Nat)) (0 : Nat)), ((8 : Nat), V.slc (36 : Nat) iv Own.none),
          ((9 : Nat), V.int IntKind.i64 (↑N : Int)), ((10 : Nat), V.int IntKind.i64 (↑i : Int))]
        [(Key.loc (1 : Nat) (0 : Nat), Ev.Obj.cells (txc ve lo iv ov)),
          (Key.loc (4 : Nat) (0 : Nat),
            Ev.Obj.cells
              [V.int IntKind.u8 (w (0 : Nat)), V.int IntKind.u8 (w (1 : Nat)), V.int IntKind.u8 (w (2 : Nat)),
                V.int IntKind.u8 (w (3 : Nat)), V.int IntKind.u8 (w (4 : Nat)), V.int IntKind.u8 (w (5 : Nat)),
                V.int IntKind.u8 (w (6 : Nat)), V.int IntKind.u8 (w (7 : Nat)), V.int IntKind.u8 (w (8 : Nat)),
                V.int IntKind.u8 (w (9 : Nat)), V.int IntKind.u8 (w (10 : Nat)), V.int IntKind.u8 (w (11 : Nat)),
                V.int IntKind.u8 (w (12 : Nat)), V.int IntKind.u8 (w (13 : Nat)), V.int IntKind.u8 (w (14 : Nat)),
                V.int IntKind.u8 (w (15 : Nat)), V.int IntKind.u8 (w (16 : Nat)), V.int IntKind.u8 (w (17 : Nat)),
                V.int IntKind.u8 (w (18 : Nat)), V.int IntKind.u8 (w (19 : Nat)), V.int IntKind.u8 (w (20 : Nat)),
                V.int IntKind.u8 (w (21 : Nat)), V.int IntKind.u8 (w (22 : Nat)), V.int IntKind.u8 (w (23 : Nat)),
                V.int IntKind.u8 (w (24 : Nat)), V.int IntKind.u8 (w (25 : Nat)), V.int IntKind.u8 (w (26 : Nat)),
                V.int IntKind.u8 (w (27 : Nat)), V.int IntKind.u8 (w (28 : Nat)), V.int IntKind.u8 (w (29 : Nat)),
                V.int IntKind.u8 (w (30 : Nat)), V.int IntKind.u8 (w (31 : Nat)), V.int IntKind.u32 vo, rowV sc,
                V.int IntKind.u32 sq, V.slc (1 : Nat) wi Own.none])]),
    [decide ((↑i : Int) < (↑N : Int)) = true,
      (0 : Int) ≤ (↑i : Int) ∧ iv[Int.toNat (↑i : Int)]? = some (inC w vo sq sc wi),
      callIs C (134 : Nat) [V.slc (1 : Nat) sc Own.none] [] (V.bool false) [] [], false = false, false = false,
      false = false, false = false, decide ((↑(List.length wi) : Int) > (10 : Int)) = false,
      decide ((↑(List.length wi) : Int) > (10 : Int)) = false, decide ((↑(List.length wi) : Int) > (10 : Int)) = false,
      callIs C (135 : Nat) [V.slc (1 : Nat) wi Own.none, V.func (Fn.func (134 : Nat)) [] []] [] (V.bool true) [] [],
      decide ((↑(List.length wi) : Int) > (10 : Int)) = false, true = true]) := by kernel_rfl
theorem mx (ve lo : Int) (iv ov : List V) (N : Nat) (C : FuncId → Option Contract) : exitP C F15 b102_0 (mS (txc ve lo iv ov) (.slc 36 iv .none) N N) [.b false] =
    some
  ((Ex.exit (0 : Nat),
      St.mk
        [((11 : Nat), V.bool (decide ((↑N : Int) < (↑N : Int)))),
          ((1 : Nat), V.ptr (Key.loc (1 : Nat) (0 : Nat)) (0 : Nat)), ((8 : Nat), V.slc (36 : Nat) iv Own.none),
          ((9 : Nat), V.int IntKind.i64 (↑N : Int)), ((10 : Nat), V.int IntKind.i64 (↑N : Int))]
        [(Key.loc (1 : Nat) (0 : Nat), Ev.Obj.cells (txc ve lo iv ov))]),
    [decide ((↑N : Int) < (↑N : Int)) = false]) := by kernel_rfl
theorem nb (ve lo va : Int) (iv ov sc : List V) (N i : Nat) (C : FuncId → Option Contract) : bodyP C F15 (clean [1, 30, 31, 32] [1]) b102_1 (nS (txc ve lo iv ov) (.slc 2 ov .none) N i) [.b true, .v (.agg [.int .u64 va, rowV sc]), .call (.bool false) [] [], .b false] =
    some
  (St.mk
      [((1 : Nat), V.ptr (Key.loc (1 : Nat) (0 : Nat)) (0 : Nat)), ((30 : Nat), V.slc (2 : Nat) ov Own.none),
        ((31 : Nat), V.int IntKind.i64 (↑N : Int)),
        ((32 : Nat), V.int IntKind.i64 (IntKind.wrap IntKind.i64 ((↑i : Int) + (1 : Int))))]
      [(Key.loc (1 : Nat) (0 : Nat),
          Ev.Obj.cells
            [V.int IntKind.u32 ve, V.slc (36 : Nat) iv Own.none, V.slc (2 : Nat) ov Own.none, V.int IntKind.u32 lo])],
    [decide ((↑i : Int) < (↑N : Int)) = true,
      (0 : Int) ≤ (↑i : Int) ∧ ov[Int.toNat (↑i : Int)]? = some (V.agg [V.int IntKind.u64 va, rowV sc]),
      callIs C (134 : Nat) [V.slc (1 : Nat) sc Own.none] [] (V.bool false) [] [], false = false]) := by kernel_rfl
theorem nf (ve lo va : Int) (iv ov sc : List V) (N i : Nat) (C : FuncId → Option Contract) : exitP C F15 b102_1 (nS (txc ve lo iv ov) (.slc 2 ov .none) N i) [.b true, .v (.agg [.int .u64 va, rowV sc]), .call (.bool true) [] [], .b true] =
    some
  ((Ex.ret,
      St.mk
        [((2 : Nat), V.bool false), ((38 : Nat), V.bool true), ((37 : Nat), V.slc (1 : Nat) sc Own.none),
          ((36 : Nat), V.ptr (Key.loc (6 : Nat) (0 : Nat)) (1 : Nat)),
          ((6 : Nat), V.ptr (Key.loc (6 : Nat) (0 : Nat)) (0 : Nat)),
          ((35 : Nat), V.agg [V.int IntKind.u64 va, rowV sc]), ((34 : Nat), V.elem [V.int IntKind.u64 va, rowV sc]),
          ((33 : Nat), V.bool (decide ((↑i : Int) < (↑N : Int)))),
          ((1 : Nat), V.ptr (Key.loc (1 : Nat) (0 : Nat)) (0 : Nat)), ((30 : Nat), V.slc (2 : Nat) ov Own.none),
          ((31 : Nat), V.int IntKind.i64 (↑N : Int)), ((32 : Nat), V.int IntKind.i64 (↑i : Int))]
        [(Key.loc (1 : Nat) (0 : Nat), Ev.Obj.cells (txc ve lo iv ov)),
          (Key.loc (6 : Nat) (0 : Nat), Ev.Obj.cells [V.int IntKind.u64 va, rowV sc])]),
    [decide ((↑i : Int) < (↑N : Int)) = true,
      (0 : Int) ≤ (↑i : Int) ∧ ov[Int.toNat (↑i : Int)]? = some (V.agg [V.int IntKind.u64 va, rowV sc]),
      callIs C (134 : Nat) [V.slc (1 : Nat) sc Own.none] [] (V.bool true) [] [], true = true]) := by kernel_rfl
theorem nx (ve lo : Int) (iv ov : List V) (N : Nat) (C : FuncId → Option Contract) : exitP C F15 b102_1 (nS (txc ve lo iv ov) (.slc 2 ov .none) N N) [.b false] =
    some
  ((Ex.exit (2 : Nat),
      St.mk
        [((33 : Nat), V.bool (decide ((↑N : Int) < (↑N : Int)))),
          ((1 : Nat), V.ptr (Key.loc (1 : Nat) (0 : Nat)) (0 : Nat)), ((30 : Nat), V.slc (2 : Nat) ov Own.none),
          ((31 : Nat), V.int IntKind.i64 (↑N : Int)), ((32 : Nat), V.int IntKind.i64 (↑N : Int))]
        [(Key.loc (1 : Nat) (0 : Nat), Ev.Obj.cells (txc ve lo iv ov))]),
    [decide ((↑N : Int) < (↑N : Int)) = false]) := by kernel_rfl
theorem mrA (ve lo : Int) (iv ov : List V) (tm : Tm) (st : Store) (C : FuncId → Option Contract) : a102.runP F15 C [.agg (txc ve lo iv ov)] [] [.loop .ret ⟨(2, .bool false) :: tm, st⟩] =
    some
  ((V.bool false, [], []),
    [evalCode C F15 (ACode.loop [(1 : Nat), (8 : Nat), (9 : Nat), (10 : Nat)] [(1 : Nat)] b102_0)
          (St.mk
            [((10 : Nat), V.int IntKind.i64 (0 : Int)), ((9 : Nat), V.int IntKind.i64 (↑(List.length iv) : Int)),
              ((8 : Nat), V.slc (36 : Nat) iv Own.none), ((7 : Nat), V.ptr (Key.loc (1 : Nat) (0 : Nat)) (1 : Nat)),
              ((2 : Nat), V.bool false), ((1 : Nat), V.ptr (Key.loc (1 : Nat) (0 : Nat)) (0 : Nat)),
              ((0 : Nat), V.agg (txc ve lo iv ov))]
            [(Key.loc (1 : Nat) (0 : Nat),
                Ev.Obj.cells
                  [V.int IntKind.u32 ve, V.slc (36 : Nat) iv Own.none, V.slc (2 : Nat) ov Own.none,
                    V.int IntKind.u32 lo])]) =
        some (Ex.ret, St.mk (((2 : Nat), V.bool false) :: tm) st)]) := by kernel_rfl
theorem mrB (ve lo : Int) (iv ov : List V) (tm : Tm) (st : Store) (C : FuncId → Option Contract) : a102.runP F15 C [.agg (txc ve lo iv ov)] [] [.loop (.exit 0) (mX (txc ve lo iv ov) (.slc 36 iv .none) iv.length), .loop .ret ⟨(2, .bool false) :: tm, st⟩] =
    some
  ((V.bool false, [], []),
    [evalCode C F15 (ACode.loop [(1 : Nat), (8 : Nat), (9 : Nat), (10 : Nat)] [(1 : Nat)] b102_0)
          (St.mk
            [((10 : Nat), V.int IntKind.i64 (0 : Int)), ((9 : Nat), V.int IntKind.i64 (↑(List.length iv) : Int)),
              ((8 : Nat), V.slc (36 : Nat) iv Own.none), ((7 : Nat), V.ptr (Key.loc (1 : Nat) (0 : Nat)) (1 : Nat)),
              ((2 : Nat), V.bool false), ((1 : Nat), V.ptr (Key.loc (1 : Nat) (0 : Nat)) (0 : Nat)),
              ((0 : Nat), V.agg (txc ve lo iv ov))]
            [(Key.loc (1 : Nat) (0 : Nat),
                Ev.Obj.cells
                  [V.int IntKind.u32 ve, V.slc (36 : Nat) iv Own.none, V.slc (2 : Nat) ov Own.none,
                    V.int IntKind.u32 lo])]) =
        some
          (Ex.exit (0 : Nat),
            St.mk
              [((11 : Nat), V.bool (decide ((↑(List.length iv) : Int) < (↑(List.length iv) : Int)))),
                ((1 : Nat), V.ptr (Key.loc (1 : Nat) (0 : Nat)) (0 : Nat)), ((8 : Nat), V.slc (36 : Nat) iv Own.none),
                ((9 : Nat), V.int IntKind.i64 (↑(List.length iv) : Int)),
                ((10 : Nat), V.int IntKind.i64 (↑(List.length iv) : Int))]
              [(Key.loc (1 : Nat) (0 : Nat), Ev.Obj.cells (txc ve lo iv ov))]),
      evalCode C F15 (ACode.loop [(1 : Nat), (30 : Nat), (31 : Nat), (32 : Nat)] [(1 : Nat)] b102_1)
          (St.mk
            [((32 : Nat), V.int IntKind.i64 (0 : Int)), ((31 : Nat), V.int IntKind.i64 (↑(List.length ov) : Int)),
              ((30 : Nat), V.slc (2 : Nat) ov Own.none), ((29 : Nat), V.ptr (Key.loc (1 : Nat) (0 : Nat)) (2 : Nat)),
              ((11 : Nat), V.bool (decide ((↑(List.length iv) : Int) < (↑(List.length iv) : Int)))),
              ((1 : Nat), V.ptr (Key.loc (1 : Nat) (0 : Nat)) (0 : Nat)), ((8 : Nat), V.slc (36 : Nat) iv Own.none),
              ((9 : Nat), V.int IntKind.i64 (↑(List.length iv) : Int)),
              ((10 : Nat), V.int IntKind.i64 (↑(List.length iv) : Int))]
            [(Key.loc (1 : Nat) (0 : Nat), Ev.Obj.cells (txc ve lo iv ov))]) =
        some (Ex.ret, St.mk (((2 : Nat), V.bool false) :: tm) st)]) := by kernel_rfl
theorem mr0 (ve lo : Int) (iv ov : List V) (C : FuncId → Option Contract) : a102.runP F15 C [.agg (txc ve lo iv ov)] [] [.loop (.exit 0) (mX (txc ve lo iv ov) (.slc 36 iv .none) iv.length), .loop (.exit 2) (nX (txc ve lo iv ov) (.slc 2 ov .none) ov.length), .g false, .g false, .g false, .g false, .k false] =
    some
  ((V.bool false, [], []),
    [evalCode C F15 (ACode.loop [(1 : Nat), (8 : Nat), (9 : Nat), (10 : Nat)] [(1 : Nat)] b102_0)
          (St.mk
            [((10 : Nat), V.int IntKind.i64 (0 : Int)), ((9 : Nat), V.int IntKind.i64 (↑(List.length iv) : Int)),
              ((8 : Nat), V.slc (36 : Nat) iv Own.none), ((7 : Nat), V.ptr (Key.loc (1 : Nat) (0 : Nat)) (1 : Nat)),
              ((2 : Nat), V.bool false), ((1 : Nat), V.ptr (Key.loc (1 : Nat) (0 : Nat)) (0 : Nat)),
              ((0 : Nat), V.agg (txc ve lo iv ov))]
            [(Key.loc (1 : Nat) (0 : Nat),
                Ev.Obj.cells
                  [V.int IntKind.u32 ve, V.slc (36 : Nat) iv Own.none, V.slc (2 : Nat) ov Own.none,
                    V.int IntKind.u32 lo])]) =
        some
          (Ex.exit (0 : Nat),
            St.mk
              [((11 : Nat), V.bool (decide ((↑(List.length iv) : Int) < (↑(List.length iv) : Int)))),
                ((1 : Nat), V.ptr (Key.loc (1 : Nat) (0 : Nat)) (0 : Nat)), ((8 : Nat), V.slc (36 : Nat) iv Own.none),
                ((9 : Nat), V.int IntKind.i64 (↑(List.length iv) : Int)),
                ((10 : Nat), V.int IntKind.i64 (↑(List.length iv) : Int))]
              [(Key.loc (1 : Nat) (0 : Nat), Ev.Obj.cells (txc ve lo iv ov))]),
      evalCode C F15 (ACode.loop [(1 : Nat), (30 : Nat), (31 : Nat), (32 : Nat)] [(1 : Nat)] b102_1)
          (St.mk
            [((32 : Nat), V.int IntKind.i64 (0 : Int)), ((31 : Nat), V.int IntKind.i64 (↑(List.length ov) : Int)),
              ((30 : Nat), V.slc (2 : Nat) ov Own.none), ((29 : Nat), V.ptr (Key.loc (1 : Nat) (0 : Nat)) (2 : Nat)),
              ((11 : Nat), V.bool (decide ((↑(List.length iv) : Int) < (↑(List.length iv) : Int)))),
              ((1 : Nat), V.ptr (Key.loc (1 : Nat) (0 : Nat)) (0 : Nat)), ((8 : Nat), V.slc (36 : Nat) iv Own.none),
              ((9 : Nat), V.int IntKind.i64 (↑(List.length iv) : Int)),
              ((10 : Nat), V.int IntKind.i64 (↑(List.length iv) : Int))]
            [(Key.loc (1 : Nat) (0 : Nat), Ev.Obj.cells (txc ve lo iv ov))]) =
        some
          (Ex.exit (2 : Nat),
            St.mk
              [((33 : Nat), V.bool (decide ((↑(List.length ov) : Int) < (↑(List.length ov) : Int)))),
                ((1 : Nat), V.ptr (Key.loc (1 : Nat) (0 : Nat)) (0 : Nat)), ((30 : Nat), V.slc (2 : Nat) ov Own.none),
                ((31 : Nat), V.int IntKind.i64 (↑(List.length ov) : Int)),
                ((32 : Nat), V.int IntKind.i64 (↑(List.length ov) : Int))]
              [(Key.loc (1 : Nat) (0 : Nat), Ev.Obj.cells (txc ve lo iv ov))]),
      decide ((↑(List.length iv) : Int) ≥ (1 : Int)) = false, decide ((↑(List.length iv) : Int) ≥ (1 : Int)) = false,
      decide ((↑(List.length iv) : Int) ≥ (1 : Int)) = false, decide ((↑(List.length iv) : Int) ≥ (1 : Int)) = false,
      decide ((↑(List.length iv) : Int) ≥ (1 : Int)) = false]) := by kernel_rfl
theorem mr1 (ve lo : Int) (iv ov : List V) (C : FuncId → Option Contract) : a102.runP F15 C [.agg (txc ve lo iv ov)] [] [.loop (.exit 0) (mX (txc ve lo iv ov) (.slc 36 iv .none) iv.length), .loop (.exit 2) (nX (txc ve lo iv ov) (.slc 2 ov .none) ov.length), .g true, .g true, .g true, .g true, .k true, .g false, .g false, .g false, .g false, .k false] =
    some
  ((V.bool false, [], []),
    [evalCode C F15 (ACode.loop [(1 : Nat), (8 : Nat), (9 : Nat), (10 : Nat)] [(1 : Nat)] b102_0)
          (St.mk
            [((10 : Nat), V.int IntKind.i64 (0 : Int)), ((9 : Nat), V.int IntKind.i64 (↑(List.length iv) : Int)),
              ((8 : Nat), V.slc (36 : Nat) iv Own.none), ((7 : Nat), V.ptr (Key.loc (1 : Nat) (0 : Nat)) (1 : Nat)),
              ((2 : Nat), V.bool false), ((1 : Nat), V.ptr (Key.loc (1 : Nat) (0 : Nat)) (0 : Nat)),
              ((0 : Nat), V.agg (txc ve lo iv ov))]
            [(Key.loc (1 : Nat) (0 : Nat),
                Ev.Obj.cells
                  [V.int IntKind.u32 ve, V.slc (36 : Nat) iv Own.none, V.slc (2 : Nat) ov Own.none,
                    V.int IntKind.u32 lo])]) =
        some
          (Ex.exit (0 : Nat),
            St.mk
              [((11 : Nat), V.bool (decide ((↑(List.length iv) : Int) < (↑(List.length iv) : Int)))),
                ((1 : Nat), V.ptr (Key.loc (1 : Nat) (0 : Nat)) (0 : Nat)), ((8 : Nat), V.slc (36 : Nat) iv Own.none),
                ((9 : Nat), V.int IntKind.i64 (↑(List.length iv) : Int)),
                ((10 : Nat), V.int IntKind.i64 (↑(List.length iv) : Int))]
              [(Key.loc (1 : Nat) (0 : Nat), Ev.Obj.cells (txc ve lo iv ov))]),
      evalCode C F15 (ACode.loop [(1 : Nat), (30 : Nat), (31 : Nat), (32 : Nat)] [(1 : Nat)] b102_1)
          (St.mk
            [((32 : Nat), V.int IntKind.i64 (0 : Int)), ((31 : Nat), V.int IntKind.i64 (↑(List.length ov) : Int)),
              ((30 : Nat), V.slc (2 : Nat) ov Own.none), ((29 : Nat), V.ptr (Key.loc (1 : Nat) (0 : Nat)) (2 : Nat)),
              ((11 : Nat), V.bool (decide ((↑(List.length iv) : Int) < (↑(List.length iv) : Int)))),
              ((1 : Nat), V.ptr (Key.loc (1 : Nat) (0 : Nat)) (0 : Nat)), ((8 : Nat), V.slc (36 : Nat) iv Own.none),
              ((9 : Nat), V.int IntKind.i64 (↑(List.length iv) : Int)),
              ((10 : Nat), V.int IntKind.i64 (↑(List.length iv) : Int))]
            [(Key.loc (1 : Nat) (0 : Nat), Ev.Obj.cells (txc ve lo iv ov))]) =
        some
          (Ex.exit (2 : Nat),
            St.mk
              [((33 : Nat), V.bool (decide ((↑(List.length ov) : Int) < (↑(List.length ov) : Int)))),
                ((1 : Nat), V.ptr (Key.loc (1 : Nat) (0 : Nat)) (0 : Nat)), ((30 : Nat), V.slc (2 : Nat) ov Own.none),
                ((31 : Nat), V.int IntKind.i64 (↑(List.length ov) : Int)),
                ((32 : Nat), V.int IntKind.i64 (↑(List.length ov) : Int))]
              [(Key.loc (1 : Nat) (0 : Nat), Ev.Obj.cells (txc ve lo iv ov))]),
      decide ((↑(List.length iv) : Int) ≥ (1 : Int)) = true, decide ((↑(List.length iv) : Int) ≥ (1 : Int)) = true,
      decide ((↑(List.length iv) : Int) ≥ (1 : Int)) = true, decide ((↑(List.length iv) : Int) ≥ (1 : Int)) = true,
      decide ((↑(List.length iv) : Int) ≥ (1 : Int)) = true, decide ((↑(List.length iv) : Int) ≤ (50 : Int)) = false,
      decide ((↑(List.length iv) : Int) ≤ (50 : Int)) = false, decide ((↑(List.length iv) : Int) ≤ (50 : Int)) = false,
      decide ((↑(List.length iv) : Int) ≤ (50 : Int)) = false, decide ((↑(List.length iv) : Int) ≤ (50 : Int)) = false]) := by kernel_rfl
theorem mr2 (ve lo : Int) (iv ov : List V) (C : FuncId → Option Contract) : a102.runP F15 C [.agg (txc ve lo iv ov)] [] [.loop (.exit 0) (mX (txc ve lo iv ov) (.slc 36 iv .none) iv.length), .loop (.exit 2) (nX (txc ve lo iv ov) (.slc 2 ov .none) ov.length), .g true, .g true, .g true, .g true, .k true, .g true, .g true, .g true, .g true, .k true, .g false, .g false, .g false, .g false, .k false] =
    some
  ((V.bool false, [], []),
    [evalCode C F15 (ACode.loop [(1 : Nat), (8 : Nat), (9 : Nat), (10 : Nat)] [(1 : Nat)] b102_0)
          (St.mk
            [((10 : Nat), V.int IntKind.i64 (0 : Int)), ((9 : Nat), V.int IntKind.i64 (↑(List.length iv) : Int)),
              ((8 : Nat), V.slc (36 : Nat) iv Own.none), ((7 : Nat), V.ptr (Key.loc (1 : Nat) (0 : Nat)) (1 : Nat)),
              ((2 : Nat), V.bool false), ((1 : Nat), V.ptr (Key.loc (1 : Nat) (0 : Nat)) (0 : Nat)),
              ((0 : Nat), V.agg (txc ve lo iv ov))]
            [(Key.loc (1 : Nat) (0 : Nat),
                Ev.Obj.cells
                  [V.int IntKind.u32 ve, V.slc (36 : Nat) iv Own.none, V.slc (2 : Nat) ov Own.none,
                    V.int IntKind.u32 lo])]) =
        some
          (Ex.exit (0 : Nat),
            St.mk
              [((11 : Nat), V.bool (decide ((↑(List.length iv) : Int) < (↑(List.length iv) : Int)))),
                ((1 : Nat), V.ptr (Key.loc (1 : Nat) (0 : Nat)) (0 : Nat)), ((8 : Nat), V.slc (36 : Nat) iv Own.none),
                ((9 : Nat), V.int IntKind.i64 (↑(List.length iv) : Int)),
                ((10 : Nat), V.int IntKind.i64 (↑(List.length iv) : Int))]
              [(Key.loc (1 : Nat) (0 : Nat), Ev.Obj.cells (txc ve lo iv ov))]),
      evalCode C F15 (ACode.loop [(1 : Nat), (30 : Nat), (31 : Nat), (32 : Nat)] [(1 : Nat)] b102_1)
          (St.mk
            [((32 : Nat), V.int IntKind.i64 (0 : Int)), ((31 : Nat), V.int IntKind.i64 (↑(List.length ov) : Int)),
              ((30 : Nat), V.slc (2 : Nat) ov Own.none), ((29 : Nat), V.ptr (Key.loc (1 : Nat) (0 : Nat)) (2 : Nat)),
              ((11 : Nat), V.bool (decide ((↑(List.length iv) : Int) < (↑(List.length iv) : Int)))),
              ((1 : Nat), V.ptr (Key.loc (1 : Nat) (0 : Nat)) (0 : Nat)), ((8 : Nat), V.slc (36 : Nat) iv Own.none),
              ((9 : Nat), V.int IntKind.i64 (↑(List.length iv) : Int)),
              ((10 : Nat), V.int IntKind.i64 (↑(List.length iv) : Int))]
            [(Key.loc (1 : Nat) (0 : Nat), Ev.Obj.cells (txc ve lo iv ov))]) =
        some
          (Ex.exit (2 : Nat),
            St.mk
              [((33 : Nat), V.bool (decide ((↑(List.length ov) : Int) < (↑(List.length ov) : Int)))),
                ((1 : Nat), V.ptr (Key.loc (1 : Nat) (0 : Nat)) (0 : Nat)), ((30 : Nat), V.slc (2 : Nat) ov Own.none),
                ((31 : Nat), V.int IntKind.i64 (↑(List.length ov) : Int)),
                ((32 : Nat), V.int IntKind.i64 (↑(List.length ov) : Int))]
              [(Key.loc (1 : Nat) (0 : Nat), Ev.Obj.cells (txc ve lo iv ov))]),
      decide ((↑(List.length iv) : Int) ≥ (1 : Int)) = true, decide ((↑(List.length iv) : Int) ≥ (1 : Int)) = true,
      decide ((↑(List.length iv) : Int) ≥ (1 : Int)) = true, decide ((↑(List.length iv) : Int) ≥ (1 : Int)) = true,
      decide ((↑(List.length iv) : Int) ≥ (1 : Int)) = true, decide ((↑(List.length iv) : Int) ≤ (50 : Int)) = true,
      decide ((↑(List.length iv) : Int) ≤ (50 : Int)) = true, decide ((↑(List.length iv) : Int) ≤ (50 : Int)) = true,
      decide ((↑(List.length iv) : Int) ≤ (50 : Int)) = true, decide ((↑(List.length iv) : Int) ≤ (50 : Int)) = true,
      decide ((↑(List.length ov) : Int) ≥ (1 : Int)) = false, decide ((↑(List.length ov) : Int) ≥ (1 : Int)) = false,
      decide ((↑(List.length ov) : Int) ≥ (1 : Int)) = false, decide ((↑(List.length ov) : Int) ≥ (1 : Int)) = false,
      decide ((↑(List.length ov) : Int) ≥ (1 : Int)) = false]) := by kernel_rfl
theorem mr3 (ve lo : Int) (iv ov : List V) (C : FuncId → Option Contract) : a102.runP F15 C [.agg (txc ve lo iv ov)] [] [.loop (.exit 0) (mX (txc ve lo iv ov) (.slc 36 iv .none) iv.length), .loop (.exit 2) (nX (txc ve lo iv ov) (.slc 2 ov .none) ov.length), .g true, .g true, .g true, .g true, .k true, .g true, .g true, .g true, .g true, .k true, .g true, .g true, .g true, .g true, .k true] =
    some
  ((V.bool (decide ((↑(List.length ov) : Int) ≤ (50 : Int))), [], []),
    [evalCode C F15 (ACode.loop [(1 : Nat), (8 : Nat), (9 : Nat), (10 : Nat)] [(1 : Nat)] b102_0)
          (St.mk
            [((10 : Nat), V.int IntKind.i64 (0 : Int)), ((9 : Nat), V.int IntKind.i64 (↑(List.length iv) : Int)),
              ((8 : Nat), V.slc (36 : Nat) iv Own.none), ((7 : Nat), V.ptr (Key.loc (1 : Nat) (0 : Nat)) (1 : Nat)),
              ((2 : Nat), V.bool false), ((1 : Nat), V.ptr (Key.loc (1 : Nat) (0 : Nat)) (0 : Nat)),
              ((0 : Nat), V.agg (txc ve lo iv ov))]
            [(Key.loc (1 : Nat) (0 : Nat),
                Ev.Obj.cells
                  [V.int IntKind.u32 ve, V.slc (36 : Nat) iv Own.none, V.slc (2 : Nat) ov Own.none,
                    V.int IntKind.u32 lo])]) =
        some
          (Ex.exit (0 : Nat),
            St.mk
              [((11 : Nat), V.bool (decide ((↑(List.length iv) : Int) < (↑(List.length iv) : Int)))),
                ((1 : Nat), V.ptr (Key.loc (1 : Nat) (0 : Nat)) (0 : Nat)), ((8 : Nat), V.slc (36 : Nat) iv Own.none),
                ((9 : Nat), V.int IntKind.i64 (↑(List.length iv) : Int)),
                ((10 : Nat), V.int IntKind.i64 (↑(List.length iv) : Int))]
              [(Key.loc (1 : Nat) (0 : Nat), Ev.Obj.cells (txc ve lo iv ov))]),
      evalCode C F15 (ACode.loop [(1 : Nat), (30 : Nat), (31 : Nat), (32 : Nat)] [(1 : Nat)] b102_1)
          (St.mk
            [((32 : Nat), V.int IntKind.i64 (0 : Int)), ((31 : Nat), V.int IntKind.i64 (↑(List.length ov) : Int)),
              ((30 : Nat), V.slc (2 : Nat) ov Own.none), ((29 : Nat), V.ptr (Key.loc (1 : Nat) (0 : Nat)) (2 : Nat)),
              ((11 : Nat), V.bool (decide ((↑(List.length iv) : Int) < (↑(List.length iv) : Int)))),
              ((1 : Nat), V.ptr (Key.loc (1 : Nat) (0 : Nat)) (0 : Nat)), ((8 : Nat), V.slc (36 : Nat) iv Own.none),
              ((9 : Nat), V.int IntKind.i64 (↑(List.length iv) : Int)),
              ((10 : Nat), V.int IntKind.i64 (↑(List.length iv) : Int))]
            [(Key.loc (1 : Nat) (0 : Nat), Ev.Obj.cells (txc ve lo iv ov))]) =
        some
          (Ex.exit (2 : Nat),
            St.mk
              [((33 : Nat), V.bool (decide ((↑(List.length ov) : Int) < (↑(List.length ov) : Int)))),
                ((1 : Nat), V.ptr (Key.loc (1 : Nat) (0 : Nat)) (0 : Nat)), ((30 : Nat), V.slc (2 : Nat) ov Own.none),
                ((31 : Nat), V.int IntKind.i64 (↑(List.length ov) : Int)),
                ((32 : Nat), V.int IntKind.i64 (↑(List.length ov) : Int))]
              [(Key.loc (1 : Nat) (0 : Nat), Ev.Obj.cells (txc ve lo iv ov))]),
      decide ((↑(List.length iv) : Int) ≥ (1 : Int)) = true, decide ((↑(List.length iv) : Int) ≥ (1 : Int)) = true,
      decide ((↑(List.length iv) : Int) ≥ (1 : Int)) = true, decide ((↑(List.length iv) : Int) ≥ (1 : Int)) = true,
      decide ((↑(List.length iv) : Int) ≥ (1 : Int)) = true, decide ((↑(List.length iv) : Int) ≤ (50 : Int)) = true,
      decide ((↑(List.length iv) : Int) ≤ (50 : Int)) = true, decide ((↑(List.length iv) : Int) ≤ (50 : Int)) = true,
      decide ((↑(List.length iv) : Int) ≤ (50 : Int)) = true, decide ((↑(List.length iv) : Int) ≤ (50 : Int)) = true,
      decide ((↑(List.length ov) : Int) ≥ (1 : Int)) = true, decide ((↑(List.length ov) : Int) ≥ (1 : Int)) = true,
      decide ((↑(List.length ov) : Int) ≥ (1 : Int)) = true, decide ((↑(List.length ov) : Int) ≥ (1 : Int)) = true,
      decide ((↑(List.length ov) : Int) ≥ (1 : Int)) = true]) := by kernel_rfl
def badIn (x : InM) : Bool := longB x.sc || decide ((x.wi.length : Int) > 10) || x.wi.any longB
def badOut (y : OutM) : Bool := longB y.sc
def mayB (t : TxM) : Bool := !t.ins.any badIn && !t.outs.any badOut && (decide ((t.ins.length : Int) ≥ 1) && (decide ((t.ins.length : Int) ≤ 50) && (decide ((t.outs.length : Int) ≥ 1) && decide ((t.outs.length : Int) ≤ 50))))
theorem longB_false {l : List V} : longB l = false ↔ l.length ≤ 500 := by simp only [longB, decide_eq_false_iff_not]; omega
theorem badIn_false {x : InM} : badIn x = false ↔ x.small := by
  simp only [badIn, Bool.or_eq_false_iff, longB_false, decide_eq_false_iff_not, List.any_eq_false, Bool.not_eq_true, InM.small]
  constructor
  · rintro ⟨⟨h1, h2⟩, h3⟩; exact ⟨h1, by omega, h3⟩
  · rintro ⟨h1, h2, h3⟩; exact ⟨⟨h1, by omega⟩, h3⟩
theorem mayB_iff {t : TxM} : mayB t = true ↔ t.may := by
  simp only [mayB, Bool.and_eq_true, Bool.not_eq_true', List.any_eq_false, Bool.not_eq_true, badIn_false, badOut, longB_false, decide_eq_true_eq, TxM.may, OutM.small]
  constructor
  · rintro ⟨⟨h1, h2⟩, h3, h4, h5, h6⟩; exact ⟨⟨by omega, by omega⟩, ⟨by omega, by omega⟩, h1, h2⟩
  · rintro ⟨⟨h3, h4⟩, ⟨h5, h6⟩, h1, h2⟩; exact ⟨⟨h1, h2⟩, by omega, by omega, by omega, by omega⟩
noncomputable def c102 : Contract := relC (fun t : TxM => ([t.v], [])) TxM.ok (fun t => (.bool (mayB t), [], []))
def loop102a : ACode := .loop [1, 8, 9, 10] [1] b102_0
def loop102b : ACode := .loop [1, 30, 31, 32] [1] b102_1
theorem ins102 (ve lo : Int) (ov : List V) (ins : List InM) (h : insOk ins) {s0 : St} (h0 : clean [1, 8, 9, 10] [1] s0 = mS (txc ve lo (ins.map InM.v) ov) (insV ins) ins.length 0) :
    ((∀ x ∈ ins, badIn x = false) ∧ evalCode C102 F15 loop102a s0 = some (.exit 0, mX (txc ve lo (ins.map InM.v) ov) (insV ins) ins.length)) ∨ (ins.any badIn = true ∧ ∃ tm st, evalCode C102 F15 loop102a s0 = some (.ret, ⟨(2, .bool false) :: tm, st⟩)) := by
  obtain ⟨hok, hlen⟩ := h
  have step : ∀ (i : Nat) (hi : i < ins.length), badIn ins[i] = false → ∃ s', evalCode C102 F15 b102_0 (mS (txc ve lo (ins.map InM.v) ov) (insV ins) ins.length i) = some (.normal, s') ∧ clean [1, 8, 9, 10] [1] s' = mS (txc ve lo (ins.map InM.v) ov) (insV ins) ins.length (i + 1) := fun i hi hb => by
    have hx := hok _ (List.getElem_mem hi)
    obtain ⟨w, hw⟩ := p32_of hx.1 hx.2
    have hv := InM.v_eq ins[i] hw
    simp only [badIn, Bool.or_eq_false_iff] at hb
    obtain ⟨⟨b1, b2⟩, b3⟩ := hb
    have hwl : ins[i].wi.length ≤ 1000000 := by simp only [decide_eq_false_iff_not] at b2; omega
    have b2' : decide (((ins[i].wi.map rowV).length : Int) > 10) = false := by rw [List.length_map]; exact b2
    refine body_to (mb ve lo ins[i].vo ins[i].sq (ins.map InM.v) ov ins.length i ins[i].sc w (ins[i].wi.map rowV) C102) ⟨by simpa using hi, ⟨by omega, by rw [getElem_map hi, hv]⟩, call134 rfl b1, rfl, rfl, rfl, rfl, b2', b2', b2', call135 rfl hwl b3, b2', rfl, trivial⟩ ?_
    rw [wrap_succ i (by omega)]; rfl
  rcases first badIn ins with h | ⟨k, hk, h1, h2⟩
  · refine .inl ⟨h, ?_⟩
    exact ev_loop (fun i => mS (txc ve lo (ins.map InM.v) ov) (insV ins) ins.length i) ins.length h0 (fun i hi => step i hi (h _ (List.getElem_mem hi))) (exitP_sound (mx ve lo (ins.map InM.v) ov ins.length C102) ⟨by simp, trivial⟩) (by simp) (by unfold F15; omega)
  · refine .inr ⟨List.any_eq_true.2 ⟨_, List.getElem_mem hk, h1⟩, ?_⟩
    have hx := hok _ (List.getElem_mem hk)
    obtain ⟨w, hw⟩ := p32_of hx.1 hx.2
    have hv := InM.v_eq ins[k] hw
    have hg : (0 : Int) ≤ (k : Int) ∧ (ins.map InM.v)[Int.toNat (k : Int)]? = some (inC w ins[k].vo ins[k].sq ins[k].sc (ins[k].wi.map rowV)) := ⟨by omega, by rw [getElem_map hk, hv]⟩
    have hlt : decide ((k : Int) < (ins.length : Int)) = true := by simpa using hk
    have fin : ∀ {ex : Ex} {tm : Tm} {st : Store}, evalCode C102 F15 b102_0 (mS (txc ve lo (ins.map InM.v) ov) (insV ins) ins.length k) = some (.ret, ⟨(2, .bool false) :: tm, st⟩) → ∃ tm st, evalCode C102 F15 loop102a s0 = some (.ret, ⟨(2, .bool false) :: tm, st⟩) := fun he =>
      ⟨_, _, ev_loop (fun i => mS (txc ve lo (ins.map InM.v) ov) (insV ins) ins.length i) k h0 (fun i hi => step i (by omega) (h2 i hi)) he (by simp) (by unfold F15; omega)⟩
    by_cases b1 : longB ins[k].sc = true
    · exact fin (ex := .ret) (exitP_sound (m1 ve lo ins[k].vo ins[k].sq (ins.map InM.v) ov ins.length k ins[k].sc w (ins[k].wi.map rowV) C102) ⟨hlt, hg, call134 rfl b1, rfl, trivial⟩)
    · have b1' : longB ins[k].sc = false := by simpa using b1
      by_cases b2 : decide (((ins[k].wi.map rowV).length : Int) > 10) = true
      · exact fin (ex := .ret) (exitP_sound (m2 ve lo ins[k].vo ins[k].sq (ins.map InM.v) ov ins.length k ins[k].sc w (ins[k].wi.map rowV) C102) ⟨hlt, hg, call134 rfl b1', rfl, rfl, rfl, rfl, b2, b2, b2, b2, rfl, trivial⟩)
      · have b2' : decide (((ins[k].wi.map rowV).length : Int) > 10) = false := by simpa using b2
        have b2'' : decide ((ins[k].wi.length : Int) > 10) = false := by rw [List.length_map] at b2'; exact b2'
        have hwl : ins[k].wi.length ≤ 1000000 := by simp only [decide_eq_false_iff_not] at b2''; omega
        have b3 : ins[k].wi.any longB = true := by
          simp only [badIn, b1', b2'', Bool.false_or] at h1; exact h1
        exact fin (ex := .ret) (exitP_sound (m3 ve lo ins[k].vo ins[k].sq (ins.map InM.v) ov ins.length k ins[k].sc w (ins[k].wi.map rowV) C102) ⟨hlt, hg, call134 rfl b1', rfl, rfl, rfl, rfl, b2', b2', b2', call135 rfl hwl b3, b2', rfl, trivial⟩)
theorem outs102 (ve lo : Int) (iv : List V) (outs : List OutM) (hlen : outs.length ≤ 1000000) {s0 : St} (h0 : clean [1, 30, 31, 32] [1] s0 = nS (txc ve lo iv (outs.map OutM.v)) (outsV outs) outs.length 0) :
    ((∀ x ∈ outs, badOut x = false) ∧ evalCode C102 F15 loop102b s0 = some (.exit 2, nX (txc ve lo iv (outs.map OutM.v)) (outsV outs) outs.length)) ∨ (outs.any badOut = true ∧ ∃ tm st, evalCode C102 F15 loop102b s0 = some (.ret, ⟨(2, .bool false) :: tm, st⟩)) := by
  have step : ∀ (i : Nat) (hi : i < outs.length), badOut outs[i] = false → ∃ s', evalCode C102 F15 b102_1 (nS (txc ve lo iv (outs.map OutM.v)) (outsV outs) outs.length i) = some (.normal, s') ∧ clean [1, 30, 31, 32] [1] s' = nS (txc ve lo iv (outs.map OutM.v)) (outsV outs) outs.length (i + 1) := fun i hi hb => by
    refine body_to (nb ve lo outs[i].va iv (outs.map OutM.v) outs[i].sc outs.length i C102) ⟨by simpa using hi, ⟨by omega, by rw [getElem_map hi]; rfl⟩, call134 rfl hb, rfl, trivial⟩ ?_
    rw [wrap_succ i (by omega)]; rfl
  rcases first badOut outs with h | ⟨k, hk, h1, h2⟩
  · refine .inl ⟨h, ?_⟩
    exact ev_loop (fun i => nS (txc ve lo iv (outs.map OutM.v)) (outsV outs) outs.length i) outs.length h0 (fun i hi => step i hi (h _ (List.getElem_mem hi))) (exitP_sound (nx ve lo iv (outs.map OutM.v) outs.length C102) ⟨by simp, trivial⟩) (by simp) (by unfold F15; omega)
  · refine .inr ⟨List.any_eq_true.2 ⟨_, List.getElem_mem hk, h1⟩, ?_⟩
    exact ⟨_, _, ev_loop (fun i => nS (txc ve lo iv (outs.map OutM.v)) (outsV outs) outs.length i) k h0 (fun i hi => step i (by omega) (h2 i hi)) (exitP_sound (nf ve lo outs[k].va iv (outs.map OutM.v) outs[k].sc outs.length k C102) ⟨by simpa using hk, ⟨by omega, by rw [getElem_map hk]; rfl⟩, call134 rfl h1, rfl, trivial⟩) (by simp) (by unfold F15; omega)⟩
theorem run102 (t : TxM) (h : t.ok) : a102.run F15 C102 [t.v] [] = some (.bool (mayB t), [], []) := by
  have h1 : ∀ {s0 : St}, clean [1, 8, 9, 10] [1] s0 = mS (txc t.ve t.lo (t.ins.map InM.v) (t.outs.map OutM.v)) (insV t.ins) t.ins.length 0 → _ := fun {s0} h0 => ins102 t.ve t.lo (t.outs.map OutM.v) t.ins (TxM.okIns h) (s0 := s0) h0
  have h2 : ∀ {s0 : St}, clean [1, 30, 31, 32] [1] s0 = nS (txc t.ve t.lo (t.ins.map InM.v) (t.outs.map OutM.v)) (outsV t.outs) t.outs.length 0 → _ := fun {s0} h0 => outs102 t.ve t.lo (t.ins.map InM.v) t.outs h.2.2 (s0 := s0) h0
  have l1 : (t.ins.map InM.v).length = t.ins.length := List.length_map ..
  have l2 : (t.outs.map OutM.v).length = t.outs.length := List.length_map ..
  have b1 : ∀ {s0 : St}, clean [1, 8, 9, 10] [1] s0 = mS (txc t.ve t.lo (t.ins.map InM.v) (t.outs.map OutM.v)) (insV t.ins) t.ins.length 0 → t.ins.any badIn = false → evalCode C102 F15 loop102a s0 = some (.exit 0, mX (txc t.ve t.lo (t.ins.map InM.v) (t.outs.map OutM.v)) (.slc 36 (t.ins.map InM.v) .none) (t.ins.map InM.v).length) := fun h0 hn => by
    rw [l1]
    rcases h1 h0 with ⟨_, h⟩ | ⟨h, _⟩
    · exact h
    · rw [h] at hn; cases hn
  have b2 : ∀ {s0 : St}, clean [1, 30, 31, 32] [1] s0 = nS (txc t.ve t.lo (t.ins.map InM.v) (t.outs.map OutM.v)) (outsV t.outs) t.outs.length 0 → t.outs.any badOut = false → evalCode C102 F15 loop102b s0 = some (.exit 2, nX (txc t.ve t.lo (t.ins.map InM.v) (t.outs.map OutM.v)) (.slc 2 (t.outs.map OutM.v) .none) (t.outs.map OutM.v).length) := fun h0 hn => by
    rw [l2]
    rcases h2 h0 with ⟨_, h⟩ | ⟨h, _⟩
    · exact h
    · rw [h] at hn; cases hn
  by_cases hi : t.ins.any badIn = true
  · have e : mayB t = false := by simp [mayB, hi]
    rw [e]
    rcases h1 (s0 := ⟨[((10 : Nat), V.int IntKind.i64 (0 : Int)), (9, .int .i64 (t.ins.map InM.v).length), (8, .slc 36 (t.ins.map InM.v) .none), (7, .ptr (.loc 1 0) 1), (2, .bool false), (1, .ptr (.loc 1 0) 0), (0, t.v)], [(.loc 1 0, .cells (txc t.ve t.lo (t.ins.map InM.v) (t.outs.map OutM.v)))]⟩) (by rw [l1]; rfl) with ⟨h, _⟩ | ⟨_, tm, st, he⟩
    · obtain ⟨x, hx, hb⟩ := List.any_eq_true.1 hi
      rw [h x hx] at hb; cases hb
    · exact runP_sound (mrA t.ve t.lo (t.ins.map InM.v) (t.outs.map OutM.v) tm st C102) ⟨he, trivial⟩
  · have hi' : t.ins.any badIn = false := by simpa using hi
    by_cases ho : t.outs.any badOut = true
    · have e : mayB t = false := by simp [mayB, ho]
      rw [e]
      rcases h2 (s0 := ⟨(32, .int .i64 0) :: (31, .int .i64 (t.outs.map OutM.v).length) :: (30, .slc 2 (t.outs.map OutM.v) .none) :: (29, .ptr (.loc 1 0) 2) :: (mX (txc t.ve t.lo (t.ins.map InM.v) (t.outs.map OutM.v)) (.slc 36 (t.ins.map InM.v) .none) (t.ins.map InM.v).length).tm, [(.loc 1 0, .cells (txc t.ve t.lo (t.ins.map InM.v) (t.outs.map OutM.v)))]⟩) (by rw [l2]; rfl) with ⟨h, _⟩ | ⟨_, tm, st, he⟩
      · obtain ⟨x, hx, hb⟩ := List.any_eq_true.1 ho
        rw [h x hx] at hb; cases hb
      · exact runP_sound (mrB t.ve t.lo (t.ins.map InM.v) (t.outs.map OutM.v) tm st C102) ⟨b1 (by rw [l1]; rfl) hi', he, trivial⟩
    · have ho' : t.outs.any badOut = false := by simpa using ho
      have e : mayB t = (decide ((t.ins.length : Int) ≥ 1) && (decide ((t.ins.length : Int) ≤ 50) && (decide ((t.outs.length : Int) ≥ 1) && decide ((t.outs.length : Int) ≤ 50)))) := by simp only [mayB, hi', ho', Bool.not_false, Bool.true_and]
      rw [e, ← l1, ← l2]
      have q1 : ∀ {s0 : St}, clean [1, 8, 9, 10] [1] s0 = mS (txc t.ve t.lo (t.ins.map InM.v) (t.outs.map OutM.v)) (insV t.ins) (t.ins.map InM.v).length 0 → _ := fun {s0} h0 => b1 (s0 := s0) (by rw [← l1]; exact h0) hi'
      have q2 : ∀ {s0 : St}, clean [1, 30, 31, 32] [1] s0 = nS (txc t.ve t.lo (t.ins.map InM.v) (t.outs.map OutM.v)) (outsV t.outs) (t.outs.map OutM.v).length 0 → _ := fun {s0} h0 => b2 (s0 := s0) (by rw [← l2]; exact h0) ho'
      cases c1 : decide (((t.ins.map InM.v).length : Int) ≥ 1) with
      | false => exact runP_sound (mr0 t.ve t.lo (t.ins.map InM.v) (t.outs.map OutM.v) C102) ⟨q1 rfl, q2 rfl, c1, c1, c1, c1, c1, trivial⟩
      | true =>
        cases c2 : decide (((t.ins.map InM.v).length : Int) ≤ 50) with
        | false => exact runP_sound (mr1 t.ve t.lo (t.ins.map InM.v) (t.outs.map OutM.v) C102) ⟨q1 rfl, q2 rfl, c1, c1, c1, c1, c1, c2, c2, c2, c2, c2, trivial⟩
        | true =>
          cases c3 : decide (((t.outs.map OutM.v).length : Int) ≥ 1) with
          | false => exact runP_sound (mr2 t.ve t.lo (t.ins.map InM.v) (t.outs.map OutM.v) C102) ⟨q1 rfl, q2 rfl, c1, c1, c1, c1, c1, c2, c2, c2, c2, c2, c3, c3, c3, c3, c3, trivial⟩
          | true => exact runP_sound (mr3 t.ve t.lo (t.ins.map InM.v) (t.outs.map OutM.v) C102) ⟨q1 rfl, q2 rfl, c1, c1, c1, c1, c1, c2, c2, c2, c2, c2, c3, c3, c3, c3, c3, trivial⟩
theorem h102' : Holds Tryd.prog G 102 c102 := (fn_holds s102 hM F15 Tryd.func102 p102 o102).less fun args objs x h => by
  obtain ⟨t, hl, he, rfl⟩ := relC_of h
  simp only [Prod.mk.injEq] at he
  obtain ⟨rfl, rfl⟩ := he
  exact run102 t hl
end Go.Proofs.YtiiohfojejfolaaDoor
