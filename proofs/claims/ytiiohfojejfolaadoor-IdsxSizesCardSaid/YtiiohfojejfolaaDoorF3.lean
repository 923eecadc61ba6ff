/-
  What is proved: what a transaction's inputs and outputs come to, as bytes; whether a transaction may be. Conditions: none.
-/
import Derived.Test.YtiiohfojejfolaaDoorF2
set_option linter.unusedVariables false
set_option linter.unusedSimpArgs false
set_option maxRecDepth 100000
namespace Go.Proofs.YtiiohfojejfolaaDoor
open Go Go.Ev Go.Proofs

/-! ### transactions -/
structure InM where
  p : List V
  vo : Int
  sc : List V
  sq : Int
  wi : List (List V)
structure OutM where
  va : Int
  sc : List V
structure TxM where
  ve : Int
  ins : List InM
  outs : List OutM
  lo : Int
def rowV (l : List V) : V := .slc 1 l .none
def InM.v (x : InM) : V := .agg (x.p ++ [.int .u32 x.vo, rowV x.sc, .int .u32 x.sq, .slc 1 (x.wi.map rowV) .none])
def OutM.v (y : OutM) : V := .agg [.int .u64 y.va, rowV y.sc]
def insV (l : List InM) : V := .slc 36 (l.map InM.v) .none
def outsV (l : List OutM) : V := .slc 2 (l.map OutM.v) .none
def TxM.v (t : TxM) : V := .agg [.int .u32 t.ve, insV t.ins, outsV t.outs, .int .u32 t.lo]
/-- The first 32 cells are there. -/
def InM.ok (x : InM) : Prop := x.p.length = 32 ∧ kinds .u8 x.p = true
def TxM.ok (t : TxM) : Prop := (∀ x ∈ t.ins, x.ok) ∧ t.ins.length ≤ 1000000 ∧ t.outs.length ≤ 1000000

/-! ### contracts of what is encoded -/
open Classical in
noncomputable def relC {α : Type} (enc : α → List V × List Ev.Obj) (ok : α → Prop) (res : α → V × List Ev.Obj × List Ev.Obj) : Contract := fun args objs =>
  if h : ∃ a, ok a ∧ enc a = (args, objs) then some (res (Classical.choose h)) else none
theorem relC_eq {α : Type} {enc : α → List V × List Ev.Obj} {ok : α → Prop} {res : α → V × List Ev.Obj × List Ev.Obj} (hr : ∀ a b, ok a → ok b → enc a = enc b → res a = res b) {a : α} (ha : ok a) : relC enc ok res (enc a).1 (enc a).2 = some (res a) := by
  have h : ∃ b, ok b ∧ enc b = ((enc a).1, (enc a).2) := ⟨a, ha, rfl⟩
  unfold relC
  rw [dif_pos h]
  exact congrArg some (hr _ _ (Classical.choose_spec h).1 ha (Classical.choose_spec h).2)
theorem relC_of {α : Type} {enc : α → List V × List Ev.Obj} {ok : α → Prop} {res : α → V × List Ev.Obj × List Ev.Obj} {args : List V} {objs : List Ev.Obj} {x : V × List Ev.Obj × List Ev.Obj} (h : relC enc ok res args objs = some x) : ∃ a, ok a ∧ enc a = (args, objs) ∧ res a = x := by
  unfold relC at h
  split at h
  · rename_i hh
    cases h
    exact ⟨_, (Classical.choose_spec hh).1, (Classical.choose_spec hh).2, rfl⟩
  · cases h
/-- A contract for what is thinner. -/
def thinC (c : Contract) : Contract := fun args objs => c (args.map V.thinAll) objs
theorem rels_thinAlls {F : Frz} {μ : Mu} : ∀ {vs : List V} {us : List Value}, rels F μ vs us → rels F μ (vs.map V.thinAll) us
  | [], _, h => h
  | v :: r, _, h => by
    obtain ⟨u, us', rfl, h1, h2⟩ := h
    exact ⟨u, us', rfl, rel_thinAll h1, rels_thinAlls h2⟩
theorem Holds.thin {P : Program} {G : Globals} {f : FuncId} {c : Contract} (h : Holds P G f c) : Holds P G f (thinC c) :=
  fun args objs r os ns hc hl F μ w us hG hI hrel => h (args.map V.thinAll) objs r os ns hc hl F μ w us hG hI (rels_thinAlls hrel)

/-! ### what is told of lists that are encoded -/
theorem rowV_inj {a b : List V} (h : rowV a = rowV b) : a = b := by simpa [rowV] using h
theorem map_inj {α β : Type} {f : α → β} : ∀ {a b : List α}, (∀ x ∈ a, ∀ y ∈ b, f x = f y → x = y) → a.map f = b.map f → a = b
  | [], [], _, _ => rfl
  | [], _ :: _, _, h => by cases h
  | _ :: _, [], _, h => by cases h
  | x :: r, y :: s, hf, h => by
    simp only [List.map_cons, List.cons.injEq] at h
    rw [hf x (by simp) y (by simp) h.1, map_inj (fun a ha b hb => hf a (by simp [ha]) b (by simp [hb])) h.2]
theorem InM.v_inj {x y : InM} (hl : x.p.length = y.p.length) (h : x.v = y.v) : x = y := by
  obtain ⟨p, vo, sc, sq, wi⟩ := x
  obtain ⟨p', vo', sc', sq', wi'⟩ := y
  simp only [InM.v, V.agg.injEq] at h
  obtain ⟨h1, h2⟩ := List.append_inj h hl
  simp only [rowV, List.cons.injEq, V.int.injEq, V.slc.injEq, true_and, and_true] at h2
  obtain ⟨rfl, rfl, rfl, h3⟩ := h2
  have := map_inj (fun a _ b _ => rowV_inj) h3
  subst h1 this
  rfl
theorem OutM.v_inj {x y : OutM} (h : x.v = y.v) : x = y := by
  obtain ⟨va, sc⟩ := x
  obtain ⟨va', sc'⟩ := y
  simp only [OutM.v, rowV, V.agg.injEq, List.cons.injEq, V.int.injEq, V.slc.injEq, true_and, and_true] at h
  rw [h.1, h.2]
theorem TxM.v_inj {x y : TxM} (hx : ∀ i ∈ x.ins, i.ok) (hy : ∀ i ∈ y.ins, i.ok) (h : x.v = y.v) : x = y := by
  obtain ⟨ve, ins, outs, lo⟩ := x
  obtain ⟨ve', ins', outs', lo'⟩ := y
  simp only [TxM.v, insV, outsV, V.agg.injEq, List.cons.injEq, V.int.injEq, V.slc.injEq, true_and, and_true] at h
  obtain ⟨rfl, h1, h2, rfl⟩ := h
  have e1 : ins = ins' := map_inj (fun a ha b hb => InM.v_inj ((hx a ha).1.trans (hy b hb).1.symm)) h1
  have e2 : outs = outs' := map_inj (fun a _ b _ => OutM.v_inj) h2
  rw [e1, e2]

/-! ### an input's bytes, an output's -/
def inB (x : InM) : List V := x.p ++ sm x.vo ++ countedB x.sc ++ sm x.sq
def otB (y : OutM) : List V := bg y.va ++ countedB y.sc
def flat {α : Type} (f : α → List V) : List α → List V
  | [] => []
  | x :: r => f x ++ flat f r
theorem flat_append {α : Type} (f : α → List V) : ∀ (a b : List α), flat f (a ++ b) = flat f a ++ flat f b
  | [], b => rfl
  | x :: r, b => by simp only [List.cons_append, flat, flat_append f r b, List.append_assoc]
theorem flat_take {α : Type} (f : α → List V) {l : List α} {i : Nat} {x : α} (h : l[i]? = some x) : flat f (l.take (i + 1)) = flat f (l.take i) ++ f x := by
  obtain ⟨hi, hx⟩ := List.getElem?_eq_some_iff.1 h
  rw [List.take_succ_eq_append_getElem hi, flat_append, hx]
  simp [flat]
theorem flat_le {α : Type} (f : α → List V) (k : Nat) : ∀ (l : List α), (∀ x ∈ l, (f x).length ≤ k) → (flat f l).length ≤ l.length * k
  | [], _ => by simp [flat]
  | x :: r, h => by
    have h1 := h x (by simp)
    have h2 := flat_le f k r (fun y hy => h y (by simp [hy]))
    simp only [flat, List.length_append, List.length_cons, Nat.add_mul, Nat.one_mul]
    omega
def bodyB (t : TxM) : List V := countB t.ins.length ++ flat inB t.ins ++ (countB t.outs.length ++ flat otB t.outs)
/-! ### the inputs, one by one -/
def C103 : FuncId → Option Contract := addC (addC (addC C68 105 c105) 69 c69) 136 c136
theorem s103 : Sound Tryd.prog G C103 := ((s68.add Tryd.func105 (by kernel_rfl) h105').add Tryd.func69 (by kernel_rfl) h69').add Tryd.func136 (by kernel_rfl) h136'
def tokV (k : Nat) (xs : List V) : V := .slc 1 xs (.tok (.loc k 0) 0)
def bS (t : List V) (ins : V) (N : Nat) (bs : List V) (i : Nat) : St := ⟨[(0, tokV 0 bs), (3, .ptr (.loc 3 0) 0), (15, ins), (16, .int .i64 N), (17, .int .i64 i)], [(.loc 3 0, .cells t), (.loc 0 0, .tok bs.length)]⟩
def p32 (w : Nat → Int) : List V := (List.range 32).map fun i => V.int .u8 (w i)
def cl103a : St → St := cleanR [0, 3, 15, 16, 17] [3, 13, 34] [(13, 0), (34, 0)]
def cl103b : St → St := cleanR [0, 42, 43, 44] [3, 40, 54] [(40, 0), (54, 0)]
def txc (ve lo : Int) (iv ov : List V) : List V := [.int .u32 ve, .slc 36 iv .none, .slc 2 ov .none, .int .u32 lo]
def inC (w : Nat → Int) (vo sq : Int) (sc : List V) (wi : List V) : V := .agg (p32 w ++ [.int .u32 vo, rowV sc, .int .u32 sq, .slc 1 wi .none])
theorem ba (ve lo vo sq : Int) (iv ov : List V) (N i : Nat) (bs y1 y2 y3 sc : List V) (w : Nat → Int) (wi : List V) : bodyP C103 F15 cl103a b103_0 (bS (txc ve lo iv ov) (.slc 36 iv .none) N bs i) [.b true, .v (inC w vo sq sc wi), .e false, .call (.slc 1 y1 (.tok (.arg 0) 0)) [] [.tok y1.length], .call (.slc 1 y2 (.tok (.arg 0) 0)) [] [.tok y2.length], .call (.slc 1 y3 (.tok (.arg 0) 0)) [] [.tok y3.length]] =
    some
  (St.mk
      [((0 : Nat), V.slc (1 : Nat) y3 (Own.tok (Key.loc (0 : Nat) (0 : Nat)) (0 : Nat))),
        ((3 : Nat), V.ptr (Key.loc (3 : Nat) (0 : Nat)) (0 : Nat)), ((15 : Nat), V.slc (36 : Nat) iv Own.none),
        ((16 : Nat), V.int IntKind.i64 (↑N : Int)),
        ((17 : Nat), V.int IntKind.i64 (IntKind.wrap IntKind.i64 ((↑i : Int) + (1 : Int))))]
      [(Key.loc (3 : Nat) (0 : Nat),
          Ev.Obj.cells
            [V.int IntKind.u32 ve, V.slc (36 : Nat) iv Own.none, V.slc (2 : Nat) ov Own.none, V.int IntKind.u32 lo]),
        (Key.loc (0 : Nat) (0 : Nat), Obj.tok (List.length y3))],
    [decide ((↑i : Int) < (↑N : Int)) = true,
      (0 : Int) ≤ (↑i : Int) ∧ iv[Int.toNat (↑i : Int)]? = some (inC w vo sq sc wi),
      (List.length bs + (32 : Nat)) * (1 : Nat) ≤ (1099511627776 : Nat),
      List.length bs + (32 : Nat) ≤ (1099511627776 : Nat), false = false, List.length bs = (0 : Nat) + List.length bs,
      callIs C103 (69 : Nat)
        [V.slc (1 : Nat)
            (bs ++
              [V.int IntKind.u8 (w (0 : Nat)), V.int IntKind.u8 (w (1 : Nat)), V.int IntKind.u8 (w (2 : Nat)),
                V.int IntKind.u8 (w (3 : Nat)), V.int IntKind.u8 (w (4 : Nat)), V.int IntKind.u8 (w (5 : Nat)),
                V.int IntKind.u8 (w (6 : Nat)), V.int IntKind.u8 (w (7 : Nat)), V.int IntKind.u8 (w (8 : Nat)),
                V.int IntKind.u8 (w (9 : Nat)), V.int IntKind.u8 (w (10 : Nat)), V.int IntKind.u8 (w (11 : Nat)),
                V.int IntKind.u8 (w (12 : Nat)), V.int IntKind.u8 (w (13 : Nat)), V.int IntKind.u8 (w (14 : Nat)),
                V.int IntKind.u8 (w (15 : Nat)), V.int IntKind.u8 (w (16 : Nat)), V.int IntKind.u8 (w (17 : Nat)),
                V.int IntKind.u8 (w (18 : Nat)), V.int IntKind.u8 (w (19 : Nat)), V.int IntKind.u8 (w (20 : Nat)),
                V.int IntKind.u8 (w (21 : Nat)), V.int IntKind.u8 (w (22 : Nat)), V.int IntKind.u8 (w (23 : Nat)),
                V.int IntKind.u8 (w (24 : Nat)), V.int IntKind.u8 (w (25 : Nat)), V.int IntKind.u8 (w (26 : Nat)),
                V.int IntKind.u8 (w (27 : Nat)), V.int IntKind.u8 (w (28 : Nat)), V.int IntKind.u8 (w (29 : Nat)),
                V.int IntKind.u8 (w (30 : Nat)), V.int IntKind.u8 (w (31 : Nat))])
            Own.none,
          V.int IntKind.u32 vo]
        [] (V.slc (1 : Nat) y1 (Own.tok (Key.arg (0 : Nat)) (0 : Nat))) [] [Obj.tok (List.length y1)],
      callIs C103 (105 : Nat) [V.slc (1 : Nat) y1 Own.none, V.slc (1 : Nat) sc Own.none] []
        (V.slc (1 : Nat) y2 (Own.tok (Key.arg (0 : Nat)) (0 : Nat))) [] [Obj.tok (List.length y2)],
      callIs C103 (69 : Nat) [V.slc (1 : Nat) y2 Own.none, V.int IntKind.u32 sq] []
        (V.slc (1 : Nat) y3 (Own.tok (Key.arg (0 : Nat)) (0 : Nat))) [] [Obj.tok (List.length y3)]]) := by kernel_rfl
theorem bax (ve lo : Int) (iv ov : List V) (N : Nat) (bs : List V) : exitP C103 F15 b103_0 (bS (txc ve lo iv ov) (.slc 36 iv .none) N bs N) [.b false] =
    some
  ((Ex.exit (0 : Nat),
      St.mk
        [((18 : Nat), V.bool (decide ((↑N : Int) < (↑N : Int)))), ((0 : Nat), tokV (0 : Nat) bs),
          ((3 : Nat), V.ptr (Key.loc (3 : Nat) (0 : Nat)) (0 : Nat)), ((15 : Nat), V.slc (36 : Nat) iv Own.none),
          ((16 : Nat), V.int IntKind.i64 (↑N : Int)), ((17 : Nat), V.int IntKind.i64 (↑N : Int))]
        [(Key.loc (3 : Nat) (0 : Nat), Ev.Obj.cells (txc ve lo iv ov)),
          (Key.loc (0 : Nat) (0 : Nat), Obj.tok (List.length bs))]),
    [decide ((↑N : Int) < (↑N : Int)) = false]) := by kernel_rfl
def oS (t : List V) (outs : V) (N : Nat) (bs : List V) (i : Nat) : St := ⟨[(0, tokV 0 bs), (42, outs), (43, .int .i64 N), (44, .int .i64 i)], [(.loc 3 0, .cells t), (.loc 0 0, .tok bs.length)]⟩
theorem bo (ve lo va : Int) (iv ov : List V) (N i : Nat) (bs y1 y2 sc : List V) : bodyP C103 F15 cl103b b103_1 (oS (txc ve lo iv ov) (.slc 2 ov .none) N bs i) [.b true, .v (.agg [.int .u64 va, rowV sc]), .call (.slc 1 y1 (.tok (.arg 0) 0)) [] [.tok y1.length], .call (.slc 1 y2 (.tok (.arg 0) 0)) [] [.tok y2.length]] =
    some
  (St.mk
      [((0 : Nat), V.slc (1 : Nat) y2 (Own.tok (Key.loc (0 : Nat) (0 : Nat)) (0 : Nat))),
        ((42 : Nat), V.slc (2 : Nat) ov Own.none), ((43 : Nat), V.int IntKind.i64 (↑N : Int)),
        ((44 : Nat), V.int IntKind.i64 (IntKind.wrap IntKind.i64 ((↑i : Int) + (1 : Int))))]
      [(Key.loc (3 : Nat) (0 : Nat),
          Ev.Obj.cells
            [V.int IntKind.u32 ve, V.slc (36 : Nat) iv Own.none, V.slc (2 : Nat) ov Own.none, V.int IntKind.u32 lo]),
        (Key.loc (0 : Nat) (0 : Nat), Obj.tok (List.length y2))],
    [decide ((↑i : Int) < (↑N : Int)) = true,
      (0 : Int) ≤ (↑i : Int) ∧ ov[Int.toNat (↑i : Int)]? = some (V.agg [V.int IntKind.u64 va, rowV sc]),
      callIs C103 (136 : Nat) [V.slc (1 : Nat) bs Own.none, V.int IntKind.u64 va] []
        (V.slc (1 : Nat) y1 (Own.tok (Key.arg (0 : Nat)) (0 : Nat))) [] [Obj.tok (List.length y1)],
      callIs C103 (105 : Nat) [V.slc (1 : Nat) y1 Own.none, V.slc (1 : Nat) sc Own.none] []
        (V.slc (1 : Nat) y2 (Own.tok (Key.arg (0 : Nat)) (0 : Nat))) [] [Obj.tok (List.length y2)]]) := by kernel_rfl
theorem box (ve lo : Int) (iv ov : List V) (N : Nat) (bs : List V) : exitP C103 F15 b103_1 (oS (txc ve lo iv ov) (.slc 2 ov .none) N bs N) [.b false] =
    some
  ((Ex.exit (2 : Nat),
      St.mk
        [((45 : Nat), V.bool (decide ((↑N : Int) < (↑N : Int)))), ((0 : Nat), tokV (0 : Nat) bs),
          ((42 : Nat), V.slc (2 : Nat) ov Own.none), ((43 : Nat), V.int IntKind.i64 (↑N : Int)),
          ((44 : Nat), V.int IntKind.i64 (↑N : Int))]
        [(Key.loc (3 : Nat) (0 : Nat), Ev.Obj.cells (txc ve lo iv ov)),
          (Key.loc (0 : Nat) (0 : Nat), Obj.tok (List.length bs))]),
    [decide ((↑N : Int) < (↑N : Int)) = false]) := by kernel_rfl
def bX (t : List V) (ins : V) (N : Nat) (bs : List V) : St := ⟨(18, .bool (decide ((N : Int) < N))) :: (bS t ins N bs N).tm, (bS t ins N bs N).st⟩
def oX (t : List V) (outs : V) (N : Nat) (bs : List V) : St := ⟨(45, .bool (decide ((N : Int) < N))) :: (oS t outs N bs N).tm, (oS t outs N bs N).st⟩
theorem br (ve lo : Int) (iv ov : List V) (bs y1 y2 y3 y4 : List V) : a103.runP F15 C103 [.slc 1 bs .none, .agg (txc ve lo iv ov)] [] [.call (.slc 1 y1 (.tok (.arg 0) 0)) [] [.tok y1.length], .loop (.exit 0) (bX (txc ve lo iv ov) (.slc 36 iv .none) iv.length y2), .call (.slc 1 y3 (.tok (.arg 0) 0)) [] [.tok y3.length], .loop (.exit 2) (oX (txc ve lo iv ov) (.slc 2 ov .none) ov.length y4)] =
    some
  ((V.slc (1 : Nat) y4 (Own.tok (Key.arg (0 : Nat)) (0 : Nat)), [], [Obj.tok (List.length y4)]),
    [callIs C103 (68 : Nat) [V.slc (1 : Nat) bs Own.none, V.int IntKind.i64 (↑(List.length iv) : Int)] []
        (V.slc (1 : Nat) y1 (Own.tok (Key.arg (0 : Nat)) (0 : Nat))) [] [Obj.tok (List.length y1)],
      evalCode C103 F15
          (ACode.loopR [(0 : Nat), (3 : Nat), (15 : Nat), (16 : Nat), (17 : Nat)] [(3 : Nat), (13 : Nat), (34 : Nat)]
            [((13 : Nat), (0 : Nat)), ((34 : Nat), (0 : Nat))] b103_0)
          (St.mk
            [((17 : Nat), V.int IntKind.i64 (0 : Int)), ((16 : Nat), V.int IntKind.i64 (↑(List.length iv) : Int)),
              ((15 : Nat), V.slc (36 : Nat) iv Own.none), ((14 : Nat), V.ptr (Key.loc (3 : Nat) (0 : Nat)) (1 : Nat)),
              ((0 : Nat), V.slc (1 : Nat) y1 (Own.tok (Key.loc (13 : Nat) (0 : Nat)) (0 : Nat))),
              ((13 : Nat), V.slc (1 : Nat) y1 (Own.tok (Key.loc (13 : Nat) (0 : Nat)) (0 : Nat))),
              ((12 : Nat), V.int IntKind.i64 (↑(List.length iv) : Int)), ((11 : Nat), V.slc (36 : Nat) iv Own.none),
              ((10 : Nat), V.ptr (Key.loc (3 : Nat) (0 : Nat)) (1 : Nat)), ((9 : Nat), V.slc (1 : Nat) bs Own.none),
              ((4 : Nat), V.slc (1 : Nat) [] Own.tight), ((3 : Nat), V.ptr (Key.loc (3 : Nat) (0 : Nat)) (0 : Nat)),
              ((0 : Nat), V.slc (1 : Nat) bs Own.none), ((1 : Nat), V.agg (txc ve lo iv ov))]
            [(Key.loc (3 : Nat) (0 : Nat),
                Ev.Obj.cells
                  [V.int IntKind.u32 ve, V.slc (36 : Nat) iv Own.none, V.slc (2 : Nat) ov Own.none,
                    V.int IntKind.u32 lo]),
              (Key.loc (13 : Nat) (0 : Nat), Obj.tok (List.length y1))]) =
        some
          (Ex.exit (0 : Nat),
            St.mk
              [((18 : Nat), V.bool (decide ((↑(List.length iv) : Int) < (↑(List.length iv) : Int)))),
                ((0 : Nat), tokV (0 : Nat) y2), ((3 : Nat), V.ptr (Key.loc (3 : Nat) (0 : Nat)) (0 : Nat)),
                ((15 : Nat), V.slc (36 : Nat) iv Own.none), ((16 : Nat), V.int IntKind.i64 (↑(List.length iv) : Int)),
                ((17 : Nat), V.int IntKind.i64 (↑(List.length iv) : Int))]
              [(Key.loc (3 : Nat) (0 : Nat), Ev.Obj.cells (txc ve lo iv ov)),
                (Key.loc (0 : Nat) (0 : Nat), Obj.tok (List.length y2))]),
      callIs C103 (68 : Nat) [V.slc (1 : Nat) y2 Own.none, V.int IntKind.i64 (↑(List.length ov) : Int)] []
        (V.slc (1 : Nat) y3 (Own.tok (Key.arg (0 : Nat)) (0 : Nat))) [] [Obj.tok (List.length y3)],
      evalCode C103 F15
          (ACode.loopR [(0 : Nat), (42 : Nat), (43 : Nat), (44 : Nat)] [(3 : Nat), (40 : Nat), (54 : Nat)]
            [((40 : Nat), (0 : Nat)), ((54 : Nat), (0 : Nat))] b103_1)
          (St.mk
            [((44 : Nat), V.int IntKind.i64 (0 : Int)), ((43 : Nat), V.int IntKind.i64 (↑(List.length ov) : Int)),
              ((42 : Nat), V.slc (2 : Nat) ov Own.none), ((41 : Nat), V.ptr (Key.loc (3 : Nat) (0 : Nat)) (2 : Nat)),
              ((0 : Nat), V.slc (1 : Nat) y3 (Own.tok (Key.loc (40 : Nat) (0 : Nat)) (0 : Nat))),
              ((40 : Nat), V.slc (1 : Nat) y3 (Own.tok (Key.loc (40 : Nat) (0 : Nat)) (0 : Nat))),
              ((39 : Nat), V.int IntKind.i64 (↑(List.length ov) : Int)), ((38 : Nat), V.slc (2 : Nat) ov Own.none),
              ((37 : Nat), V.ptr (Key.loc (3 : Nat) (0 : Nat)) (2 : Nat)),
              ((36 : Nat), V.slc (1 : Nat) y2 (Own.tok (Key.loc (0 : Nat) (0 : Nat)) (0 : Nat))),
              ((18 : Nat), V.bool (decide ((↑(List.length iv) : Int) < (↑(List.length iv) : Int)))),
              ((0 : Nat), tokV (0 : Nat) y2), ((3 : Nat), V.ptr (Key.loc (3 : Nat) (0 : Nat)) (0 : Nat)),
              ((15 : Nat), V.slc (36 : Nat) iv Own.none), ((16 : Nat), V.int IntKind.i64 (↑(List.length iv) : Int)),
              ((17 : Nat), V.int IntKind.i64 (↑(List.length iv) : Int))]
            [(Key.loc (3 : Nat) (0 : Nat), Ev.Obj.cells (txc ve lo iv ov)),
              (Key.loc (0 : Nat) (0 : Nat), Obj.tok (List.length y2)),
              (Key.loc (40 : Nat) (0 : Nat), Obj.tok (List.length y3))]) =
        some
          (Ex.exit (2 : Nat),
            St.mk
              [((45 : Nat), V.bool (decide ((↑(List.length ov) : Int) < (↑(List.length ov) : Int)))),
                ((0 : Nat), tokV (0 : Nat) y4), ((42 : Nat), V.slc (2 : Nat) ov Own.none),
                ((43 : Nat), V.int IntKind.i64 (↑(List.length ov) : Int)),
                ((44 : Nat), V.int IntKind.i64 (↑(List.length ov) : Int))]
              [(Key.loc (3 : Nat) (0 : Nat), Ev.Obj.cells (txc ve lo iv ov)),
                (Key.loc (0 : Nat) (0 : Nat), Obj.tok (List.length y4))])]) := by kernel_rfl
theorem wrap_succ (i : Nat) (hi : i < 1000000000) : IntKind.i64.wrap ((i : Int) + 1) = ((i + 1 : Nat) : Int) := by
  rw [wrap_i64 _ (by omega) (by omega)]; omega
theorem body_to {C : FuncId → Option Contract} {fuel : Nat} {cl : St → St} {code : ACode} {s t t' : St} {ds : List Dec} {ps : List Prop} (h : bodyP C fuel cl code s ds = some (t, ps)) (hp : AllP ps) (ht : t = t') : ∃ s', evalCode C fuel code s = some (.normal, s') ∧ cl s' = t' := by
  subst ht; exact bodyP_sound h hp
theorem lowB_len4 (n : Int) : (sm n).length = 4 := lowB_length _ _
theorem bg_len (n : Int) : (bg n).length = 8 := lowB_length _ _
theorem countedB_le (l : List V) : (countedB l).length ≤ l.length + 3 := by
  unfold countedB; rw [List.length_append]; have := (countB_le (l.length : Int)).2; omega
def InM.small (x : InM) : Prop := x.sc.length ≤ 500 ∧ x.wi.length ≤ 10 ∧ ∀ r ∈ x.wi, r.length ≤ 500
def OutM.small (y : OutM) : Prop := y.sc.length ≤ 500
def TxM.may (t : TxM) : Prop := (1 ≤ t.ins.length ∧ t.ins.length ≤ 50) ∧ (1 ≤ t.outs.length ∧ t.outs.length ≤ 50) ∧ (∀ x ∈ t.ins, x.small) ∧ ∀ y ∈ t.outs, y.small
theorem inB_le {x : InM} (h : x.ok) (hs : x.small) : (inB x).length ≤ 543 := by
  have := countedB_le x.sc
  have h1 := h.1
  have h2 := hs.1
  simp only [inB, List.length_append, lowB_len4]
  omega
theorem otB_le {y : OutM} (hs : y.small) : (otB y).length ≤ 511 := by
  have := countedB_le y.sc
  have h2 : y.sc.length ≤ 500 := hs
  simp only [otB, List.length_append, bg_len]
  omega
theorem p32_of {p : List V} (h : p.length = 32) (hk : kinds .u8 p = true) : ∃ w, p = p32 w := by
  refine ⟨fun i => numOf (p.getD i (u8 0)), ?_⟩
  have h1 := list_range h (u8 0)
  rw [p32]
  refine h1.trans ?_
  refine List.map_congr_left fun i hi => ?_
  have hlt : i < p.length := by rw [h]; simpa using hi
  have hm : p.getD i (u8 0) ∈ p := by
    rw [List.getD_eq_getElem?_getD, List.getElem?_eq_getElem hlt]
    exact List.getElem_mem hlt
  simp only [kinds, List.all_eq_true] at hk
  have hu := hk _ hm
  generalize p.getD i (u8 0) = v at hu
  cases v <;> simp [isU] at hu
  simp [numOf, hu]
theorem InM.v_eq (x : InM) {w : Nat → Int} (h : x.p = p32 w) : x.v = inC w x.vo x.sq x.sc (x.wi.map rowV) := by
  simp only [InM.v, inC, h]
/-- Calls that are told. -/
theorem call69 {C : FuncId → Option Contract} (hC : C 69 = some c69) {xs : List V} {n : Int} (hx : xs.length ≤ lam) : callIs C 69 [.slc 1 xs .none, .int .u32 n] [] (.slc 1 (xs ++ sm n) (.tok (.arg 0) 0)) [] [.tok (xs ++ sm n).length] := by
  simp only [callIs, hC, c69, if_pos hx, tokR]
theorem call136 {C : FuncId → Option Contract} (hC : C 136 = some c136) {xs : List V} {n : Int} (hx : xs.length ≤ lam) : callIs C 136 [.slc 1 xs .none, .int .u64 n] [] (.slc 1 (xs ++ bg n) (.tok (.arg 0) 0)) [] [.tok (xs ++ bg n).length] := by
  simp only [callIs, hC, c136, if_pos hx, tokR]
theorem call105 {C : FuncId → Option Contract} (hC : C 105 = some c105) {xs zs : List V} (hx : xs.length ≤ lam) (hz : zs.length < 65536) : callIs C 105 [.slc 1 xs .none, .slc 1 zs .none] [] (.slc 1 (xs ++ countedB zs) (.tok (.arg 0) 0)) [] [.tok (xs ++ countedB zs).length] := by
  simp only [callIs, hC, c105, if_pos (And.intro hx hz), tokR]
theorem call68 {C : FuncId → Option Contract} (hC : C 68 = some c68) {xs : List V} {n : Nat} (hx : xs.length ≤ lam) (hz : n < 65536) : callIs C 68 [.slc 1 xs .none, .int .i64 n] [] (.slc 1 (xs ++ countB n) (.tok (.arg 0) 0)) [] [.tok (xs ++ countB n).length] := by
  have : xs.length ≤ lam ∧ (0 : Int) ≤ (n : Int) ∧ (n : Int) < 65536 := ⟨hx, by omega, by omega⟩
  simp only [callIs, hC, c68, if_pos this, tokR]
theorem getElem_map {α β : Type} {f : α → β} {l : List α} {i : Nat} (hi : i < l.length) : (l.map f)[Int.toNat (i : Int)]? = some (f l[i]) := by
  rw [Int.toNat_natCast, List.getElem?_map, List.getElem?_eq_getElem hi]; rfl

theorem ins_loop (ve lo : Int) (ov : List V) (ins : List InM) (hok : ∀ x ∈ ins, x.ok) (hs : ∀ x ∈ ins, x.small) (hN : ins.length ≤ 50) (b0 : List V) (hb : b0.length ≤ 100000) {s0 : St} (h0 : cl103a s0 = bS (txc ve lo (ins.map InM.v) ov) (insV ins) ins.length b0 0) :
    evalCode C103 F15 (.loopR [0, 3, 15, 16, 17] [3, 13, 34] [(13, 0), (34, 0)] b103_0) s0 = some (.exit 0, bX (txc ve lo (ins.map InM.v) ov) (insV ins) ins.length (b0 ++ flat inB ins)) := by
  have hfl : ∀ i, (b0 ++ flat inB (ins.take i)).length ≤ 200000 := fun i => by
    have h1 := flat_le inB 543 (ins.take i) (fun x hx => inB_le (hok x (List.mem_of_mem_take hx)) (hs x (List.mem_of_mem_take hx)))
    have h2 : (ins.take i).length ≤ 50 := by rw [List.length_take]; omega
    have h3 := Nat.mul_le_mul_right 543 h2
    rw [List.length_append]; omega
  refine ev_loopR (fun i => bS (txc ve lo (ins.map InM.v) ov) (insV ins) ins.length (b0 ++ flat inB (ins.take i)) i) ins.length (by simp only [List.take_zero, flat, List.append_nil]; exact h0) (fun i hi => ?_) ?_ (by simp) (by unfold F15; omega)
  · have hx := List.getElem_mem hi
    obtain ⟨w, hw⟩ := p32_of (hok _ hx).1 (hok _ hx).2
    have hsm := hs _ hx
    have hv := InM.v_eq ins[i] hw
    have hb := hfl i
    have hl32 : (p32 w).length = 32 := by rw [← hw]; exact (hok _ hx).1
    have hc := countedB_le ins[i].sc
    have hsc := hsm.1
    have hft := flat_take inB (List.getElem?_eq_getElem hi)
    refine body_to (ba ve lo ins[i].vo ins[i].sq (ins.map InM.v) ov ins.length i (b0 ++ flat inB (ins.take i)) (b0 ++ flat inB (ins.take i) ++ p32 w ++ sm ins[i].vo) (b0 ++ flat inB (ins.take i) ++ p32 w ++ sm ins[i].vo ++ countedB ins[i].sc) (b0 ++ flat inB (ins.take i) ++ p32 w ++ sm ins[i].vo ++ countedB ins[i].sc ++ sm ins[i].sq) ins[i].sc w (ins[i].wi.map rowV))
      ⟨by simpa using hi, ⟨by omega, by rw [getElem_map hi, hv]⟩, by omega, by omega, rfl, by rw [Nat.zero_add], call69 rfl ?_, call105 rfl ?_ ?_, call69 rfl ?_, trivial⟩ ?_
    · show (b0 ++ flat inB (ins.take i) ++ p32 w).length ≤ lam
      rw [List.length_append]; unfold lam; omega
    · simp only [List.length_append, hl32, lowB_len4] at hb ⊢; unfold lam; omega
    · omega
    · simp only [List.length_append, hl32, lowB_len4] at hb ⊢; unfold lam; omega
    · rw [wrap_succ i (by omega)]
      have e : b0 ++ flat inB (ins.take i) ++ p32 w ++ sm ins[i].vo ++ countedB ins[i].sc ++ sm ins[i].sq = b0 ++ flat inB (ins.take (i + 1)) := by
        rw [hft, inB, hw]; simp only [List.append_assoc]
      rw [e]; rfl
  · have := exitP_sound (bax ve lo (ins.map InM.v) ov ins.length (b0 ++ flat inB (ins.take ins.length))) ⟨by simp, trivial⟩
    rw [List.take_length] at this
    simp only [List.take_length]
    exact this
theorem outs_loop (ve lo : Int) (iv : List V) (outs : List OutM) (hs : ∀ x ∈ outs, x.small) (hN : outs.length ≤ 50) (b0 : List V) (hb : b0.length ≤ 200000) {s0 : St} (h0 : cl103b s0 = oS (txc ve lo iv (outs.map OutM.v)) (outsV outs) outs.length b0 0) :
    evalCode C103 F15 (.loopR [0, 42, 43, 44] [3, 40, 54] [(40, 0), (54, 0)] b103_1) s0 = some (.exit 2, oX (txc ve lo iv (outs.map OutM.v)) (outsV outs) outs.length (b0 ++ flat otB outs)) := by
  have hfl : ∀ i, (b0 ++ flat otB (outs.take i)).length ≤ 300000 := fun i => by
    have h1 := flat_le otB 511 (outs.take i) (fun x hx => otB_le (hs x (List.mem_of_mem_take hx)))
    have h2 : (outs.take i).length ≤ 50 := by rw [List.length_take]; omega
    have h3 := Nat.mul_le_mul_right 511 h2
    rw [List.length_append]; omega
  refine ev_loopR (fun i => oS (txc ve lo iv (outs.map OutM.v)) (outsV outs) outs.length (b0 ++ flat otB (outs.take i)) i) outs.length (by simp only [List.take_zero, flat, List.append_nil]; exact h0) (fun i hi => ?_) ?_ (by simp) (by unfold F15; omega)
  · have hx := List.getElem_mem hi
    have hsm : outs[i].sc.length ≤ 500 := hs _ hx
    have hb := hfl i
    have hc := countedB_le outs[i].sc
    have hft := flat_take otB (List.getElem?_eq_getElem hi)
    refine body_to (bo ve lo outs[i].va iv (outs.map OutM.v) outs.length i (b0 ++ flat otB (outs.take i)) (b0 ++ flat otB (outs.take i) ++ bg outs[i].va) (b0 ++ flat otB (outs.take i) ++ bg outs[i].va ++ countedB outs[i].sc) outs[i].sc)
      ⟨by simpa using hi, ⟨by omega, by rw [getElem_map hi]; rfl⟩, call136 rfl ?_, call105 rfl ?_ ?_, trivial⟩ ?_
    · unfold lam; omega
    · simp only [List.length_append, bg_len] at hb ⊢; unfold lam; omega
    · omega
    · rw [wrap_succ i (by omega)]
      have e : b0 ++ flat otB (outs.take i) ++ bg outs[i].va ++ countedB outs[i].sc = b0 ++ flat otB (outs.take (i + 1)) := by
        rw [hft, otB]; simp only [List.append_assoc]
      rw [e]; rfl
  · have := exitP_sound (box ve lo iv (outs.map OutM.v) outs.length (b0 ++ flat otB (outs.take outs.length))) ⟨by simp, trivial⟩
    rw [List.take_length] at this
    simp only [List.take_length]
    exact this
noncomputable def c103 : Contract := relC (fun a : List V × TxM => ([.slc 1 a.1 .none, a.2.v], [])) (fun a => a.1.length ≤ 1000 ∧ a.2.ok ∧ a.2.may) (fun a => (.slc 1 (a.1 ++ bodyB a.2) (.tok (.arg 0) 0), [], [.tok (a.1 ++ bodyB a.2).length]))
theorem run103 (bs : List V) (t : TxM) (hb : bs.length ≤ 1000) (hok : t.ok) (hm : t.may) : a103.run F15 C103 [.slc 1 bs .none, t.v] [] = some (.slc 1 (bs ++ bodyB t) (.tok (.arg 0) 0), [], [.tok (bs ++ bodyB t).length]) := by
  obtain ⟨⟨n1, n2⟩, ⟨m1, m2⟩, hi, ho⟩ := hm
  have hci := (countB_le (t.ins.length : Int)).2
  have hco := (countB_le (t.outs.length : Int)).2
  have hfl : (flat inB t.ins).length ≤ 50 * 543 := by
    have h1 := flat_le inB 543 t.ins (fun x hx => inB_le (hok.1 x hx) (hi x hx))
    have := Nat.mul_le_mul_right 543 n2; omega
  have e : bs ++ bodyB t = bs ++ countB t.ins.length ++ flat inB t.ins ++ countB t.outs.length ++ flat otB t.outs := by simp only [bodyB, List.append_assoc]
  rw [e]
  have := runP_sound (br t.ve t.lo (t.ins.map InM.v) (t.outs.map OutM.v) bs (bs ++ countB t.ins.length) (bs ++ countB t.ins.length ++ flat inB t.ins) (bs ++ countB t.ins.length ++ flat inB t.ins ++ countB t.outs.length) (bs ++ countB t.ins.length ++ flat inB t.ins ++ countB t.outs.length ++ flat otB t.outs))
    ⟨by rw [List.length_map]; exact call68 rfl (by unfold lam; omega) (by omega), by rw [List.length_map]; exact ins_loop t.ve t.lo _ t.ins hok.1 hi n2 _ (by rw [List.length_append]; omega) rfl, by rw [List.length_map]; exact call68 rfl (by simp only [List.length_append]; unfold lam; omega) (by omega),
      by rw [List.length_map, List.length_map]; exact outs_loop t.ve t.lo _ t.outs ho m2 _ (by simp only [List.length_append]; omega) rfl, trivial⟩
  exact this
theorem h103' : Holds Tryd.prog G 103 c103 := (fn_holds s103 hM F15 Tryd.func103 p103 o103).less fun args objs x h => by
  obtain ⟨⟨bs, t⟩, ⟨hb, hok, hm⟩, he, rfl⟩ := relC_of h
  simp only [Prod.mk.injEq] at he
  obtain ⟨rfl, rfl⟩ := he
  exact run103 bs t hb hok hm
theorem call103 {C : FuncId → Option Contract} (hC : C 103 = some c103) {bs : List V} {t : TxM} (hb : bs.length ≤ 1000) (hok : t.ok) (hm : t.may) : callIs C 103 [.slc 1 bs .none, t.v] [] (.slc 1 (bs ++ bodyB t) (.tok (.arg 0) 0)) [] [.tok (bs ++ bodyB t).length] := by
  simp only [callIs, hC]
  refine relC_eq (a := (bs, t)) (enc := fun a : List V × TxM => ([.slc 1 a.1 .none, a.2.v], [])) (ok := fun a : List V × TxM => a.1.length ≤ 1000 ∧ a.2.ok ∧ a.2.may) (fun a b ha hb' he => ?_) ⟨hb, hok, hm⟩
  simp only [Prod.mk.injEq, List.cons.injEq, V.slc.injEq, true_and, and_true] at he
  rw [he.1, TxM.v_inj ha.2.1.1 hb'.2.1.1 he.2]
end Go.Proofs.YtiiohfojejfolaaDoor
