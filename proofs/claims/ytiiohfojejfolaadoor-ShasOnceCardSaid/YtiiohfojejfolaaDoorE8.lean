/-
  What is proved: what ShasTells answers, for any arguments that are numbers of their kinds: true.
  Conditions: none.
-/
import Derived.Test.YtiiohfojejfolaaDoorE6
import Derived.Test.YtiiohfojejfolaaDoorE7
set_option linter.unusedVariables false
set_option linter.unusedSimpArgs false
namespace Go.Proofs.YtiiohfojejfolaaDoor
open Go Go.Ev Go.Proofs

/-! ### more steps -/
theorem eqCells_kinds {k : IntKind} : ∀ {xs : List V}, kinds k xs = true → eqCells xs xs = some true
  | [], _ => rfl
  | x :: r, h => by
    simp only [kinds, List.all_cons, Bool.and_eq_true] at h
    have hr := eqCells_kinds (k := k) (xs := r) (by simpa [kinds] using h.2)
    cases x <;> simp [isU] at h
    simp only [eqCells, eqCell, if_true, beq_self_eq_true, hr]
theorem step_guard {C : FuncId → Option Contract} {s : St} {d : Option Nat} {op : AOp} {g : Nat} {b : Bool} (h : s.tm.at g = .bool b) : Go.Ev.step C s ⟨d, op, some (g, b)⟩ = Go.Ev.step C s ⟨d, op, none⟩ := by
  rw [step_eq, step_eq]
  simp only [stepA, h, if_true]
  rfl
theorem step_eqAgg {C : FuncId → Option Contract} {s : St} {d a b n : Nat} {xs : List V} (h1 : s.tm.at a = .agg xs) (h2 : s.tm.at b = .agg xs) (hl : xs.length = n) (he : eqCells xs xs = some true) :
    Go.Ev.step C s ⟨some d, .eqAgg n true (.t a) (.t b), none⟩ = some (⟨(d, .bool false) :: s.tm, s.st⟩, [], []) := by
  have : (act C d (AOpd.ev s.tm) (.eqAgg n true (.t a) (.t b))).run s.st [] = some (⟨.bool false, []⟩, []) := by
    simp only [act, AOpd.ev, h1, h2, hl, and_self, if_true, he, Act.just, Act.run, Bool.not_true]
  exact step_of this
theorem step_sliceTo' {C : FuncId → Option Contract} {s : St} {d a b e : Nat} {xs : List V} {own : Own} {n : Int} {m : Nat} (hs : s.tm.at a = .slc e xs own) (hb : s.tm.at b = .int .i64 n) (hm : n = (m : Int)) (hn : m ≤ xs.length) :
    Go.Ev.step C s ⟨some d, .sliceS e (.t a) none (some (.t b)) none, none⟩ = some (⟨(d, .slc e (xs.take m) (cutOwn own 0 m xs.length)) :: s.tm, s.st⟩, [], []) := by
  subst hm
  have h1 : (0 : Int) ≤ m := by omega
  have h2 : (m : Int) ≤ xs.length := by omega
  have : (act C d (AOpd.ev s.tm) (.sliceS e (.t a) none (some (.t b)) none)).run s.st [] = some (⟨.slc e (xs.take m) (cutOwn own 0 m xs.length), []⟩, []) := by
    simp only [act, AOpd.ev, Option.map_none, Option.map_some]
    rw [hs, hb]
    simp only [cut, intArg, cutAt, Option.getD_none, Option.getD_some, ne_eq, not_true_eq_false, if_false, Int.le_refl, h1, h2, and_self, if_true, Act.just, Act.run, Int.toNat_zero, List.drop_zero, Int.toNat_natCast, Nat.sub_zero]
    cases own <;> rfl
  exact step_of this
theorem step_appZ_none {C : FuncId → Option Contract} {s : St} {d a b : Nat} {xs : List V} {own : Own} {n : Int} (hs : s.tm.at a = .slc 1 xs own) (hb : s.tm.at b = .int .i64 n) (hn : n = 0) (hl : xs.length ≤ 1099511627776) :
    Go.Ev.step C s ⟨some d, .appendZ (.t a) (.t b), none⟩ = some (⟨(d, .slc 1 xs own) :: s.tm, s.st⟩, [], []) := by
  subst hn
  have : (act C d (AOpd.ev s.tm) (.appendZ (.t a) (.t b))).run s.st [] = some (⟨.slc 1 xs own, []⟩, []) := by
    simp [act, AOpd.ev, hs, hb, appendTo, hl, Act.just, Act.run]
  exact step_of this
theorem step_appZ_tok {C : FuncId → Option Contract} {s : St} {d a b : Nat} {xs : List V} {k : Key} {st : Nat} {n : Int} {m : Nat} (hs : s.tm.at a = .slc 1 xs (.tok k st)) (hb : s.tm.at b = .int .i64 n) (hn : n = ((m + 1 : Nat) : Int)) (hk : s.st.get k = some (.tok (st + xs.length)))
    (hl : xs.length + (m + 1) ≤ 1099511627776) :
    Go.Ev.step C s ⟨some d, .appendZ (.t a) (.t b), none⟩ = some (⟨(d, .slc 1 (xs ++ List.replicate (m + 1) (.int .u8 0)) (.tok k st)) :: s.tm, s.st.put k (.tok (st + xs.length + (m + 1)))⟩, [k], [k]) := by
  subst hn
  have h1 : (0 : Int) ≤ ((m + 1 : Nat) : Int) := by omega
  have h2 : ((m + 1 : Nat) : Int) ≤ 1099511627776 := by omega
  have he : (List.replicate (m + 1) (V.int .u8 0)).isEmpty = false := by simp [List.replicate_succ]
  have : (act C d (AOpd.ev s.tm) (.appendZ (.t a) (.t b))).run s.st [] = some (⟨.slc 1 (xs ++ List.replicate (m + 1) (.int .u8 0)) (.tok k st), [(k, .tok (st + xs.length + (m + 1)))]⟩, [k]) := by
    simp only [act, AOpd.ev, hs, hb, h1, h2, and_self, if_true, Int.toNat_natCast, appendTo, List.length_replicate, Nat.mul_one, hl, he, Bool.false_eq_true, if_false, Act.run, hk]
  exact step_of this
theorem step_appZ_tight {C : FuncId → Option Contract} {s : St} {d a b : Nat} {xs : List V} {n : Int} {m : Nat} (hs : s.tm.at a = .slc 1 xs .tight) (hb : s.tm.at b = .int .i64 n) (hn : n = ((m + 1 : Nat) : Int)) (hk : s.st.get (.loc d 0) = none)
    (hl : xs.length + (m + 1) ≤ 1099511627776) :
    Go.Ev.step C s ⟨some d, .appendZ (.t a) (.t b), none⟩ = some (⟨(d, .slc 1 (xs ++ List.replicate (m + 1) (.int .u8 0)) (.tok (.loc d 0) 0)) :: s.tm, s.st.put (.loc d 0) (.tok (xs.length + (m + 1)))⟩, [.loc d 0], [.loc d 0]) := by
  subst hn
  have h1 : (0 : Int) ≤ ((m + 1 : Nat) : Int) := by omega
  have h2 : ((m + 1 : Nat) : Int) ≤ 1099511627776 := by omega
  have he : (List.replicate (m + 1) (V.int .u8 0)).isEmpty = false := by simp [List.replicate_succ]
  have : (act C d (AOpd.ev s.tm) (.appendZ (.t a) (.t b))).run s.st [] = some (⟨.slc 1 (xs ++ List.replicate (m + 1) (.int .u8 0)) (.tok (.loc d 0) 0), [(.loc d 0, .tok (xs.length + (m + 1)))]⟩, [.loc d 0]) := by
    simp only [act, AOpd.ev, hs, hb, h1, h2, and_self, if_true, Int.toNat_natCast, appendTo, List.length_replicate, Nat.mul_one, hl, he, Bool.false_eq_true, if_false, Act.run, hk]
  exact step_of this

theorem step_rem {C : FuncId → Option Contract} {s : St} {d a b : Nat} {k : IntKind} {x y : Int} (h1 : s.tm.at a = .int k x) (h2 : s.tm.at b = .int k y) (hy : y ≠ 0) :
    Go.Ev.step C s ⟨some d, .bin .num .rem (.t a) (.t b), none⟩ = some (⟨(d, .int k (x.tmod y)) :: s.tm, s.st⟩, [], []) := by
  have : (act C d (AOpd.ev s.tm) (.bin .num .rem (.t a) (.t b))).run s.st [] = some (⟨.int k (x.tmod y), []⟩, []) := by
    simp only [act, AOpd.ev, h1, h2, binV, isShift, Bool.false_eq_true, if_false, if_true, intOp, if_neg hy, ofOpt, Act.bind, Act.just, Act.run]
  exact step_of this

/-! ### ShasTells: the rows -/
def C6 : FuncId → Option Contract := addC (addC (addC (addC (addC (addC (addC noC 15 c15) 18 c18) 19 c19) 20 c19) 16 c16) 21 c21) 17 c17
theorem s6 : Sound Tryd.prog G C6 := ((((((sound_noC.add Tryd.func15 (by kernel_rfl) h15').add Tryd.func18 (by kernel_rfl) h18').add Tryd.func19 (by kernel_rfl) h19').add Tryd.func20 (by kernel_rfl) h20').add Tryd.func16 (by kernel_rfl) h16').add Tryd.func21 (by kernel_rfl) h21').add Tryd.func17 (by kernel_rfl) h17'
def row3 (z0 z1 z2 : List V) : V := .slc 1 [.slc 1 z0 .none, .slc 1 z1 .none, .slc 1 z2 .none] .tight
def h6s (b c : Nat → Int) (l : V) (T : Store) (i : Int) : St := ⟨[(6, pt 6), (7, pt 7), (30, l), (31, .int .i64 3), (32, .int .i64 i)], (.loc 6 0, .cells (bl32 b)) :: (.loc 7 0, .cells (bl32 c)) :: T⟩
def ks6 : List Nat := [6, 7, 12, 14, 20, 24, 26, 29, 30, 31, 51, 54, 59, 63]
set_option maxHeartbeats 4000000 in
theorem body6 (b c : Nat → Int) (z0 z1 z2 : List V) (T : Store) (hT : cleanSt (keepKey ks6) T = T) (k0 : kinds .u8 z0 = true ∧ z0.length ≤ lim) (k1 : kinds .u8 z1 = true ∧ z1.length ≤ lim) (k2 : kinds .u8 z2 = true ∧ z2.length ≤ lim) (i : Nat) (hi : i < 3) :
    ∃ s', evalCode C6 F15 b6_0 (h6s b c (row3 z0 z1 z2) T i) = some (.normal, s') ∧ clean [6, 7, 30, 31, 32] ks6 s' = h6s b c (row3 z0 z1 z2) T ((i + 1 : Nat) : Int) := by
  have key : ∀ z : List V, kinds .u8 z = true ∧ z.length ≤ lim → c15 [.slc 1 z .none] [] = some (.agg (shaV z), [], []) ∧ c18 [.slc 1 z .none] [] = some (.agg (shaV z), [], []) ∧ c19 [.slc 1 z .none] [] = some (.agg (shaV (shaV z)), [], []) ∧
      eqCells (shaV z) (shaV z) = some true ∧ eqCells (shaV (shaV z)) (shaV (shaV z)) = some true := fun z hz => by
    refine ⟨by simp only [c15, hz, and_self, if_true], by simp only [c18, hz, and_self, if_true], by simp only [c19, hz, and_self, if_true], eqCells_kinds (k := .u8) rfl, eqCells_kinds (k := .u8) rfl⟩
  have fin : ∀ (tm : Tm) (i : Int), (tm.at 6 = pt 6 ∧ tm.at 7 = pt 7 ∧ tm.at 30 = row3 z0 z1 z2 ∧ tm.at 31 = .int .i64 3 ∧ tm.at 32 = .int .i64 i) →
      clean [6, 7, 30, 31, 32] ks6 ⟨tm, (.loc 6 0, .cells (bl32 b)) :: (.loc 7 0, .cells (bl32 c)) :: T⟩ = h6s b c (row3 z0 z1 z2) T i := fun tm i ⟨a1, a2, a3, a4, a5⟩ => by
    unfold clean
    simp only [cleanTm, a1, a2, a3, a4, a5]
    show St.mk _ ((Key.loc 6 0, _) :: (Key.loc 7 0, _) :: cleanSt (keepKey ks6) T) = _
    rw [hT]
    rfl
  have h0 : i = 0 ∨ i = 1 ∨ i = 2 := by omega
  rcases h0 with rfl | rfl | rfl
  · obtain ⟨q1, q2, q3, q4, q5⟩ := key z0 k0
    refine ⟨_, (ev_seq (ev_region rfl)).trans ((ev_seq ((ev_true rfl).trans rfl)).trans ((ev_seq (ev_block_normal ((ev_seq (ev_region rfl)).trans ((ev_seq (ev_region ((ops_cons rfl).trans
      ((ops_cons (step_call (c := c15) (r := .agg (shaV z0)) (vs' := [.slc 1 z0 .none]) rfl rfl (fun _ _ => rfl) rfl rfl rfl q1 rfl)).trans ((ops_cons rfl).trans
      ((ops_cons (step_call (c := c18) (r := .agg (shaV z0)) (vs' := [.slc 1 z0 .none]) rfl rfl (fun _ _ => rfl) rfl rfl rfl q2 rfl)).trans
      ((ops_cons (step_eqAgg (xs := shaV z0) rfl rfl rfl q4)).trans ((ops_cons rfl).trans ((ops_cons rfl).trans
      ((ops_cons ((step_guard rfl).trans (step_call (c := c19) (r := .agg (shaV (shaV z0))) (vs' := [.slc 1 z0 .none]) rfl rfl (fun _ _ => rfl) rfl rfl rfl q3 rfl))).trans ((ops_cons rfl).trans
      ((ops_cons ((step_guard rfl).trans (step_call (c := c19) (r := .agg (shaV (shaV z0))) (vs' := [.slc 1 z0 .none]) rfl rfl (fun _ _ => rfl) rfl rfl rfl q3 rfl))).trans
      ((ops_cons ((step_guard rfl).trans (step_eqAgg (xs := shaV (shaV z0)) rfl rfl rfl q5))).trans ((ops_cons rfl).trans ops_nil)))))))))))))).trans ((ev_false rfl).trans rfl))))).trans
      (ev_region ((ops_cons rfl).trans ((ops_cons rfl).trans ops_nil))))), ?_⟩
    exact fin _ _ ⟨rfl, rfl, rfl, rfl, rfl⟩
  · obtain ⟨q1, q2, q3, q4, q5⟩ := key z1 k1
    refine ⟨_, (ev_seq (ev_region rfl)).trans ((ev_seq ((ev_true rfl).trans rfl)).trans ((ev_seq (ev_block_normal ((ev_seq (ev_region rfl)).trans ((ev_seq (ev_region ((ops_cons rfl).trans
      ((ops_cons (step_call (c := c15) (r := .agg (shaV z1)) (vs' := [.slc 1 z1 .none]) rfl rfl (fun _ _ => rfl) rfl rfl rfl q1 rfl)).trans ((ops_cons rfl).trans
      ((ops_cons (step_call (c := c18) (r := .agg (shaV z1)) (vs' := [.slc 1 z1 .none]) rfl rfl (fun _ _ => rfl) rfl rfl rfl q2 rfl)).trans
      ((ops_cons (step_eqAgg (xs := shaV z1) rfl rfl rfl q4)).trans ((ops_cons rfl).trans ((ops_cons rfl).trans
      ((ops_cons ((step_guard rfl).trans (step_call (c := c19) (r := .agg (shaV (shaV z1))) (vs' := [.slc 1 z1 .none]) rfl rfl (fun _ _ => rfl) rfl rfl rfl q3 rfl))).trans ((ops_cons rfl).trans
      ((ops_cons ((step_guard rfl).trans (step_call (c := c19) (r := .agg (shaV (shaV z1))) (vs' := [.slc 1 z1 .none]) rfl rfl (fun _ _ => rfl) rfl rfl rfl q3 rfl))).trans
      ((ops_cons ((step_guard rfl).trans (step_eqAgg (xs := shaV (shaV z1)) rfl rfl rfl q5))).trans ((ops_cons rfl).trans ops_nil)))))))))))))).trans ((ev_false rfl).trans rfl))))).trans
      (ev_region ((ops_cons rfl).trans ((ops_cons rfl).trans ops_nil))))), ?_⟩
    exact fin _ _ ⟨rfl, rfl, rfl, rfl, rfl⟩
  · obtain ⟨q1, q2, q3, q4, q5⟩ := key z2 k2
    refine ⟨_, (ev_seq (ev_region rfl)).trans ((ev_seq ((ev_true rfl).trans rfl)).trans ((ev_seq (ev_block_normal ((ev_seq (ev_region rfl)).trans ((ev_seq (ev_region ((ops_cons rfl).trans
      ((ops_cons (step_call (c := c15) (r := .agg (shaV z2)) (vs' := [.slc 1 z2 .none]) rfl rfl (fun _ _ => rfl) rfl rfl rfl q1 rfl)).trans ((ops_cons rfl).trans
      ((ops_cons (step_call (c := c18) (r := .agg (shaV z2)) (vs' := [.slc 1 z2 .none]) rfl rfl (fun _ _ => rfl) rfl rfl rfl q2 rfl)).trans
      ((ops_cons (step_eqAgg (xs := shaV z2) rfl rfl rfl q4)).trans ((ops_cons rfl).trans ((ops_cons rfl).trans
      ((ops_cons ((step_guard rfl).trans (step_call (c := c19) (r := .agg (shaV (shaV z2))) (vs' := [.slc 1 z2 .none]) rfl rfl (fun _ _ => rfl) rfl rfl rfl q3 rfl))).trans ((ops_cons rfl).trans
      ((ops_cons ((step_guard rfl).trans (step_call (c := c19) (r := .agg (shaV (shaV z2))) (vs' := [.slc 1 z2 .none]) rfl rfl (fun _ _ => rfl) rfl rfl rfl q3 rfl))).trans
      ((ops_cons ((step_guard rfl).trans (step_eqAgg (xs := shaV (shaV z2)) rfl rfl rfl q5))).trans ((ops_cons rfl).trans ops_nil)))))))))))))).trans ((ev_false rfl).trans rfl))))).trans
      (ev_region ((ops_cons rfl).trans ((ops_cons rfl).trans ops_nil))))), ?_⟩
    exact fin _ _ ⟨rfl, rfl, rfl, rfl, rfl⟩
theorem exit6 (b c : Nat → Int) (l : V) (T : Store) : evalCode C6 F15 b6_0 (h6s b c l T 3) = some (.exit 0, ⟨(33, .bool false) :: (h6s b c l T 3).tm, (h6s b c l T 3).st⟩) := rfl

/-! ### ShasTells: the whole -/
def s6a (b c : Nat → Int) (bs : List V) (n : Int) (e : Bool) : St :=
  ⟨[(13, .bool e), (12, .int .i64 bs.length), (11, .slc 1 bs .none), (8, .bool false), (7, pt 7), (6, pt 6), (0, .slc 1 bs .none), (1, .int .i64 n), (2, .agg (bl32 b)), (3, .agg (bl32 c))], [(.loc 6 0, .cells (bl32 b)), (.loc 7 0, .cells (bl32 c))]⟩
def args6 (b c : Nat → Int) (bs : List V) (n : Int) : List V := [.slc 1 bs .none, .int .i64 n, .agg (bl32 b), .agg (bl32 c)]
theorem k6_0 : (fun b c bs n => evalCode C6 F15 (.seq (fst1 a6.code) (fst1 (fst1 (rt 1 a6.code)))) ⟨argTm 0 (args6 b c bs n), argObjs 0 []⟩) = fun b c bs n => some (.normal, s6a b c bs n (decide ((bs.length : Int) > 600))) := by kernel_rfl
theorem k6_1 : (fun b c bs n => endOf a6 (evalCode C6 F15 (.seq (rt 1 (fst1 (rt 1 a6.code))) (rt 2 a6.code)) (s6a b c bs n true))) = fun b c bs n => some (.bool true, [], []) := by kernel_rfl
theorem k6_2 : (fun b c bs n => evalCode C6 F15 (rt 1 (fst1 (rt 1 a6.code))) (s6a b c bs n false)) = fun b c bs n => some (.normal, s6a b c bs n false) := by kernel_rfl

def d6 : ACode := fst1 (fst1 (rt 2 a6.code))
theorem rem6 (m n : Nat) (hn : n ≤ 600) : Int.tmod (m : Int) (IntKind.i64.wrap ((n : Int) + 1)) = ((m % (n + 1) : Nat) : Int) := by
  rw [wrap_i64 _ (by omega) (by omega)]
  rfl
set_option maxHeartbeats 4000000 in
theorem d6_run (b c : Nat → Int) (bs : List V) (n : Int) (hl : bs.length ≤ 600) : ∃ (z1 z2 : List V) (T : Store) (s' : St), (∃ m, z1 = bs.take m) ∧ (∃ m, m ≤ 127 ∧ z2 = bs ++ List.replicate m (.int .u8 0)) ∧ cleanSt (keepKey ks6) T = T ∧
    evalCode C6 F15 d6 (s6a b c bs n false) = some (.normal, s') ∧ clean [6, 7, 30, 31, 32] ks6 s' = h6s b c (row3 bs z1 z2) T 0 := by
  obtain ⟨p, hp, hpe⟩ := andI_lt n 65535 (by omega)
  obtain ⟨q, hq, hqe⟩ := andI_lt n 127 (by omega)
  have hm : Int.tmod (andI n 65535) (IntKind.i64.wrap ((bs.length : Int) + 1)) = ((p % (bs.length + 1) : Nat) : Int) := by rw [hpe, rem6 p _ hl]
  have hmle : p % (bs.length + 1) ≤ bs.length := by have := Nat.mod_lt p (show 0 < bs.length + 1 by omega); omega
  cases bs with
  | nil =>
    cases q with
    | zero =>
      refine ⟨_, [], [], ?_, ⟨p % (([] : List V).length + 1), rfl⟩, ⟨0, by omega, rfl⟩, rfl, ev_drawn (logs := ?_) ?_ ?_, ?_⟩
      rotate_left 2
      · refine (log_cons rfl).trans ?_
        refine (log_cons rfl).trans ?_
        refine (log_cons rfl).trans ?_
        refine (log_cons rfl).trans ?_
        refine (log_cons rfl).trans ?_
        refine (log_cons rfl).trans ?_
        refine (log_cons rfl).trans ?_
        refine (log_cons rfl).trans ?_
        refine (log_cons (step_sliceTo' (xs := []) rfl rfl hm hmle)).trans ?_
        refine (log_cons rfl).trans ?_
        refine (log_cons rfl).trans ?_
        refine (log_cons rfl).trans ?_
        refine (log_cons rfl).trans ?_
        refine (log_cons rfl).trans ?_
        refine (log_cons (step_appZ_none (xs := []) (own := .tight) rfl rfl hqe (by simp))).trans ?_
        refine (log_cons rfl).trans ?_
        refine (log_cons rfl).trans ?_
        refine (log_cons rfl).trans ?_
        rfl
      · kernel_rfl
      · rfl
    | succ q =>
      refine ⟨_, [] ++ List.replicate (q + 1) (.int .u8 0), [(.loc 29 0, .tok (([] : List V).length + (q + 1)))], ?_, ⟨p % (([] : List V).length + 1), rfl⟩, ⟨q + 1, by omega, rfl⟩, rfl, ev_drawn (logs := ?_) ?_ ?_, ?_⟩
      rotate_left 2
      · refine (log_cons rfl).trans ?_
        refine (log_cons rfl).trans ?_
        refine (log_cons rfl).trans ?_
        refine (log_cons rfl).trans ?_
        refine (log_cons rfl).trans ?_
        refine (log_cons rfl).trans ?_
        refine (log_cons rfl).trans ?_
        refine (log_cons rfl).trans ?_
        refine (log_cons (step_sliceTo' (xs := []) rfl rfl hm hmle)).trans ?_
        refine (log_cons rfl).trans ?_
        refine (log_cons rfl).trans ?_
        refine (log_cons rfl).trans ?_
        refine (log_cons rfl).trans ?_
        refine (log_cons rfl).trans ?_
        refine (log_cons (step_appZ_tight (xs := []) rfl rfl hqe rfl (by simp only [List.length_nil]; omega))).trans ?_
        refine (log_cons rfl).trans ?_
        refine (log_cons rfl).trans ?_
        refine (log_cons rfl).trans ?_
        rfl
      · kernel_rfl
      · rfl
  | cons x r =>
    have h1 : (([] : List V).length + (x :: r).length) * 1 ≤ 1099511627776 := by simp only [List.length_nil]; omega
    have h2 : ([] : List V).length + (x :: r).length ≤ 1099511627776 := by simp only [List.length_nil]; omega
    have h3 : (x :: r).length ≤ 1099511627776 := by omega
    have h4 : ∀ q, q ≤ 127 → (x :: r).length + q ≤ 1099511627776 := fun q hq => by omega
    have ht : ([] : List V).length + (x :: r).length = 0 + (x :: r).length := by simp
    have hne : IntKind.i64.wrap (((x :: r).length : Int) + 1) ≠ 0 := by rw [wrap_i64 _ (by omega) (by omega)]; omega
    cases q with
    | zero =>
      refine ⟨_, x :: r, [(.loc 26 0, .tok (([] : List V).length + (x :: r).length))], ?_, ⟨p % ((x :: r).length + 1), rfl⟩, ⟨0, by omega, by simp⟩, rfl, ev_drawn (logs := ?_) ?_ ?_, ?_⟩
      rotate_left 2
      · refine (log_cons rfl).trans ?_
        refine (log_cons rfl).trans ?_
        refine (log_cons rfl).trans ?_
        refine (log_cons rfl).trans ?_
        refine (log_cons rfl).trans ?_
        refine (log_cons rfl).trans ?_
        refine (log_cons rfl).trans ?_
        refine (log_cons (step_rem rfl rfl hne)).trans ?_
        refine (log_cons (step_sliceTo' (xs := x :: r) rfl rfl hm hmle)).trans ?_
        refine (log_cons rfl).trans ?_
        refine (log_cons rfl).trans ?_
        refine (log_cons (step_append_tight (xs := []) (ys := x :: r) rfl rfl rfl h1 h2 rfl)).trans ?_
        refine (log_cons rfl).trans ?_
        refine (log_cons rfl).trans ?_
        refine (log_cons (step_appZ_none (xs := x :: r) (own := .tok (.loc 26 0) 0) rfl rfl hqe h3)).trans ?_
        refine (log_cons rfl).trans ?_
        refine (log_cons rfl).trans ?_
        refine (log_cons rfl).trans ?_
        rfl
      · kernel_rfl
      · rfl
    | succ q =>
      refine ⟨_, (x :: r) ++ List.replicate (q + 1) (.int .u8 0), [(.loc 26 0, .tok (0 + (x :: r).length + (q + 1)))], ?_, ⟨p % ((x :: r).length + 1), rfl⟩, ⟨q + 1, by omega, rfl⟩, rfl, ev_drawn (logs := ?_) ?_ ?_, ?_⟩
      rotate_left 2
      · refine (log_cons rfl).trans ?_
        refine (log_cons rfl).trans ?_
        refine (log_cons rfl).trans ?_
        refine (log_cons rfl).trans ?_
        refine (log_cons rfl).trans ?_
        refine (log_cons rfl).trans ?_
        refine (log_cons rfl).trans ?_
        refine (log_cons (step_rem rfl rfl hne)).trans ?_
        refine (log_cons (step_sliceTo' (xs := x :: r) rfl rfl hm hmle)).trans ?_
        refine (log_cons rfl).trans ?_
        refine (log_cons rfl).trans ?_
        refine (log_cons (step_append_tight (xs := []) (ys := x :: r) rfl rfl rfl h1 h2 rfl)).trans ?_
        refine (log_cons rfl).trans ?_
        refine (log_cons rfl).trans ?_
        refine (log_cons (step_appZ_tok (xs := x :: r) (k := .loc 26 0) (st := 0) rfl rfl hqe (by rfl) (h4 _ hq))).trans ?_
        refine (log_cons rfl).trans ?_
        refine (log_cons rfl).trans ?_
        refine (log_cons rfl).trans ?_
        rfl
      · kernel_rfl
      · rfl

/-- What is behind the loop. -/
def e6 : ACode := rt 3 a6.code
def e6ops : List AOper := match fst1 e6 with | .drawn l _ => l | _ => []
def e6free : List Nat := match fst1 e6 with | .drawn _ f => f | _ => []
def s6x (b c : Nat → Int) (l : V) (T : Store) : St := ⟨(33, .bool false) :: (h6s b c l T 3).tm, (h6s b c l T 3).st⟩
def s6y (b c : Nat → Int) (l : V) (T : Store) (e : Bool) : St := ⟨(56, .bool e) :: (55, .bool e) :: (stOf (runLog C6 (s6x b c l T) (e6ops.take 6) [])).tm, (h6s b c l T 3).st⟩
def l6a : List (List Key × List Key) := logOf (runLog C6 (s6x f0 f0 .nil []) (e6ops.take 8) [])
theorem m6_0 : (fun b c l T => runLog C6 (s6x b c l T) (e6ops.take 8) []) = fun b c l T => some (s6y b c l T (decide (cmpV (bl32 b) (bl32 c) < 0) == Op.bytesLess (strV (bl32 b)).toList (strV (bl32 c)).toList), l6a) := by kernel_rfl
def s6z (b c : Nat → Int) (l : V) (T : Store) (e : Bool) : St := ⟨(62, .bool e) :: (61, .bool e) :: (60, .bool e) :: (stOf (runLog C6 (s6y b c l T true) ((e6ops.drop 8).take 3) [])).tm, (h6s b c l T 3).st⟩
def l6b : List (List Key × List Key) := logOf (runLog C6 (s6y f0 f0 .nil [] true) ((e6ops.drop 8).take 6) l6a.reverse)
theorem m6_1 : (fun b c l T => runLog C6 (s6y b c l T true) ((e6ops.drop 8).take 6) l6a.reverse) = fun b c l T => some (s6z b c l T (decide (cmpV (bl32 b) (bl32 b) < 0) == false), l6b) := by kernel_rfl
def l6c : List (List Key × List Key) := logOf (runLog C6 (s6z f0 f0 .nil [] true) (e6ops.drop 14) l6b.reverse)
def s6e (b c : Nat → Int) (l : V) (T : Store) : St := stOf (runLog C6 (s6z b c l T true) (e6ops.drop 14) l6b.reverse)
theorem m6_2 : (fun b c l T => runLog C6 (s6z b c l T true) (e6ops.drop 14) l6b.reverse) = fun b c l T => some (s6e b c l T, l6c) := by kernel_rfl
theorem ok6 : okPairs l6c e6free = true := by kernel_rfl
theorem e6_parts : e6 = .seq (.drawn e6ops e6free) .ret := by kernel_rfl
theorem m6_3 : (fun b c l T => endOf a6 (some (.ret, s6e b c l T))) = fun b c l T => some (.bool true, [], []) := by kernel_rfl
theorem strV_less (b c : Nat → Int) : Op.bytesLess (strV (bl32 b)).toList (strV (bl32 c)).toList = Op.bytesLess (byteL (bl32 b)) (byteL (bl32 c)) := by
  have h : ∀ b : Nat → Int, (strV (bl32 b)).toList = byteL (bl32 b) := fun b => by
    unfold strV
    rw [ByteArray.toList_eq]
    rfl
  rw [h, h]
theorem end6 (b c : Nat → Int) (l : V) (T : Store) : endOf a6 (evalCode C6 F15 e6 (s6x b c l T)) = some (.bool true, [], []) := by
  have q0 := congrFun (congrFun (congrFun (congrFun m6_0 b) c) l) T
  have q1 := congrFun (congrFun (congrFun (congrFun m6_1 b) c) l) T
  have q2 := congrFun (congrFun (congrFun (congrFun m6_2 b) c) l) T
  have q3 := congrFun (congrFun (congrFun (congrFun m6_3 b) c) l) T
  rw [cmpV_lt, strV_less, beq_self_eq_true] at q0
  rw [cmpV_lt, less_self, beq_self_eq_true] at q1
  have hlog : runLog C6 (s6x b c l T) e6ops [] = some (s6e b c l T, l6c) := by
    have h8 := runLog_append (e6ops.take 8) (e6ops.drop 8) _ _ _ _ q0
    rw [List.take_append_drop] at h8
    rw [h8]
    have h14 := runLog_append ((e6ops.drop 8).take 6) ((e6ops.drop 8).drop 6) _ _ _ _ q1
    rw [List.take_append_drop, List.drop_drop] at h14
    rw [h14]
    exact q2
  rw [e6_parts, ev_seq (ev_drawn hlog ok6)]
  exact q3
theorem seq6 : (isSeq a6.code && isSeq (rt 1 a6.code) && isSeq (rt 2 a6.code) && isSeq (fst1 (rt 1 a6.code)) && isSeq (fst1 (rt 2 a6.code))) = true := by kernel_rfl
theorem loop6 : rt 1 (fst1 (rt 2 a6.code)) = .block 0 (.loop [6, 7, 30, 31, 32] ks6 b6_0) := by kernel_rfl
def c6 : Contract := AFn.run F15 C6 a6
theorem h6' : Holds Tryd.prog G 6 c6 := fn_holds s6 hM F15 Tryd.func6 p6 o6
theorem run6 (b c : Nat → Int) (bs : List V) (n : Int) (hk : kinds .u8 bs = true) : c6 (args6 b c bs n) [] = some (.bool true, [], []) := by
  have hs := seq6
  simp only [Bool.and_eq_true] at hs
  obtain ⟨⟨⟨⟨i0, i1⟩, i2⟩, i3⟩, i4⟩ := hs
  unfold c6
  rw [run_endOf rfl]
  have q0 := congrFun (congrFun (congrFun (congrFun k6_0 b) c) bs) n
  have two : ∀ (x y : ACode) (s t : St), evalCode C6 F15 (.seq x y) s = some (.normal, t) → ∃ u, evalCode C6 F15 x s = some (.normal, u) ∧ evalCode C6 F15 y u = some (.normal, t) := fun x y s t h => by
    simp only [evalCode] at h
    split at h
    · rename_i u hu; exact ⟨u, hu, h⟩
    · rename_i hn; exact (hn t h).elim
  obtain ⟨u, hu1, hu2⟩ := two _ _ _ _ q0
  have e0 : evalCode C6 F15 a6.code ⟨argTm 0 (args6 b c bs n), argObjs 0 []⟩ = evalCode C6 F15 (.seq (rt 1 (fst1 (rt 1 a6.code))) (rt 2 a6.code)) (s6a b c bs n (decide ((bs.length : Int) > 600))) := by
    refine (ev_fst _ i0 hu1).trans ?_
    have g : ∀ c : ACode, isSeq c = true → isSeq (fst1 c) = true → c = .seq (.seq (fst1 (fst1 c)) (rt 1 (fst1 c))) (rt 1 c) := fun c hc hc1 => by
      cases c <;> simp [isSeq] at hc
      rename_i x y
      cases x <;> simp [isSeq, fst1] at hc1
      rfl
    rw [g (rt 1 a6.code) i1 i3]
    simp only [evalCode]
    have hu2' : evalCode C6 F15 (fst1 (fst1 (rt 1 a6.code))) u = some (.normal, s6a b c bs n (decide ((bs.length : Int) > 600))) := hu2
    simp only [hu2']
    rfl
  rw [e0]
  by_cases hlen : bs.length ≤ 600
  · have hd : decide ((bs.length : Int) > 600) = false := by simp; omega
    rw [hd]
    have q2 := congrFun (congrFun (congrFun (congrFun k6_2 b) c) bs) n
    rw [ev_seq q2]
    obtain ⟨z1, z2, T, s', ⟨m1, hz1⟩, ⟨m2, hm2, hz2⟩, hT, hrun, hcl⟩ := d6_run b c bs n hlen
    have k1 : kinds .u8 z1 = true ∧ z1.length ≤ lim := by rw [hz1]; exact ⟨kinds_take _ hk, by rw [List.length_take]; unfold lim; omega⟩
    have k2 : kinds .u8 z2 = true ∧ z2.length ≤ lim := by
      rw [hz2]
      refine ⟨kinds_append hk ?_, by rw [List.length_append, List.length_replicate]; unfold lim; omega⟩
      simp only [kinds, List.all_replicate]
      cases m2 <;> simp [isU]
    have hloop : evalCode C6 F15 (fst1 (rt 2 a6.code)) (s6a b c bs n false) = some (.normal, s6x b c (row3 bs z1 z2) T) := by
      refine (ev_fst _ i4 hrun).trans ?_
      rw [loop6]
      exact ev_block (ev_loop (fun i => h6s b c (row3 bs z1 z2) T (i : Nat)) 3 hcl (fun i hi => body6 b c bs z1 z2 T hT ⟨hk, by unfold lim; omega⟩ k1 k2 i hi) (exit6 b c _ T) (by simp) (by unfold F15; omega))
    rw [ev_fst _ i2 hloop]
    exact end6 b c _ T
  · have hd : decide ((bs.length : Int) > 600) = true := by simp; omega
    rw [hd]
    exact congrFun (congrFun (congrFun (congrFun k6_1 b) c) bs) n
theorem arr_bl32 (l : List Int) (hl : l.length = 32) : l.map (V.int .u8) = bl32 fun i => l.getD i 0 := by
  conv => lhs; rw [list_range hl 0]
  unfold bl32
  rw [List.map_map]
  rfl
theorem c6_true (l0 : List Int) (w0 : ∀ m ∈ l0, (Lit.int .u8 m).wf = true) (n1 : Int) (w1 : (Lit.int .i64 n1).wf = true) (l2 : List Int) (len2 : l2.length = 32) (w2 : ∀ m ∈ l2, (Lit.int .u8 m).wf = true) (l3 : List Int) (len3 : l3.length = 32) (w3 : ∀ m ∈ l3, (Lit.int .u8 m).wf = true) :
    c6 [.slc 1 (l0.map (V.int .u8)) .none, .int .i64 n1, .agg (l2.map (V.int .u8)), .agg (l3.map (V.int .u8))] [] = some (.bool true, [], []) := by
  rw [arr_bl32 l2 len2, arr_bl32 l3 len3]
  refine run6 _ _ (l0.map (V.int .u8)) n1 ?_
  simp only [kinds, List.all_eq_true]
  intro x hx
  obtain ⟨n, _, rfl⟩ := List.mem_map.1 hx
  simp [isU]
end Go.Proofs.YtiiohfojejfolaaDoor
