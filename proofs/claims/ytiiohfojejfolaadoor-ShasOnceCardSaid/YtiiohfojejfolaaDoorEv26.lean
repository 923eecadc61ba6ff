/-
  Steps of the evaluator, one by one: for values of which not all is known.
-/
import Derived.Test.YtiiohfojejfolaaDoorEv25
set_option linter.unusedVariables false
set_option linter.unusedSimpArgs false
namespace Go.Ev
open Go

section
variable {C : FuncId → Option Contract} {fuel : Nat} {s s1 s2 : St}

theorem bind_runF {α β : Type} {σ : Store} : ∀ (a : Act α) (f : α → Act β) (l : List Key), (a.bind f).run σ l = match a.run σ l with | some (x, l') => (f x).run σ l' | none => none
  | .ret a, f, l => rfl
  | .fail, f, l => rfl
  | .get k g, f, l => by
    simp only [Act.bind, Act.run]
    cases σ.get k with
    | none => rfl
    | some o => exact bind_runF (g o) f (k :: l)
  | .new k g, f, l => by
    simp only [Act.bind, Act.run]
    cases σ.get k with
    | none => exact bind_runF g f (k :: l)
    | some o => rfl

/-! ### code -/
theorem ev_seq {a b : ACode} (h : evalCode C fuel a s = some (.normal, s1)) : evalCode C fuel (.seq a b) s = evalCode C fuel b s1 := by simp only [evalCode, h]
theorem ev_seq_out {a b : ACode} {ex : Ex} (h : evalCode C fuel a s = some (ex, s1)) (hn : ex ≠ .normal) : evalCode C fuel (.seq a b) s = some (ex, s1) := by
  simp only [evalCode, h]
  cases ex <;> simp_all
theorem ev_block {id : Nat} {b : ACode} (h : evalCode C fuel b s = some (.exit id, s1)) : evalCode C fuel (.block id b) s = some (.normal, s1) := by simp only [evalCode, h, if_true]
theorem ev_block_ret {id : Nat} {b : ACode} (h : evalCode C fuel b s = some (.ret, s1)) : evalCode C fuel (.block id b) s = some (.ret, s1) := by simp only [evalCode, h]
theorem ev_block_normal {id : Nat} {b : ACode} (h : evalCode C fuel b s = some (.normal, s1)) : evalCode C fuel (.block id b) s = some (.normal, s1) := by simp only [evalCode, h]
theorem ev_region {ops : List AOper} (h : runOps C s ops = some s1) : evalCode C fuel (.region ops) s = some (.normal, s1) := by simp only [evalCode, h]
theorem ev_drawn {ops : List AOper} {free : List Nat} {logs : List (List Key × List Key)} (h : runLog C s ops [] = some (s1, logs)) (hp : okPairs logs free = true) : evalCode C fuel (.drawn ops free) s = some (.normal, s1) := by simp only [evalCode, h, hp, if_true]
theorem ev_true {c : AOpd} {a b : ACode} (h : c.ev s.tm = .bool true) : evalCode C fuel (.cond c a b) s = evalCode C fuel a s := by simp only [evalCode, h]
theorem ev_false {c : AOpd} {a b : ACode} (h : c.ev s.tm = .bool false) : evalCode C fuel (.cond c a b) s = evalCode C fuel b s := by simp only [evalCode, h]

theorem ev_loop {slots keys : List Nat} {b : ACode} (H : Nat → St) (N : Nat) {s0 : St} {ex : Ex} (h0 : clean slots keys s0 = H 0)
    (hstep : ∀ i, i < N → ∃ s', evalCode C fuel b (H i) = some (.normal, s') ∧ clean slots keys s' = H (i + 1)) (hend : evalCode C fuel b (H N) = some (ex, s1)) (hex : ex ≠ .normal) (hf : N < fuel) :
    evalCode C fuel (.loop slots keys b) s0 = some (ex, s1) := by
  have main : ∀ (n i : Nat) (s : St), i ≤ N → N - i < n → clean slots keys s = H i → iter (fun s => evalCode C fuel b (clean slots keys s)) n s = some (ex, s1) := by
    intro n
    induction n with
    | zero => intro i s _ h; omega
    | succ n ih =>
      intro i s hi hn hs
      simp only [iter, hs]
      by_cases he : i = N
      · subst he
        rw [hend]
        cases ex <;> simp_all
      · obtain ⟨s', h1, h2⟩ := hstep i (by omega)
        rw [h1]
        exact ih (i + 1) s' (by omega) (by omega) h2
  simp only [evalCode]
  exact main fuel 0 s0 (by omega) (by omega) h0

theorem ops_cons {o : AOper} {r : List AOper} {rd wr : List Key} (h : step C s o = some (s1, rd, wr)) : runOps C s (o :: r) = runOps C s1 r := by simp only [runOps, h]
theorem ops_nil : runOps C s [] = some s := rfl
theorem log_cons {o : AOper} {r : List AOper} {rd wr : List Key} {l : List (List Key × List Key)} (h : step C s o = some (s1, rd, wr)) : runLog C s (o :: r) l = runLog C s1 r ((rd, wr) :: l) := by simp only [runLog, h]

/-! ### steps -/
theorem step_of {d : Nat} {op : AOp} {an : Ans} {rd : List Key} (h : (act C d (AOpd.ev s.tm) op).run s.st [] = some (an, rd)) : step C s ⟨some d, op, none⟩ = some (⟨(d, an.v) :: s.tm, s.st.puts an.up⟩, rd, an.up.map (·.1)) := by
  rw [step_eq]
  simp only [stepA, Option.getD_some, h, AOper.put]

theorem step_call {d : Nat} {f : FuncId} {args : List AOpd} {c : Contract} {vs vs' : List V} {r : V} (hC : C f = some c) (ha : args.map (AOpd.ev s.tm) = vs) (hl : ∀ σ l, (lends vs).run σ l = some (vs', l)) (hv : vs.any isView = false) (hk : V.keyss vs' = [])
    (hren : V.rens (inKey []) vs' = vs') (hc : c vs' [] = some (r, [], [])) (hr : r.ren (outKey [] d) = r) : step C s ⟨some d, .call f args, none⟩ = some (⟨(d, r) :: s.tm, s.st⟩, [], []) := by
  have : (act C d (AOpd.ev s.tm) (.call f args)).run s.st [] = some (⟨r, []⟩, []) := by
    simp only [act, ha, callBy, hC, bind_runF, hl, hv, hk, Bool.false_eq_true, if_false, reach, Act.run, List.map_nil, List.all_nil, List.nodup_nil, decide_true, Bool.and_true, if_true, hren, hc, List.length_nil, news, List.zip_nil_left, newObjs, List.append_nil, hr]
  exact step_of this

theorem step_append_tok {d a b e by_ : Nat} {xs ys : List V} {k : Key} {st : Nat} {o : Own} (hs : s.tm.at a = .slc e xs (.tok k st)) (hy : s.tm.at b = .slc e ys o) (hk : s.st.get k = some (.tok (st + xs.length)))
    (hl : (xs.length + ys.length) * by_ ≤ 1099511627776) (hl2 : xs.length + ys.length ≤ 1099511627776) (hne : ys.isEmpty = false) :
    step C s ⟨some d, .append e by_ (.t a) (.t b), none⟩ = some (⟨(d, .slc e (xs ++ ys) (.tok k st)) :: s.tm, s.st.put k (.tok (st + xs.length + ys.length))⟩, [k], [k]) := by
  have : (act C d (AOpd.ev s.tm) (.append e by_ (.t a) (.t b))).run s.st [] = some (⟨.slc e (xs ++ ys) (.tok k st), [(k, .tok (st + xs.length + ys.length))]⟩, [k]) := by
    simp only [act, AOpd.ev, hs, hy, source, bind_runF, if_true, Act.run, appendTo, hl, hl2, and_self, hne, Bool.false_eq_true, if_false, hk]
  exact step_of this

theorem step_append_tight {d a b e by_ : Nat} {xs ys : List V} {o : Own} (hs : s.tm.at a = .slc e xs .tight) (hy : s.tm.at b = .slc e ys o) (hk : s.st.get (.loc d 0) = none)
    (hl : (xs.length + ys.length) * by_ ≤ 1099511627776) (hl2 : xs.length + ys.length ≤ 1099511627776) (hne : ys.isEmpty = false) :
    step C s ⟨some d, .append e by_ (.t a) (.t b), none⟩ = some (⟨(d, .slc e (xs ++ ys) (.tok (.loc d 0) 0)) :: s.tm, s.st.put (.loc d 0) (.tok (xs.length + ys.length))⟩, [.loc d 0], [.loc d 0]) := by
  have : (act C d (AOpd.ev s.tm) (.append e by_ (.t a) (.t b))).run s.st [] = some (⟨.slc e (xs ++ ys) (.tok (.loc d 0) 0), [(.loc d 0, .tok (xs.length + ys.length))]⟩, [.loc d 0]) := by
    simp only [act, AOpd.ev, hs, hy, source, bind_runF, if_true, Act.run, appendTo, hl, hl2, and_self, hne, Bool.false_eq_true, if_false, hk]
  exact step_of this

def cutOwn (own : Own) (l h n : Nat) : Own := if h = n then (match own with | .tok k s => .tok k (s + l) | .nn => .none | o => o) else .none

theorem step_sliceTo {d a e : Nat} {xs : List V} {own : Own} {n : Nat} (hs : s.tm.at a = .slc e xs own) (hn : n ≤ xs.length) :
    step C s ⟨some d, .sliceS e (.t a) none (some (.c (.int .i64 n))) none, none⟩ = some (⟨(d, .slc e (xs.take n) (cutOwn own 0 n xs.length)) :: s.tm, s.st⟩, [], []) := by
  have h1 : (0 : Int) ≤ n := by omega
  have h2 : (n : Int) ≤ xs.length := by omega
  have : (act C d (AOpd.ev s.tm) (.sliceS e (.t a) none (some (.c (.int .i64 n))) none)).run s.st [] = some (⟨.slc e (xs.take n) (cutOwn own 0 n xs.length), []⟩, []) := by
    simp only [act, AOpd.ev, Option.map_none, Option.map_some]
    rw [hs]
    simp only [cut, intArg, cutAt, Option.getD_none, Option.getD_some, ne_eq, not_true_eq_false, if_false, Int.le_refl, h1, h2, and_self, if_true, Act.just, Act.run, Int.toNat_zero, List.drop_zero, Int.toNat_natCast, Nat.sub_zero]
    cases own <;> rfl
  exact step_of this

theorem step_sliceFrom {d a e : Nat} {xs : List V} {k : Key} {st n : Nat} (hs : s.tm.at a = .slc e xs (.tok k st)) (hn : n ≤ xs.length) :
    step C s ⟨some d, .sliceS e (.t a) (some (.c (.int .i64 n))) none none, none⟩ = some (⟨(d, .slc e (xs.drop n) (.tok k (st + n))) :: s.tm, s.st⟩, [], []) := by
  have h1 : (0 : Int) ≤ n := by omega
  have h2 : (n : Int) ≤ xs.length := by omega
  have : (act C d (AOpd.ev s.tm) (.sliceS e (.t a) (some (.c (.int .i64 n))) none none)).run s.st [] = some (⟨.slc e (xs.drop n) (.tok k (st + n)), []⟩, []) := by
    simp only [act, AOpd.ev, hs, Option.map_none, Option.map_some, cut, intArg, cutAt, Option.getD_none, Option.getD_some, ne_eq, not_true_eq_false, if_false, Int.le_refl, h1, h2, and_self, if_true, Act.just, Act.run, Int.toNat_natCast]
    rw [List.take_of_length_le (by simp)]
  exact step_of this
end
end Go.Ev
