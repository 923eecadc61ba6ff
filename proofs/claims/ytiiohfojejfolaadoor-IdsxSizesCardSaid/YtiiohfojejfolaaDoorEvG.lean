/-
  The evaluator, part G. From a row's premises to the evaluator, and back: a call whose contract answers 'true' keeps what the row asks. Steps of the evaluator, one by one: for values of which not all is known.
-/
import Derived.Test.YtiiohfojejfolaaDoorEvF
import Derived.Carry
import Derived.OpenVars
import Derived.ChangeSame
import Derived.OpenShut
set_option linter.unusedVariables false
set_option linter.unusedSimpArgs false
namespace Go.Ev
open Go Go.ChangeShapes Go.WideShapes Go.RowKit

section
variable {P : Program} {G : Globals} {F F' : Frz} {μ' : Mu} {w w' W W' : World}

theorem Ext.below (x : Ext noMu F w μ' F' w') : Below w.heap.size w { w' with tape := w.tape } where
  os := x.os
  tape := rfl
  output := x.out
  size := x.size
  block := fun k hk => by
    rcases x.keep k hk with ⟨k', h⟩ | h | ⟨us, us', ty, hw, hw', hl, ho⟩
    · simp [noMu] at h
    · exact h
    · have nofoot : ∀ off, ¬ InFoot noMu ⟨k, off, none⟩ := by
        rintro off (⟨_, h⟩ | ⟨_, _, _, _, _, h, _⟩) <;> simp [noMu] at h
      have : us' = us := List.ext_getElem? fun i => ho i (nofoot i)
      subst this
      exact hw'.trans hw.symm

/-- Each type can be read, and is a row of the table. -/
def rowed (P : Program) (ts : List TypeId) : Bool := ts.all fun t => P.readableRec t && decide (t < P.types.size)

theorem below_trodAll {H : Type} {enc : TypeId × Value → H} (hl : laidOutB P = true) (hb : Below W.heap.size W W') : ∀ {ts : List TypeId} {vs : List Value} {ds : List (DataW H)} {ps : List MemPlace}, rowed P ts = true →
    DataW.TrodAll enc P W 0 (fun _ => true) true ts vs ds ps → DataW.TrodAll enc P W' 0 (fun b => decide (b < W.heap.size)) true ts vs ds ps
  | [], _, _, _, _, h => by
    obtain ⟨rfl, rfl, rfl⟩ := trodAll_nil h
    exact trodAll_mk0
  | t :: ts, _, _, _, hr, h => by
    have hlt := h.lt
    obtain ⟨v, vs, d, ds, p, q, rfl, rfl, rfl, h1, h2⟩ := trodAll_cons h
    simp only [rowed, List.all_cons, Bool.and_eq_true, decide_eq_true_eq] at hr
    exact ⟨p, q, hb.trod hl hr.1.1 hr.1.2 h1 (fun x hx => hlt x (by simp [hx])), below_trodAll hl hb (by simpa [rowed] using hr.2) h2, rfl⟩

theorem post_kept {H : Type} {enc : TypeId × Value → H} {f : Func} {s : ChangeSpec} {apart fresh handsOn : Bool} {args : Array Value} {v : Value} {ds gs : List (DataW H)} {before : List MemPlace}
    (hl : laidOutB P = true) (hr : rowed P f.params.toList = true) (hv : varsRowed P s.vars = true)
    (hW : DataW.Whole enc P f.params.toList s.vars apart W args.toList ds gs before)
    (hres : ∀ (b : Nat) (sp : Nat → Bool) (hd : Bool), DataW.TrodAll enc P W' b sp hd f.resultTypes.toList (v.resultList f.resultTypes.size) (s.fn H (ds ++ gs)).results [])
    (ha : (s.fn H (ds ++ gs)).args = ds) (hg : (s.fn H (ds ++ gs)).vars = gs)
    (x : Ext noMu F W μ' F' W') : s.post enc P f apart fresh handsOn false W args v W' := by
  have hW0 := hW
  obtain ⟨p, q, hA, hV, rfl, _, _⟩ := hW0
  have hb := x.below
  refine ⟨ds, gs, p ++ q, [], p, q, hW, hres _ _ _, ?_, ?_, ?_, fun h => by cases h⟩
  · rw [ha]
    exact DataW.TrodAll.of_heap (w := { W' with tape := W.tape }) (w' := W') rfl (below_trodAll hl hb hr hA)
  · rw [hg]
    exact DataW.TrodVars.of_heap (w := { W' with tape := W.tape }) (w' := W') rfl (Below.trodVars hl hb hv hV)
  · have h := hb.frame (fun x => x ∈ p ++ q ∧ (x ∈ ([] : List MemPlace) ∨ x ∈ p ∨ x ∈ q))
    exact h

/-- A contract that answers 'true' at these arguments. -/
theorem contract_true {H : Type} {enc : TypeId × Value → H} {f : FuncId} {fn : Func} {c : Contract} {s : ChangeSpec} {apart fresh handsOn : Bool} {args : Array Value} {vs : List V} {ds gs : List (DataW H)} {before : List MemPlace} {tb : TypeId}
    (hH : Holds P G f c) (hc : (c vs []).map (·.1) = some (.bool true)) (hrel : rels (allF W) noMu vs args.toList) (hG : ∀ g cs, G.get g = some cs → frz (allF W) g 0 cs)
    (hc0 : ∀ r os ns, c vs [] = some (r, os, ns) → os = [])
    (hl : laidOutB P = true) (hr : rowed P fn.params.toList = true) (hv : varsRowed P s.vars = true)
    (hrt : fn.resultTypes = #[tb]) (htb : P.underlying tb = some .bool)
    (hW : DataW.Whole enc P fn.params.toList s.vars apart W args.toList ds gs before)
    (hfn : s.fn H (ds ++ gs) = ⟨[.lit (.bool true)], ds, gs⟩) :
    Calls P f args W fun e W' => ∃ v, e = .returned v ∧ s.post enc P fn apart fresh handsOn false W args v W' := by
  cases h : c vs [] with
  | none => rw [h] at hc; cases hc
  | some x =>
    obtain ⟨r, os, ns⟩ := x
    rw [h] at hc
    have hr0 : r = .bool true := by simpa using hc
    subst hr0
    have := hc0 _ _ _ h
    subst this
    have hcall := hH vs [] _ _ _ h rfl (allF W) noMu W args.toList hG inv_allF hrel
    rw [Array.toArray_toList] at hcall
    refine hcall.mono fun e W' ⟨u, F', μ', he, hI, hx, hle, hru⟩ => ⟨u, he, ?_⟩
    have hu : u = .bool true := by simpa [rel] using hru
    subst hu
    refine post_kept hl hr hv hW ?_ (by rw [hfn]) (by rw [hfn]) hx
    intro b sp hd
    rw [hfn, hrt]
    refine ⟨[], [], ⟨1, by simp [DataW.trod, Value.cells, htb]⟩, rfl, rfl⟩

/-! ### tables of contracts -/
def addC (C : FuncId → Option Contract) (f : FuncId) (c : Contract) : FuncId → Option Contract := fun g => if g = f then some c else C g
def noC : FuncId → Option Contract := fun _ => none

theorem sound_noC : Sound P G noC := ⟨fun _ _ h => by simp [noC] at h⟩

theorem run_callFunc {f : FuncId} {fn : Func} (hf : P.funcs[f]? = some fn) (hb : (fn.body.isNone || fn.name == "runtime.NumGoroutine") = false) (args : Array Value) : (callFunc f args).run P w = .ok (.enter f args) w := by
  simp only [Bool.or_eq_false_iff] at hb
  simp only [callFunc, Sem.run_bind, run_program, Result.andThen_ok, hf, hb.1, hb.2, Bool.false_eq_true, if_false, Sem.run_pure]

theorem Holds.x {f : FuncId} {fn : Func} {c : Contract} (h : Holds P G f c) (hf : P.funcs[f]? = some fn) (hb : (fn.body.isNone || fn.name == "runtime.NumGoroutine") = false) : HoldsX P G f c :=
  fun args objs r os ns hc hl F μ w us hG hI hrel => .inl ⟨h args objs r os ns hc hl F μ w us hG hI hrel, run_callFunc hf hb _⟩

theorem Sound.addX {C : FuncId → Option Contract} {f : FuncId} {c : Contract} (hS : Sound P G C) (hh : HoldsX P G f c) : Sound P G (addC C f c) where
  holds := fun g c' h => by
    simp only [addC] at h
    split at h
    · rename_i he
      subst he
      cases h
      exact hh
    · exact hS.holds g c' h


theorem Sound.add {C : FuncId → Option Contract} {f : FuncId} {fn : Func} {c : Contract} (hS : Sound P G C) (hf : P.funcs[f]? = some fn) (hb : (fn.body.isNone || fn.name == "runtime.NumGoroutine") = false) (hh : Holds P G f c) : Sound P G (addC C f c) :=
  hS.addX (hh.x hf hb)

/-- A contract that says less. -/
theorem Holds.less {f : FuncId} {c c' : Contract} (h : Holds P G f c) (hl : ∀ args objs x, c' args objs = some x → c args objs = some x) : Holds P G f c' :=
  fun args objs r os ns hc => h args objs r os ns (hl _ _ _ hc)

/-- A contract that keeps what it was given: nothing comes back but what came in. -/
theorem run_os {fuel : Nat} {C : FuncId → Option Contract} {afn : AFn} {vs : List V} {r : V} {os ns : List Obj} (h : afn.run fuel C vs [] = some (r, os, ns)) : os = [] := by
  have hfin : ∀ s : St, afn.finish 0 s = some (r, os, ns) → os = [] := fun s h => by
    simp only [AFn.finish, backObjs] at h
    split at h
    · rename_i vs' os' _ ho
      cases ho
      generalize (if afn.keep = true then single vs' else (single vs').thinAll) = r' at h
      split at h
      · split at h
        · simp only [Option.some.injEq, Prod.mk.injEq, List.map_nil] at h
          exact h.2.1.symm
        · cases h
      · cases h
    · cases h
  unfold AFn.run at h
  split at h
  · split at h
    · exact hfin _ h
    · exact hfin _ h
    · cases h
  · cases h

/-- Numbers as they lie. -/
def ints (k : IntKind) (l : List Int) : List V := l.map (V.int k)
theorem frz_ints {k : IntKind} {g : Nat} : ∀ {l : List Int} {o : Nat}, (∀ i n, l[i]? = some n → W.cell? ⟨g, o + i, none⟩ = some (.int k n)) → frz (allF W) g o (ints k l)
  | [], _, _ => by simp [ints, frz]
  | n :: r, o, h => by
    simp only [ints, List.map_cons, frz]
    refine ⟨⟨_, allF_of rfl (h 0 n rfl) rfl, by simp [rel]⟩, ?_⟩
    exact frz_ints fun i m hm => by
      have := h (i + 1) m (by simpa using hm)
      rwa [show o + 1 + i = o + (i + 1) by omega]
end
end Go.Ev

namespace Go.Ev
open Go

section
variable {C : FuncId → Option Contract} {fuel : Nat} {s s1 s2 : St}

theorem bind_runF {α β : Type} {σ : Store} : ∀ (a : Act α) (f : α → Act β) (l : List Key), (a.bind f).run σ l = match a.run σ l with | some (x, l') => (f x).run σ l' | none => none
  | .ret a, f, l => rfl
  | .fail, f, l => rfl
  | .get k g, f, l => by
    simp only [Act.bind, Act.run]
    cases σ.get k with
    | none => rfl
    | some o => exact bind_runF (g o) f (k :: l)
  | .new k g, f, l => by
    simp only [Act.bind, Act.run]
    cases σ.get k with
    | none => exact bind_runF g f (k :: l)
    | some o => rfl

/-! ### code -/
theorem ev_seq {a b : ACode} (h : evalCode C fuel a s = some (.normal, s1)) : evalCode C fuel (.seq a b) s = evalCode C fuel b s1 := by simp only [evalCode, h]
theorem ev_seq_out {a b : ACode} {ex : Ex} (h : evalCode C fuel a s = some (ex, s1)) (hn : ex ≠ .normal) : evalCode C fuel (.seq a b) s = some (ex, s1) := by
  simp only [evalCode, h]
  cases ex <;> simp_all
theorem ev_block {id : Nat} {b : ACode} (h : evalCode C fuel b s = some (.exit id, s1)) : evalCode C fuel (.block id b) s = some (.normal, s1) := by simp only [evalCode, h, if_true]
theorem ev_block_ret {id : Nat} {b : ACode} (h : evalCode C fuel b s = some (.ret, s1)) : evalCode C fuel (.block id b) s = some (.ret, s1) := by simp only [evalCode, h]
theorem ev_block_normal {id : Nat} {b : ACode} (h : evalCode C fuel b s = some (.normal, s1)) : evalCode C fuel (.block id b) s = some (.normal, s1) := by simp only [evalCode, h]
theorem ev_region {ops : List AOper} (h : runOps C s ops = some s1) : evalCode C fuel (.region ops) s = some (.normal, s1) := by simp only [evalCode, h]
theorem ev_drawn {ops : List AOper} {free : List Nat} {logs : List (List Key × List Key)} (h : runLog C s ops [] = some (s1, logs)) (hp : okPairs logs free = true) : evalCode C fuel (.drawn ops free) s = some (.normal, s1) := by simp only [evalCode, h, hp, if_true]
theorem ev_true {c : AOpd} {a b : ACode} (h : c.ev s.tm = .bool true) : evalCode C fuel (.cond c a b) s = evalCode C fuel a s := by simp only [evalCode, h]
theorem ev_false {c : AOpd} {a b : ACode} (h : c.ev s.tm = .bool false) : evalCode C fuel (.cond c a b) s = evalCode C fuel b s := by simp only [evalCode, h]

theorem ev_loop {slots keys : List Nat} {b : ACode} (H : Nat → St) (N : Nat) {s0 : St} {ex : Ex} (h0 : clean slots keys s0 = H 0)
    (hstep : ∀ i, i < N → ∃ s', evalCode C fuel b (H i) = some (.normal, s') ∧ clean slots keys s' = H (i + 1)) (hend : evalCode C fuel b (H N) = some (ex, s1)) (hex : ex ≠ .normal) (hf : N < fuel) :
    evalCode C fuel (.loop slots keys b) s0 = some (ex, s1) := by
  have main : ∀ (n i : Nat) (s : St), i ≤ N → N - i < n → clean slots keys s = H i → iter (fun s => evalCode C fuel b (clean slots keys s)) n s = some (ex, s1) := by
    intro n
    induction n with
    | zero => intro i s _ h; omega
    | succ n ih =>
      intro i s hi hn hs
      simp only [iter, hs]
      by_cases he : i = N
      · subst he
        rw [hend]
        cases ex <;> simp_all
      · obtain ⟨s', h1, h2⟩ := hstep i (by omega)
        rw [h1]
        exact ih (i + 1) s' (by omega) (by omega) h2
  simp only [evalCode]
  exact main fuel 0 s0 (by omega) (by omega) h0

theorem ops_cons {o : AOper} {r : List AOper} {rd wr : List Key} (h : step C s o = some (s1, rd, wr)) : runOps C s (o :: r) = runOps C s1 r := by simp only [runOps, h]
theorem ops_nil : runOps C s [] = some s := rfl
theorem log_cons {o : AOper} {r : List AOper} {rd wr : List Key} {l : List (List Key × List Key)} (h : step C s o = some (s1, rd, wr)) : runLog C s (o :: r) l = runLog C s1 r ((rd, wr) :: l) := by simp only [runLog, h]

/-! ### steps -/
theorem step_of {d : Nat} {op : AOp} {an : Ans} {rd : List Key} (h : (act C d (AOpd.ev s.tm) op).run s.st [] = some (an, rd)) : step C s ⟨some d, op, none⟩ = some (⟨(d, an.v) :: s.tm, s.st.puts an.up⟩, rd, an.up.map (·.1)) := by
  rw [step_eq]
  simp only [stepA, Option.getD_some, h, AOper.put]

theorem step_call {d : Nat} {f : FuncId} {args : List AOpd} {c : Contract} {vs vs' : List V} {r : V} (hC : C f = some c) (ha : args.map (AOpd.ev s.tm) = vs) (hl : ∀ σ l, (lends vs).run σ l = some (vs', l)) (hv : vs.any isView = false) (hk : V.keyss vs' = [])
    (hren : V.rens (inKey []) vs' = vs') (hc : c vs' [] = some (r, [], [])) (hr : r.ren (outKey [] d) = r) : step C s ⟨some d, .call f args, none⟩ = some (⟨(d, r) :: s.tm, s.st⟩, [], []) := by
  have : (act C d (AOpd.ev s.tm) (.call f args)).run s.st [] = some (⟨r, []⟩, []) := by
    simp only [act, ha, callBy, hC, bind_runF, hl, hv, hk, Bool.false_eq_true, if_false, reach, Act.run, List.map_nil, List.all_nil, List.nodup_nil, decide_true, Bool.and_true, if_true, hren, hc, List.length_nil, news, List.zip_nil_left, newObjs, List.append_nil, hr]
  exact step_of this

theorem step_append_tok {d a b e by_ : Nat} {xs ys : List V} {k : Key} {st : Nat} {o : Own} (hs : s.tm.at a = .slc e xs (.tok k st)) (hy : s.tm.at b = .slc e ys o) (hk : s.st.get k = some (.tok (st + xs.length)))
    (hl : (xs.length + ys.length) * by_ ≤ 1099511627776) (hl2 : xs.length + ys.length ≤ 1099511627776) (hne : ys.isEmpty = false) :
    step C s ⟨some d, .append e by_ (.t a) (.t b), none⟩ = some (⟨(d, .slc e (xs ++ ys) (.tok k st)) :: s.tm, s.st.put k (.tok (st + xs.length + ys.length))⟩, [k], [k]) := by
  have : (act C d (AOpd.ev s.tm) (.append e by_ (.t a) (.t b))).run s.st [] = some (⟨.slc e (xs ++ ys) (.tok k st), [(k, .tok (st + xs.length + ys.length))]⟩, [k]) := by
    simp only [act, AOpd.ev, hs, hy, source, bind_runF, if_true, Act.run, appendTo, hl, hl2, and_self, hne, Bool.false_eq_true, if_false, hk]
  exact step_of this

theorem step_append_tight {d a b e by_ : Nat} {xs ys : List V} {o : Own} (hs : s.tm.at a = .slc e xs .tight) (hy : s.tm.at b = .slc e ys o) (hk : s.st.get (.loc d 0) = none)
    (hl : (xs.length + ys.length) * by_ ≤ 1099511627776) (hl2 : xs.length + ys.length ≤ 1099511627776) (hne : ys.isEmpty = false) :
    step C s ⟨some d, .append e by_ (.t a) (.t b), none⟩ = some (⟨(d, .slc e (xs ++ ys) (.tok (.loc d 0) 0)) :: s.tm, s.st.put (.loc d 0) (.tok (xs.length + ys.length))⟩, [.loc d 0], [.loc d 0]) := by
  have : (act C d (AOpd.ev s.tm) (.append e by_ (.t a) (.t b))).run s.st [] = some (⟨.slc e (xs ++ ys) (.tok (.loc d 0) 0), [(.loc d 0, .tok (xs.length + ys.length))]⟩, [.loc d 0]) := by
    simp only [act, AOpd.ev, hs, hy, source, bind_runF, if_true, Act.run, appendTo, hl, hl2, and_self, hne, Bool.false_eq_true, if_false, hk]
  exact step_of this

def cutOwn (own : Own) (l h n : Nat) : Own := if h = n then (match own with | .tok k s => .tok k (s + l) | .nn => .none | o => o) else .none

theorem step_sliceTo {d a e : Nat} {xs : List V} {own : Own} {n : Nat} (hs : s.tm.at a = .slc e xs own) (hn : n ≤ xs.length) :
    step C s ⟨some d, .sliceS e (.t a) none (some (.c (.int .i64 n))) none, none⟩ = some (⟨(d, .slc e (xs.take n) (cutOwn own 0 n xs.length)) :: s.tm, s.st⟩, [], []) := by
  have h1 : (0 : Int) ≤ n := by omega
  have h2 : (n : Int) ≤ xs.length := by omega
  have : (act C d (AOpd.ev s.tm) (.sliceS e (.t a) none (some (.c (.int .i64 n))) none)).run s.st [] = some (⟨.slc e (xs.take n) (cutOwn own 0 n xs.length), []⟩, []) := by
    simp only [act, AOpd.ev, Option.map_none, Option.map_some]
    rw [hs]
    simp only [cut, intArg, cutAt, Option.getD_none, Option.getD_some, ne_eq, not_true_eq_false, if_false, Int.le_refl, h1, h2, and_self, if_true, Act.just, Act.run, Int.toNat_zero, List.drop_zero, Int.toNat_natCast, Nat.sub_zero]
    cases own <;> rfl
  exact step_of this

theorem step_sliceFrom {d a e : Nat} {xs : List V} {k : Key} {st n : Nat} (hs : s.tm.at a = .slc e xs (.tok k st)) (hn : n ≤ xs.length) :
    step C s ⟨some d, .sliceS e (.t a) (some (.c (.int .i64 n))) none none, none⟩ = some (⟨(d, .slc e (xs.drop n) (.tok k (st + n))) :: s.tm, s.st⟩, [], []) := by
  have h1 : (0 : Int) ≤ n := by omega
  have h2 : (n : Int) ≤ xs.length := by omega
  have : (act C d (AOpd.ev s.tm) (.sliceS e (.t a) (some (.c (.int .i64 n))) none none)).run s.st [] = some (⟨.slc e (xs.drop n) (.tok k (st + n)), []⟩, []) := by
    simp only [act, AOpd.ev, hs, Option.map_none, Option.map_some, cut, intArg, cutAt, Option.getD_none, Option.getD_some, ne_eq, not_true_eq_false, if_false, Int.le_refl, h1, h2, and_self, if_true, Act.just, Act.run, Int.toNat_natCast]
    rw [List.take_of_length_le (by simp)]
  exact step_of this
end
end Go.Ev
