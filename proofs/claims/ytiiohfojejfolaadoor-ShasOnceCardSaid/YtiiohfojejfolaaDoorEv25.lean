/-
  From a row's premises to the evaluator, and back: a call whose contract answers 'true' keeps what the row asks.
-/
import Derived.Test.YtiiohfojejfolaaDoorEv24
import Derived.Carry
import Derived.OpenVars
import Derived.ChangeSame
import Derived.OpenShut
set_option linter.unusedVariables false
set_option linter.unusedSimpArgs false
namespace Go.Ev
open Go Go.ChangeShapes Go.WideShapes Go.RowKit

section
variable {P : Program} {G : Globals} {F F' : Frz} {μ' : Mu} {w w' W W' : World}

theorem Ext.below (x : Ext noMu F w μ' F' w') : Below w.heap.size w { w' with tape := w.tape } where
  os := x.os
  tape := rfl
  output := x.out
  size := x.size
  block := fun k hk => by
    rcases x.keep k hk with ⟨k', h⟩ | h | ⟨us, us', ty, hw, hw', hl, ho⟩
    · simp [noMu] at h
    · exact h
    · have nofoot : ∀ off, ¬ InFoot noMu ⟨k, off, none⟩ := by
        rintro off (⟨_, h⟩ | ⟨_, _, _, _, _, h, _⟩) <;> simp [noMu] at h
      have : us' = us := List.ext_getElem? fun i => ho i (nofoot i)
      subst this
      exact hw'.trans hw.symm

/-- Each type can be read, and is a row of the table. -/
def rowed (P : Program) (ts : List TypeId) : Bool := ts.all fun t => P.readableRec t && decide (t < P.types.size)

theorem below_trodAll {H : Type} {enc : TypeId × Value → H} (hl : laidOutB P = true) (hb : Below W.heap.size W W') : ∀ {ts : List TypeId} {vs : List Value} {ds : List (DataW H)} {ps : List MemPlace}, rowed P ts = true →
    DataW.TrodAll enc P W 0 (fun _ => true) true ts vs ds ps → DataW.TrodAll enc P W' 0 (fun b => decide (b < W.heap.size)) true ts vs ds ps
  | [], _, _, _, _, h => by
    obtain ⟨rfl, rfl, rfl⟩ := trodAll_nil h
    exact trodAll_mk0
  | t :: ts, _, _, _, hr, h => by
    have hlt := h.lt
    obtain ⟨v, vs, d, ds, p, q, rfl, rfl, rfl, h1, h2⟩ := trodAll_cons h
    simp only [rowed, List.all_cons, Bool.and_eq_true, decide_eq_true_eq] at hr
    exact ⟨p, q, hb.trod hl hr.1.1 hr.1.2 h1 (fun x hx => hlt x (by simp [hx])), below_trodAll hl hb (by simpa [rowed] using hr.2) h2, rfl⟩

theorem post_kept {H : Type} {enc : TypeId × Value → H} {f : Func} {s : ChangeSpec} {apart fresh handsOn : Bool} {args : Array Value} {v : Value} {ds gs : List (DataW H)} {before : List MemPlace}
    (hl : laidOutB P = true) (hr : rowed P f.params.toList = true) (hv : varsRowed P s.vars = true)
    (hW : DataW.Whole enc P f.params.toList s.vars apart W args.toList ds gs before)
    (hres : ∀ (b : Nat) (sp : Nat → Bool) (hd : Bool), DataW.TrodAll enc P W' b sp hd f.resultTypes.toList (v.resultList f.resultTypes.size) (s.fn H (ds ++ gs)).results [])
    (ha : (s.fn H (ds ++ gs)).args = ds) (hg : (s.fn H (ds ++ gs)).vars = gs)
    (x : Ext noMu F W μ' F' W') : s.post enc P f apart fresh handsOn false W args v W' := by
  have hW0 := hW
  obtain ⟨p, q, hA, hV, rfl, _, _⟩ := hW0
  have hb := x.below
  refine ⟨ds, gs, p ++ q, [], p, q, hW, hres _ _ _, ?_, ?_, ?_, fun h => by cases h⟩
  · rw [ha]
    exact DataW.TrodAll.of_heap (w := { W' with tape := W.tape }) (w' := W') rfl (below_trodAll hl hb hr hA)
  · rw [hg]
    exact DataW.TrodVars.of_heap (w := { W' with tape := W.tape }) (w' := W') rfl (Below.trodVars hl hb hv hV)
  · have h := hb.frame (fun x => x ∈ p ++ q ∧ (x ∈ ([] : List MemPlace) ∨ x ∈ p ∨ x ∈ q))
    exact h

/-- A contract that answers 'true' at these arguments. -/
theorem contract_true {H : Type} {enc : TypeId × Value → H} {f : FuncId} {fn : Func} {c : Contract} {s : ChangeSpec} {apart fresh handsOn : Bool} {args : Array Value} {vs : List V} {ds gs : List (DataW H)} {before : List MemPlace} {tb : TypeId}
    (hH : Holds P G f c) (hc : (c vs []).map (·.1) = some (.bool true)) (hrel : rels (allF W) noMu vs args.toList) (hG : ∀ g cs, G.get g = some cs → frz (allF W) g 0 cs)
    (hc0 : ∀ r os ns, c vs [] = some (r, os, ns) → os = [])
    (hl : laidOutB P = true) (hr : rowed P fn.params.toList = true) (hv : varsRowed P s.vars = true)
    (hrt : fn.resultTypes = #[tb]) (htb : P.underlying tb = some .bool)
    (hW : DataW.Whole enc P fn.params.toList s.vars apart W args.toList ds gs before)
    (hfn : s.fn H (ds ++ gs) = ⟨[.lit (.bool true)], ds, gs⟩) :
    Calls P f args W fun e W' => ∃ v, e = .returned v ∧ s.post enc P fn apart fresh handsOn false W args v W' := by
  cases h : c vs [] with
  | none => rw [h] at hc; cases hc
  | some x =>
    obtain ⟨r, os, ns⟩ := x
    rw [h] at hc
    have hr0 : r = .bool true := by simpa using hc
    subst hr0
    have := hc0 _ _ _ h
    subst this
    have hcall := hH vs [] _ _ _ h rfl (allF W) noMu W args.toList hG inv_allF hrel
    rw [Array.toArray_toList] at hcall
    refine hcall.mono fun e W' ⟨u, F', μ', he, hI, hx, hle, hru⟩ => ⟨u, he, ?_⟩
    have hu : u = .bool true := by simpa [rel] using hru
    subst hu
    refine post_kept hl hr hv hW ?_ (by rw [hfn]) (by rw [hfn]) hx
    intro b sp hd
    rw [hfn, hrt]
    refine ⟨[], [], ⟨1, by simp [DataW.trod, Value.cells, htb]⟩, rfl, rfl⟩

/-! ### tables of contracts -/
def addC (C : FuncId → Option Contract) (f : FuncId) (c : Contract) : FuncId → Option Contract := fun g => if g = f then some c else C g
def noC : FuncId → Option Contract := fun _ => none

theorem sound_noC : Sound P G noC := ⟨fun _ _ h => by simp [noC] at h⟩

theorem run_callFunc {f : FuncId} {fn : Func} (hf : P.funcs[f]? = some fn) (hb : (fn.body.isNone || fn.name == "runtime.NumGoroutine") = false) (args : Array Value) : (callFunc f args).run P w = .ok (.enter f args) w := by
  simp only [Bool.or_eq_false_iff] at hb
  simp only [callFunc, Sem.run_bind, run_program, Result.andThen_ok, hf, hb.1, hb.2, Bool.false_eq_true, if_false, Sem.run_pure]

theorem Holds.x {f : FuncId} {fn : Func} {c : Contract} (h : Holds P G f c) (hf : P.funcs[f]? = some fn) (hb : (fn.body.isNone || fn.name == "runtime.NumGoroutine") = false) : HoldsX P G f c :=
  fun args objs r os ns hc hl F μ w us hG hI hrel => .inl ⟨h args objs r os ns hc hl F μ w us hG hI hrel, run_callFunc hf hb _⟩

theorem Sound.addX {C : FuncId → Option Contract} {f : FuncId} {c : Contract} (hS : Sound P G C) (hh : HoldsX P G f c) : Sound P G (addC C f c) where
  holds := fun g c' h => by
    simp only [addC] at h
    split at h
    · rename_i he
      subst he
      cases h
      exact hh
    · exact hS.holds g c' h


theorem Sound.add {C : FuncId → Option Contract} {f : FuncId} {fn : Func} {c : Contract} (hS : Sound P G C) (hf : P.funcs[f]? = some fn) (hb : (fn.body.isNone || fn.name == "runtime.NumGoroutine") = false) (hh : Holds P G f c) : Sound P G (addC C f c) :=
  hS.addX (hh.x hf hb)

/-- A contract that says less. -/
theorem Holds.less {f : FuncId} {c c' : Contract} (h : Holds P G f c) (hl : ∀ args objs x, c' args objs = some x → c args objs = some x) : Holds P G f c' :=
  fun args objs r os ns hc => h args objs r os ns (hl _ _ _ hc)

/-- A contract that keeps what it was given: nothing comes back but what came in. -/
theorem run_os {fuel : Nat} {C : FuncId → Option Contract} {afn : AFn} {vs : List V} {r : V} {os ns : List Obj} (h : afn.run fuel C vs [] = some (r, os, ns)) : os = [] := by
  have hfin : ∀ s : St, afn.finish 0 s = some (r, os, ns) → os = [] := fun s h => by
    simp only [AFn.finish, backObjs] at h
    split at h
    · rename_i vs' os' _ ho
      cases ho
      generalize (if afn.keep = true then single vs' else (single vs').thinAll) = r' at h
      split at h
      · split at h
        · simp only [Option.some.injEq, Prod.mk.injEq, List.map_nil] at h
          exact h.2.1.symm
        · cases h
      · cases h
    · cases h
  unfold AFn.run at h
  split at h
  · split at h
    · exact hfin _ h
    · exact hfin _ h
    · cases h
  · cases h

/-- Numbers as they lie. -/
def ints (k : IntKind) (l : List Int) : List V := l.map (V.int k)
theorem frz_ints {k : IntKind} {g : Nat} : ∀ {l : List Int} {o : Nat}, (∀ i n, l[i]? = some n → W.cell? ⟨g, o + i, none⟩ = some (.int k n)) → frz (allF W) g o (ints k l)
  | [], _, _ => by simp [ints, frz]
  | n :: r, o, h => by
    simp only [ints, List.map_cons, frz]
    refine ⟨⟨_, allF_of rfl (h 0 n rfl) rfl, by simp [rel]⟩, ?_⟩
    exact frz_ints fun i m hm => by
      have := h (i + 1) m (by simpa using hm)
      rwa [show o + 1 + i = o + (i + 1) by omega]
end
end Go.Ev
