/-
  The evaluator, part H. The evaluator's looks at keys, where rows and maps are known to hold none: nothing of what they hold need be known. The evaluator along one path: what is not known is decided ahead, and what must hold for that is told.
-/
import Derived.Test.YtiiohfojejfolaaDoorEvG
set_option linter.unusedVariables false
set_option linter.unusedSimpArgs false
namespace Go.Ev
open Go

/-- What rows and maps hold. -/
def Obj.insides : Obj → List (List V)
  | .row cs => [cs]
  | .map es => [es.map Prod.fst, es.map Prod.snd]
  | _ => []
def insidesOf : List Obj → List (List V)
  | [] => []
  | o :: r => o.insides ++ insidesOf r
def stInsides : Store → List (List V)
  | [] => []
  | (k, o) :: r => o.insides ++ stInsides r
def keyless : List (List V) → Prop
  | [] => True
  | cs :: r => V.keyss cs = [] ∧ keyless r

theorem keyless_append : ∀ {a b : List (List V)}, keyless (a ++ b) ↔ keyless a ∧ keyless b
  | [], b => by simp [keyless]
  | c :: r, b => by simp only [List.cons_append, keyless, keyless_append, and_assoc]

theorem insidesOf_mem : ∀ {os : List Obj} {o : Obj}, keyless (insidesOf os) → o ∈ os → keyless o.insides
  | a :: r, o, h, hm => by
    simp only [insidesOf, keyless_append] at h
    rcases List.mem_cons.1 hm with rfl | hm
    · exact h.1
    · exact insidesOf_mem h.2 hm

theorem stInsides_get : ∀ {σ : Store} {k : Key} {o : Obj}, keyless (stInsides σ) → σ.get k = some o → keyless o.insides
  | [], k, o, h, hg => by simp [Store.get] at hg
  | (k', o') :: r, k, o, h, hg => by
    simp only [stInsides, keyless_append] at h
    simp only [Store.get] at hg
    split at hg
    · cases hg; exact h.1
    · exact stInsides_get h.2 hg

def Obj.keysQ : Obj → List Key
  | .cells cs => V.keyss cs
  | _ => []
def Obj.renQ (f : Key → Key) : Obj → Obj
  | .cells cs => .cells (V.rens f cs)
  | o => o
def Obj.onlyQ (p : Key → Bool) : Obj → Obj
  | .cells cs => .cells (V.onlys p cs)
  | o => o

mutual
theorem only_id_of_nokeys {p : Key → Bool} : ∀ (v : V), v.keys = [] → v.only p = v
  | .undef, _ => rfl
  | .bool _, _ => rfl
  | .int .., _ => rfl
  | .str _, _ => rfl
  | .nil, _ => rfl
  | .ptr .., h => by simp [V.keys] at h
  | .elem _, _ => rfl
  | .slc e xs own, h => by cases own <;> first | rfl | (simp [V.keys] at h)
  | .nilslc, _ => rfl
  | .view .., h => by simp [V.keys] at h
  | .rowv .., h => by simp [V.keys] at h
  | .rptr .., h => by simp [V.keys] at h
  | .map _, h => by simp [V.keys] at h
  | .nilmap, _ => rfl
  | .func fn a c, h => by
    simp only [V.keys, List.append_eq_nil_iff] at h
    simp only [V.only, onlys_id_of_nokeys a h.1, onlys_id_of_nokeys c h.2]
  | .nilfunc, _ => rfl
  | .iface t v, h => by simp only [V.keys] at h; simp only [V.only, only_id_of_nokeys v h]
  | .nilIface, _ => rfl
  | .agg cs, h => by simp only [V.keys] at h; simp only [V.only, onlys_id_of_nokeys cs h]
  | .tuple cs, h => by simp only [V.keys] at h; simp only [V.only, onlys_id_of_nokeys cs h]
theorem onlys_id_of_nokeys {p : Key → Bool} : ∀ (vs : List V), V.keyss vs = [] → V.onlys p vs = vs
  | [], _ => rfl
  | v :: r, h => by
    simp only [V.keyss, List.append_eq_nil_iff] at h
    simp only [V.onlys, only_id_of_nokeys v h.1, onlys_id_of_nokeys r h.2]
end

theorem mapKeys : ∀ {es : List (V × V)}, V.keyss (es.map Prod.fst) = [] → V.keyss (es.map Prod.snd) = [] → (es.flatMap fun (k, v) => k.keys ++ v.keys) = []
  | [], _, _ => rfl
  | (k, v) :: r, h1, h2 => by
    simp only [List.map_cons, V.keyss, List.append_eq_nil_iff] at h1 h2
    simp only [List.flatMap_cons, h1.1, h2.1, mapKeys h1.2 h2.2, List.append_nil]
theorem mapRen {f : Key → Key} : ∀ {es : List (V × V)}, V.keyss (es.map Prod.fst) = [] → V.keyss (es.map Prod.snd) = [] → (es.map fun (k, v) => (k.ren f, v.ren f)) = es
  | [], _, _ => rfl
  | (k, v) :: r, h1, h2 => by
    simp only [List.map_cons, V.keyss, List.append_eq_nil_iff] at h1 h2
    simp only [List.map_cons, ren_id_of_nokeys k h1.1, ren_id_of_nokeys v h2.1, mapRen h1.2 h2.2]
theorem mapOnly {p : Key → Bool} : ∀ {es : List (V × V)}, V.keyss (es.map Prod.snd) = [] → (es.map fun (k, v) => (k, v.only p)) = es
  | [], _ => rfl
  | (k, v) :: r, h2 => by
    simp only [List.map_cons, V.keyss, List.append_eq_nil_iff] at h2
    simp only [List.map_cons, only_id_of_nokeys v h2.1, mapOnly h2.2]

theorem keysQ_eq : ∀ {o : Obj}, keyless o.insides → o.keys = o.keysQ
  | .cells cs, _ => rfl
  | .map es, h => mapKeys h.1 h.2.1
  | .tok _, _ => rfl
  | .row cs, h => h.1
  | .froz _, _ => rfl
  | .dead, _ => rfl
theorem renQ_eq {f : Key → Key} : ∀ {o : Obj}, keyless o.insides → o.ren f = o.renQ f
  | .cells cs, _ => rfl
  | .map es, h => congrArg Obj.map (mapRen h.1 h.2.1)
  | .tok _, _ => rfl
  | .row cs, h => congrArg Obj.row (rens_id_of_nokeys cs h.1)
  | .froz _, _ => rfl
  | .dead, _ => rfl
theorem onlyQ_eq {p : Key → Bool} : ∀ {o : Obj}, keyless o.insides → o.only p = o.onlyQ p
  | .cells cs, _ => rfl
  | .map es, h => congrArg Obj.map (mapOnly h.2.1)
  | .tok _, _ => rfl
  | .row cs, h => congrArg Obj.row (onlys_id_of_nokeys cs h.1)
  | .froz _, _ => rfl
  | .dead, _ => rfl
theorem renQ_insides {f : Key → Key} : ∀ {o : Obj}, (o.renQ f).insides = o.insides
  | .cells _ | .map _ | .tok _ | .row _ | .froz _ | .dead => rfl
theorem onlyQ_insides {p : Key → Bool} : ∀ {o : Obj}, (o.onlyQ p).insides = o.insides
  | .cells _ | .map _ | .tok _ | .row _ | .froz _ | .dead => rfl

/-! ### what is reached -/
def reachQ : Nat → List Key → List (Key × Obj) → Act (List (Key × Obj))
  | _, [], acc => .ret acc
  | 0, _ :: _, _ => .fail
  | n + 1, k :: todo, acc =>
    if acc.any (fun p => p.1 = k) then reachQ n todo acc
    else .get k fun o => reachQ n (todo ++ o.keysQ) (acc ++ [(k, o)])

theorem reachQ_eq {σ : Store} (hσ : keyless (stInsides σ)) : ∀ (n : Nat) (todo : List Key) (acc : List (Key × Obj)) (l : List Key), (reach n todo acc).run σ l = (reachQ n todo acc).run σ l
  | n, [], acc, l => by cases n <;> rfl
  | 0, _ :: _, _, _ => rfl
  | n + 1, k :: todo, acc, l => by
    simp only [reach, reachQ]
    split
    · exact reachQ_eq hσ n todo acc l
    · simp only [Act.run]
      cases hk : σ.get k with
      | none => rfl
      | some o =>
        simp only
        rw [keysQ_eq (stInsides_get hσ hk)]
        exact reachQ_eq hσ n _ _ _

theorem reachQ_free {σ : Store} (hσ : keyless (stInsides σ)) : ∀ (n : Nat) (todo : List Key) (acc : List (Key × Obj)) (l : List Key) {objs : List (Key × Obj)} {l' : List Key}, (∀ p ∈ acc, keyless p.2.insides) →
    (reachQ n todo acc).run σ l = some (objs, l') → ∀ p ∈ objs, keyless p.2.insides
  | n, [], acc, l, objs, l', ha, h => by
    have : (reachQ n [] acc) = .ret acc := by cases n <;> rfl
    rw [this] at h
    simp only [Act.run, Option.some.injEq, Prod.mk.injEq] at h
    obtain ⟨rfl, _⟩ := h
    exact ha
  | 0, _ :: _, _, _, _, _, _, h => by simp [reachQ, Act.run] at h
  | n + 1, k :: todo, acc, l, objs, l', ha, h => by
    simp only [reachQ] at h
    split at h
    · exact reachQ_free hσ n todo acc l ha h
    · simp only [Act.run] at h
      cases hk : σ.get k with
      | none => rw [hk] at h; cases h
      | some o =>
        rw [hk] at h
        refine reachQ_free hσ n _ _ _ (fun p hp => ?_) h
        rcases List.mem_append.1 hp with hp | hp
        · exact ha p hp
        · simp only [List.mem_singleton] at hp
          subst hp
          exact stInsides_get hσ hk

/-! ### what is kept -/
def cleanStQ (p : Key → Bool) : Store → Store
  | [] => []
  | (k, o) :: r => if p k then (k, o.onlyQ p) :: cleanStQ p r else cleanStQ p r
def renStQ (f : Key → Key) : Store → Store
  | [] => []
  | (k, o) :: r => (f k, o.renQ f) :: renStQ f r
def cleanQ (slots keys : List Nat) (s : St) : St := ⟨cleanTm (keepKey keys) s.tm slots, cleanStQ (keepKey keys) s.st⟩
def cleanRQ (slots keys : List Nat) (rens : List (Nat × Nat)) (s : St) : St :=
  let p := keepLive keys s.st
  let s' : St := ⟨cleanTm p s.tm slots, cleanStQ p s.st⟩
  let f := reKey rens
  if (s'.st.map fun q => f q.1).Nodup then ⟨renTm f s'.tm, renStQ f s'.st⟩ else s'

theorem cleanStQ_eq {p : Key → Bool} : ∀ {σ : Store}, keyless (stInsides (cleanStQ p σ)) → cleanSt p σ = cleanStQ p σ
  | [], _ => rfl
  | (k, o) :: r, h => by
    simp only [cleanStQ, cleanSt] at h ⊢
    split
    · rename_i hk
      rw [if_pos hk] at h
      simp only [stInsides, keyless_append, onlyQ_insides] at h
      rw [onlyQ_eq h.1, cleanStQ_eq h.2]
    · rename_i hk
      rw [if_neg hk] at h
      exact cleanStQ_eq h
theorem renStQ_eq {f : Key → Key} : ∀ {σ : Store}, keyless (stInsides (renStQ f σ)) → renSt f σ = renStQ f σ
  | [], _ => rfl
  | (k, o) :: r, h => by
    simp only [renStQ, renSt] at h ⊢
    simp only [stInsides, keyless_append, renQ_insides] at h
    rw [renQ_eq h.1, renStQ_eq h.2]
theorem renStQ_insides {f : Key → Key} : ∀ {σ : Store}, stInsides (renStQ f σ) = stInsides σ
  | [] => rfl
  | (k, o) :: r => by simp only [renStQ, stInsides, renQ_insides, renStQ_insides]
theorem cleanQ_eq {slots keys : List Nat} {s : St} (h : keyless (stInsides (cleanQ slots keys s).st)) : clean slots keys s = cleanQ slots keys s := by
  unfold clean cleanQ
  rw [cleanStQ_eq h]
theorem cleanRQ_eq {slots keys : List Nat} {rens : List (Nat × Nat)} {s : St} (h : keyless (stInsides (cleanRQ slots keys rens s).st)) : cleanR slots keys rens s = cleanRQ slots keys rens s := by
  have h0 : keyless (stInsides (cleanStQ (keepLive keys s.st) s.st)) := by
    unfold cleanRQ at h
    simp only at h
    split at h
    · rwa [renStQ_insides] at h
    · exact h
  unfold cleanR cleanRQ
  simp only
  rw [cleanStQ_eq h0]
  split
  · rw [renStQ_eq (by rwa [renStQ_insides])]
  · rfl

/-! ### a function's answer -/
def objsKeysQ : List Obj → List Key
  | [] => []
  | o :: r => o.keysQ ++ objsKeysQ r
theorem objsKeysQ_eq : ∀ {os : List Obj}, (∀ o ∈ os, keyless o.insides) → objsKeys os = objsKeysQ os
  | [], _ => rfl
  | o :: r, h => by rw [objsKeys, objsKeysQ, keysQ_eq (h o (by simp)), objsKeysQ_eq (fun a ha => h a (by simp [ha]))]
theorem backObjs_free {σ : Store} (hσ : keyless (stInsides σ)) : ∀ (n i : Nat) {os : List Obj}, backObjs σ i n = some os → ∀ o ∈ os, keyless o.insides
  | 0, i, os, h => by simp only [backObjs, Option.some.injEq] at h; subst h; simp
  | n + 1, i, os, h => by
    simp only [backObjs] at h
    split at h
    · rename_i o r ho hr
      cases h
      intro a ha
      rcases List.mem_cons.1 ha with rfl | ha
      · exact stInsides_get hσ ho
      · exact backObjs_free hσ n (i + 1) hr a ha
    · cases h
def AFn.finishQ (fn : AFn) (n : Nat) (s : St) : Option (V × List Obj × List Obj) :=
  match readAll s fn.results, backObjs s.st 0 n with
  | some vs, some os =>
    let r := if fn.keep then single vs else (single vs).thinAll
    match (reachQ 64 (r.keys ++ objsKeysQ os) []).run s.st [] with
    | some (l, _) =>
      let ks := l.map (·.1)
      if (r.keys ++ objsKeysQ os).all ks.contains && l.all (fun p => p.2.keysQ.all ks.contains && p.1.below n) && decide ks.Nodup then
        let fresh := l.filter fun p => isLoc p.1
        let g := freshKey n (fresh.map (·.1))
        some (r.ren g, os.map (Obj.renQ g), fresh.map fun p => p.2.renQ g)
      else none
    | none => none
  | _, _ => none
theorem allCongr {α : Type} {f g : α → Bool} : ∀ {l : List α}, (∀ a ∈ l, f a = g a) → l.all f = l.all g
  | [], _ => rfl
  | a :: r, h => by rw [List.all_cons, List.all_cons, h a (List.mem_cons_self ..), allCongr (l := r) (fun b hb => h b (List.mem_cons_of_mem _ hb))]
theorem mapCongr {α β : Type} {f g : α → β} : ∀ {l : List α}, (∀ a ∈ l, f a = g a) → l.map f = l.map g
  | [], _ => rfl
  | a :: r, h => by rw [List.map_cons, List.map_cons, h a (List.mem_cons_self ..), mapCongr (l := r) (fun b hb => h b (List.mem_cons_of_mem _ hb))]
theorem finishQ_eq {fn : AFn} {n : Nat} {s : St} (hσ : keyless (stInsides s.st)) : fn.finish n s = fn.finishQ n s := by
  unfold AFn.finish AFn.finishQ
  cases h1 : readAll s fn.results with
  | none => simp only
  | some vs =>
    cases h2 : backObjs s.st 0 n with
    | none => simp only
    | some os =>
      simp only
      rw [objsKeysQ_eq (backObjs_free hσ n 0 h2), reachQ_eq hσ]
      generalize (if fn.keep = true then single vs else (single vs).thinAll) = r
      cases hr : (reachQ 64 (r.keys ++ objsKeysQ os) []).run s.st [] with
      | none => simp only
      | some x =>
        obtain ⟨l, l'⟩ := x
        have hf := reachQ_free hσ _ _ _ _ (by simp) hr
        simp only
        rw [allCongr (l := l) (f := fun p => p.2.keys.all (l.map (·.1)).contains && p.1.below n) (g := fun p => p.2.keysQ.all (l.map (·.1)).contains && p.1.below n) (fun p hp => by rw [keysQ_eq (hf p hp)])]
        split
        · simp only [Option.some.injEq, Prod.mk.injEq, true_and]
          exact ⟨mapCongr fun o ho => renQ_eq (backObjs_free hσ n 0 h2 o ho), mapCongr fun p hp => renQ_eq (hf p (List.mem_filter.1 hp).1)⟩
        · rfl

/-! ### a call -/
def callArgsQ (σ : Store) (args : List V) : Option (List V × List Obj) :=
  match (lends args).run σ [] with
  | some (args', l) => match (reachQ 64 (V.keyss args') []).run σ l with
    | some (objs, _) =>
      let ks := objs.map (·.1)
      some (V.rens (inKey ks) args', objs.map fun p => p.2.renQ (inKey ks))
    | none => none
  | none => none
def callAnsQ (d : Nat) (args : List V) (r : V) (os ns : List Obj) : Act Ans :=
  (lends args).bind fun args' =>
    (reachQ 64 (V.keyss args') []).bind fun objs =>
      let ks := objs.map (·.1)
      if (V.keyss args').all ks.contains && objs.all (fun p => p.2.keysQ.all ks.contains) && decide ks.Nodup then
        if os.length = ks.length then
          let g := outKey ks d
          news d 0 ns (.ret ⟨r.ren g, (ks.zip (os.map (Obj.renQ g))) ++ newObjs d 0 (ns.map (Obj.renQ g))⟩)
        else .fail
      else .fail
theorem callQ_eq {C : FuncId → Option Contract} {c : Contract} {σ : Store} {f : FuncId} {d : Nat} {args A : List V} {O os ns : List Obj} {r : V} {p : Ans × List Key} (hσ : keyless (stInsides σ)) (hn : keyless (insidesOf (os ++ ns)))
    (hv : args.any isView = false) (hA : callArgsQ σ args = some (A, O)) (hcf : C f = some c) (hc : c A O = some (r, os, ns)) (hrun : (callAnsQ d args r os ns).run σ [] = some p) : (callBy C d f args).run σ [] = some p := by
  unfold callArgsQ at hA
  unfold callAnsQ at hrun
  unfold callBy
  simp only [hcf]
  rw [bind_runF] at hrun ⊢
  split at hA
  · rename_i args' l hl
    rw [hl] at hrun ⊢
    simp only [hv, Bool.false_eq_true, if_false] at hrun ⊢
    rw [bind_runF] at hrun ⊢
    rw [reachQ_eq hσ]
    split at hA
    · rename_i objs l2 hr
      have hf := reachQ_free hσ _ _ _ _ (by simp) hr
      simp only [Option.some.injEq, Prod.mk.injEq] at hA
      obtain ⟨hA1, hA2⟩ := hA
      rw [hr] at hrun ⊢
      simp only at hrun ⊢
      rw [allCongr (l := objs) (f := fun p => p.2.keys.all (objs.map (·.1)).contains) (g := fun p => p.2.keysQ.all (objs.map (·.1)).contains) (fun p hp => by rw [keysQ_eq (hf p hp)])]
      split at hrun
      · rename_i hcond
        rw [if_pos hcond]
        rw [mapCongr (l := objs) (f := fun p => p.2.ren (inKey (objs.map (·.1)))) (g := fun p => p.2.renQ (inKey (objs.map (·.1)))) (fun p hp => renQ_eq (hf p hp)), hA1, hA2, hc]
        simp only
        rw [mapCongr (l := os) (g := Obj.renQ (outKey (objs.map (·.1)) d)) (fun o ho => renQ_eq (insidesOf_mem hn (by simp [ho]))), mapCongr (l := ns) (g := Obj.renQ (outKey (objs.map (·.1)) d)) (fun o ho => renQ_eq (insidesOf_mem hn (by simp [ho])))]
        exact hrun
      · simp [Act.run] at hrun
    · cases hA
  · cases hA
end Go.Ev

namespace Go.Ev
open Go

/-- What is decided ahead. -/
inductive Dec where
  /-- a branch -/
  | b (b : Bool)
  /-- a guard -/
  | g (b : Bool)
  /-- a choice -/
  | k (b : Bool)
  /-- what is appended has no elements -/
  | e (b : Bool)
  /-- two are equal -/
  | q (b : Bool)
  /-- an element -/
  | v (v : V)
  /-- a cut -/
  | cut (l h : Nat) (m : Option Nat)
  | call (r : V) (os ns : List Obj)
  /-- a call, where rows and maps hold no keys -/
  | callQ (r : V) (os ns : List Obj)
  /-- the end, where rows and maps hold no keys -/
  | fin
  /-- a shift by no less than nothing -/
  | sh
  /-- what an operation answers, and what it looked at -/
  | act (a : Ans) (rd : List Key)
  | loop (ex : Ex) (s : St)

def AllP : List Prop → Prop
  | [] => True
  | p :: r => p ∧ AllP r

theorem AllP_append : ∀ {a b : List Prop}, AllP (a ++ b) ↔ AllP a ∧ AllP b
  | [], b => by simp [AllP]
  | p :: r, b => by simp only [List.cons_append, AllP, AllP_append, and_assoc]

abbrev POut (α : Type) := Option (α × List Dec × List Prop)

def callIs (C : FuncId → Option Contract) (f : FuncId) (args : List V) (objs : List Obj) (r : V) (os ns : List Obj) : Prop :=
  match C f with
  | some c => c args objs = some (r, os, ns)
  | none => False

/-! what operations answer, told apart -/
def storeIs (size : Nat) (a x : V) (σ : Store) (r : Ans) (rd : List Key) : Prop := (storeA size a x).run σ [] = some (r, rd)
def loadIs (agg : Bool) (size : Nat) (a : V) (σ : Store) (r : Ans) (rd : List Key) : Prop := (loadA agg size a).run σ [] = some (r, rd)
def indexIs (esz : Nat) (x i : V) (σ : Store) (r : Ans) (rd : List Key) : Prop := (indexSA esz x i).run σ [] = some (r, rd)
def appendRA (esz bytes d : Nat) (s x : V) : Act Ans := (cellsR esz x).bind fun p => appendRow esz bytes d s p.1 p.2
def appendIs (esz bytes d : Nat) (s x : V) (σ : Store) (r : Ans) (rd : List Key) : Prop := (appendRA esz bytes d s x).run σ [] = some (r, rd)
def appendZA (d : Nat) (s n : V) : Act Ans := match n with
  | .int .i64 l => if 0 ≤ l ∧ l ≤ 1099511627776 then appendTo 1 1 d s (List.replicate l.toNat (.int .u8 0)) else .fail
  | _ => .fail
def appendZIs (d : Nat) (s n : V) (σ : Store) (r : Ans) (rd : List Key) : Prop := (appendZA d s n).run σ [] = some (r, rd)
def callRIs (C : FuncId → Option Contract) (d : Nat) (f : FuncId) (args : List V) (σ : Store) (r : Ans) (rd : List Key) : Prop := (callRows C d f args).run σ [] = some (r, rd)

/-- What a call is handed. -/
def callArgs (σ : Store) (args : List V) : Option (List V × List Obj) :=
  match (lends args).run σ [] with
  | some (args', l) => match (reach 64 (V.keyss args') []).run σ l with
    | some (objs, _) =>
      let ks := objs.map (·.1)
      some (V.rens (inKey ks) args', objs.map fun p => p.2.ren (inKey ks))
    | none => none
  | none => none

def hard (C : FuncId → Option Contract) (d : Nat) (ρ : AOpd → V) (σ : Store) (op : AOp) (ds : List Dec) : POut (Ans × List Key) :=
  match (act C d ρ op).run σ [] with
  | some p => some (p, ds, [])
  | none => none

def callP (C : FuncId → Option Contract) (d : Nat) (σ : Store) (f : FuncId) (args : List V) (r : V) (os ns : List Obj) (ds : List Dec) : POut (Ans × List Key) :=
  if args.any isView then none else
  match callArgs σ args, (callBy (fun _ => some fun _ _ => some (r, os, ns)) d f args).run σ [] with
  | some (A, O), some p => some (p, ds, [callIs C f A O r os ns])
  | _, _ => none

def callPQ (C : FuncId → Option Contract) (d : Nat) (σ : Store) (f : FuncId) (args : List V) (r : V) (os ns : List Obj) (ds : List Dec) : POut (Ans × List Key) :=
  if args.any isView then none else
  match callArgsQ σ args, (callAnsQ d args r os ns).run σ [] with
  | some (A, O), some p => some (p, ds, callIs C f A O r os ns :: [keyless (stInsides σ ++ insidesOf (os ++ ns))])
  | _, _ => none

def appendP (esz bytes d : Nat) (σ : Store) (s : V) (ys : List V) (rd : List Key) (emp : Bool) (ds : List Dec) : POut (Ans × List Key) :=
  match s with
  | .slc e xs own =>
    if e = esz then
      let ps : List Prop := [(xs.length + ys.length) * bytes ≤ 1099511627776, xs.length + ys.length ≤ 1099511627776, ys.isEmpty = emp]
      match emp with
      | true => some ((⟨.slc e xs own, []⟩, rd), ds, ps)
      | false => match own with
        | .tight => match σ.get (.loc d 0) with
          | none => some ((⟨.slc e (xs ++ ys) (.tok (.loc d 0) 0), [(.loc d 0, .tok (xs.length + ys.length))]⟩, .loc d 0 :: rd), ds, ps)
          | some _ => none
        | .tok k start => match σ.get k with
          | some (.tok n) => some ((⟨.slc e (xs ++ ys) (.tok k start), [(k, .tok (n + ys.length))]⟩, k :: rd), ds, ps ++ [n = start + xs.length])
          | _ => none
        | _ => none
    else none
  | _ => none

def actP (C : FuncId → Option Contract) (d : Nat) (ρ : AOpd → V) (σ : Store) (op : AOp) (ds : List Dec) : POut (Ans × List Key) :=
  match op with
  | .append esz bytes s x => match ds with
    | .e emp :: ds' => match (source esz (ρ x)).run σ [] with
      | some (ys, rd) => appendP esz bytes d σ (ρ s) ys rd emp ds'
      | none => none
    | ds => hard C d ρ σ (.append esz bytes s x) ds
  | .indexS esz x i => match ρ x, ρ i, ds with
    | .slc e xs own, .int k n, .v v :: ds' => if e = esz then some ((⟨.elem v.cellsOf, []⟩, []), ds', [0 ≤ n ∧ xs[n.toNat]? = some v]) else none
    | .rowv k e off len, .int ki n, .act r rd :: ds' => some ((r, rd), ds', [indexIs esz (.rowv k e off len) (.int ki n) σ r rd])
    | _, _, ds => hard C d ρ σ (.indexS esz x i) ds
  | .sliceS esz x lo hi mx => match ρ x, ds with
    | .slc e xs own, .cut l h m :: ds' => if e = esz then
        some ((⟨.slc e ((xs.drop l).take (h - l)) (match m with
          | none => if h = xs.length then (match own with | .tok k s => .tok k (s + l) | .nn => .none | o => o) else .none
          | some m => if m = h then .tight else .none), []⟩, []), ds', [cut xs.length (lo.map ρ) (hi.map ρ) (mx.map ρ) = some (l, h, m)]) else none
    | _, ds => hard C d ρ σ (.sliceS esz x lo hi mx) ds
  | .eqAgg n neg x y => match ρ x, ρ y, ds with
    | .agg xs, .agg ys, .q r :: ds' => some ((⟨.bool (if neg then !r else r), []⟩, []), ds', [xs.length = n, ys.length = n, eqCells xs ys = some r])
    | _, _, ds => hard C d ρ σ (.eqAgg n neg x y) ds
  | .pick c a b => match ρ c, ds with
    | .bool x, .k r :: ds' => some ((⟨match r with | true => ρ a | false => ρ b, []⟩, []), ds', [x = r])
    | _, ds => hard C d ρ σ (.pick c a b) ds
  | .call f args => match ds with
    | .call r os ns :: ds' => callP C d σ f (args.map ρ) r os ns ds'
    | .callQ r os ns :: ds' => callPQ C d σ f (args.map ρ) r os ns ds'
    | ds => hard C d ρ σ (.call f args) ds
  | .bin tk o x y => match tk, o, ρ x, ρ y, ds with
    | .num, .shr, .int k a, .int _ b, .sh :: ds' => some ((⟨.int k (a.fdiv (2 ^ (Nat.min b.toNat k.bits))), []⟩, []), ds', [0 ≤ b])
    | _, _, _, _, ds => hard C d ρ σ (.bin tk o x y) ds
  | .callv f args => match ρ f, ds with
    | .func (.func g) first captured, .call r os ns :: ds' => callP C d σ g (first ++ args.map ρ ++ captured) r os ns ds'
    | _, ds => hard C d ρ σ (.callv f args) ds
  | .store size a x => match ρ a, ds with
    | .rptr k off, .act r rd :: ds' => some ((r, rd), ds', [storeIs size (.rptr k off) (ρ x) σ r rd])
    | _, ds => hard C d ρ σ (.store size a x) ds
  | .load agg size a => match ρ a, ds with
    | .rptr k off, .act r rd :: ds' => some ((r, rd), ds', [loadIs agg size (.rptr k off) σ r rd])
    | _, ds => hard C d ρ σ (.load agg size a) ds
  | .appendR esz bytes s x => match ds with
    | .act r rd :: ds' => some ((r, rd), ds', [appendIs esz bytes d (ρ s) (ρ x) σ r rd])
    | ds => hard C d ρ σ (.appendR esz bytes s x) ds
  | .appendZ s n => match ds with
    | .act r rd :: ds' => some ((r, rd), ds', [appendZIs d (ρ s) (ρ n) σ r rd])
    | ds => hard C d ρ σ (.appendZ s n) ds
  | .callR f args => match ds with
    | .act r rd :: ds' => some ((r, rd), ds', [callRIs C d f (args.map ρ) σ r rd])
    | ds => hard C d ρ σ (.callR f args) ds
  | op => hard C d ρ σ op ds

def goP (C : FuncId → Option Contract) (s : St) (o : AOper) (ds : List Dec) : POut (St × List Key × List Key) :=
  match actP C (o.dst.getD noSlot) (AOpd.ev s.tm) s.st o.op ds with
  | some ((a, rd), ds, ps) => some ((⟨o.put s.tm a.v, s.st.puts a.up⟩, rd, a.up.map (·.1)), ds, ps)
  | none => none

def stepP (C : FuncId → Option Contract) (s : St) (o : AOper) (ds : List Dec) : POut (St × List Key × List Key) :=
  match o.guard with
  | none => goP C s o ds
  | some (g, want) => match s.tm.at g, ds with
    | .bool b, .g r :: ds' =>
      if r = want then (match goP C s o ds' with
        | some (x, ds, ps) => some (x, ds, (b = r) :: ps)
        | none => none) else some ((⟨o.put s.tm (.tuple []), s.st⟩, [], []), ds', [b = r])
    | .bool b, ds => if b = want then goP C s o ds else some ((⟨o.put s.tm (.tuple []), s.st⟩, [], []), ds, [])
    | .tuple [], ds => some ((⟨o.put s.tm (.tuple []), s.st⟩, [], []), ds, [])
    | _, _ => none

def opsP (C : FuncId → Option Contract) : St → List AOper → List Dec → List Prop → POut St
  | s, [], ds, ps => some (s, ds, ps)
  | s, o :: r, ds, ps => match stepP C s o ds with
    | some ((s, _, _), ds, qs) => opsP C s r ds (ps ++ qs)
    | none => none

def logP (C : FuncId → Option Contract) : St → List AOper → List (List Key × List Key) → List Dec → List Prop → POut (St × List (List Key × List Key))
  | s, [], l, ds, ps => some ((s, l.reverse), ds, ps)
  | s, o :: r, l, ds, ps => match stepP C s o ds with
    | some ((s, rd, wr), ds, qs) => logP C s r ((rd, wr) :: l) ds (ps ++ qs)
    | none => none

def evalP (C : FuncId → Option Contract) (fuel : Nat) : ACode → St → List Dec → List Prop → POut (Ex × St)
  | .skip, s, ds, ps => some ((.normal, s), ds, ps)
  | .region ops, s, ds, ps => match opsP C s ops ds ps with
    | some (s, ds, ps) => some ((.normal, s), ds, ps)
    | none => none
  | .drawn ops free, s, ds, ps => match logP C s ops [] ds ps with
    | some ((s, logs), ds, ps) => if okPairs logs free then some ((.normal, s), ds, ps) else none
    | none => none
  | .seq a b, s, ds, ps => match evalP C fuel a s ds ps with
    | some ((.normal, s), ds, ps) => evalP C fuel b s ds ps
    | r => r
  | .cond c a b, s, ds, ps => match c.ev s.tm, ds with
    | .bool x, .b true :: ds' => evalP C fuel a s ds' (ps ++ [x = true])
    | .bool x, .b false :: ds' => evalP C fuel b s ds' (ps ++ [x = false])
    | .bool true, ds => evalP C fuel a s ds ps
    | .bool false, ds => evalP C fuel b s ds ps
    | _, _ => none
  | .block id b, s, ds, ps => match evalP C fuel b s ds ps with
    | some ((.exit j, s), ds, ps) => if j = id then some ((.normal, s), ds, ps) else some ((.exit j, s), ds, ps)
    | r => r
  | .loop slots keys b, s, ds, ps => match ds with
    | .loop ex s' :: ds' => some ((ex, s'), ds', ps ++ [evalCode C fuel (.loop slots keys b) s = some (ex, s')])
    | ds => match evalCode C fuel (.loop slots keys b) s with
      | some r => some (r, ds, ps)
      | none => none
  | .loopR slots keys rens b, s, ds, ps => match ds with
    | .loop ex s' :: ds' => some ((ex, s'), ds', ps ++ [evalCode C fuel (.loopR slots keys rens b) s = some (ex, s')])
    | ds => match evalCode C fuel (.loopR slots keys rens b) s with
      | some r => some (r, ds, ps)
      | none => none
  | .exit id, s, ds, ps => some ((.exit id, s), ds, ps)
  | .ret, s, ds, ps => some ((.ret, s), ds, ps)

/-- A function, along one path. -/
def AFn.runP (fuel : Nat) (C : FuncId → Option Contract) (fn : AFn) (args : List V) (objs : List Obj) (ds : List Dec) : Option ((V × List Obj × List Obj) × List Prop) :=
  if args.length = fn.nparams then
    match evalP C fuel fn.code ⟨argTm 0 args, argObjs 0 objs⟩ ds [] with
    | some ((.normal, s), [], ps) => (fn.finish objs.length s).map fun r => (r, ps)
    | some ((.ret, s), [], ps) => (fn.finish objs.length s).map fun r => (r, ps)
    | some ((.normal, s), [.fin], ps) => (fn.finishQ objs.length s).map fun r => (r, ps ++ [keyless (stInsides s.st)])
    | some ((.ret, s), [.fin], ps) => (fn.finishQ objs.length s).map fun r => (r, ps ++ [keyless (stInsides s.st)])
    | _ => none
  else none

/-- A loop's round, along one path: the state as the next head has it. -/
def bodyP (C : FuncId → Option Contract) (fuel : Nat) (cl : St → St) (code : ACode) (s : St) (ds : List Dec) : Option (St × List Prop) :=
  match evalP C fuel code s ds [] with
  | some ((.normal, s), [], ps) => some (cl s, ps)
  | _ => none

def exitP (C : FuncId → Option Contract) (fuel : Nat) (code : ACode) (s : St) (ds : List Dec) : Option ((Ex × St) × List Prop) :=
  match evalP C fuel code s ds [] with
  | some (r, [], ps) => some (r, ps)
  | _ => none

/-! ### a path is a run -/
section
variable {C : FuncId → Option Contract}

theorem hard_sound {d : Nat} {ρ : AOpd → V} {σ : Store} {op : AOp} {ds ds' : List Dec} {p : Ans × List Key} {ps : List Prop} (h : hard C d ρ σ op ds = some (p, ds', ps)) : (act C d ρ op).run σ [] = some p := by
  unfold hard at h
  split at h
  · rename_i p' hp; cases h; exact hp
  · cases h

theorem callP_sound {d : Nat} {σ : Store} {f : FuncId} {args : List V} {r : V} {os ns : List Obj} {ds ds' : List Dec} {p : Ans × List Key} {ps : List Prop} (h : callP C d σ f args r os ns ds = some (p, ds', ps)) (hp : AllP ps) :
    (callBy C d f args).run σ [] = some p := by
  unfold callP at h
  split at h
  · cases h
  rename_i hv
  split at h
  · rename_i A O p' hA hrun
    cases h
    have hc := hp.1
    unfold callIs at hc
    split at hc
    · rename_i c hcf
      unfold callArgs at hA
      unfold callBy at hrun ⊢
      simp only [hcf]
      simp only at hrun
      rw [bind_runF] at hrun ⊢
      split at hA
      · rename_i args' l hl
        rw [hl] at hrun ⊢
        have hv' : (args.any isView) = false := by simpa using hv
        simp only [hv', Bool.false_eq_true, if_false] at hrun ⊢
        rw [bind_runF] at hrun ⊢
        split at hA
        · rename_i objs l2 hr
          cases hA
          rw [hr] at hrun ⊢
          simp only at hrun ⊢
          split at hrun
          · rename_i hcond
            rw [if_pos hcond]
            rw [hc]
            exact hrun
          · simp [Act.run] at hrun
        · cases hA
      · cases hA
    · exact hc.elim
  · cases h

theorem callPQ_sound {d : Nat} {σ : Store} {f : FuncId} {args : List V} {r : V} {os ns : List Obj} {ds ds' : List Dec} {p : Ans × List Key} {ps : List Prop} (h : callPQ C d σ f args r os ns ds = some (p, ds', ps)) (hp : AllP ps) :
    (callBy C d f args).run σ [] = some p := by
  unfold callPQ at h
  split at h
  · cases h
  rename_i hv
  split at h
  · rename_i A O p' hA hrun
    cases h
    have hc := hp.1
    obtain ⟨h1, h2⟩ := keyless_append.1 hp.2.1
    unfold callIs at hc
    split at hc
    · rename_i c hcf
      exact callQ_eq h1 h2 (by simpa using hv) hA hcf hc hrun
    · exact hc.elim
  · cases h

theorem appendP_sound {esz bytes d : Nat} {σ : Store} {s : V} {ys : List V} {rd l0 : List Key} {emp : Bool} {ds ds' : List Dec} {p : Ans × List Key} {ps : List Prop} (h : appendP esz bytes d σ s ys rd emp ds = some (p, ds', ps)) (hp : AllP ps) :
    (appendTo esz bytes d s ys).run σ rd = some p := by
  unfold appendP at h
  split at h
  · rename_i e xs own
    split at h
    · rename_i he
      subst he
      simp only at h
      have key : ∀ {ps'}, AllP ([(xs.length + ys.length) * bytes ≤ 1099511627776, xs.length + ys.length ≤ 1099511627776, ys.isEmpty = emp] ++ ps') → (xs.length + ys.length) * bytes ≤ 1099511627776 ∧ xs.length + ys.length ≤ 1099511627776 ∧ ys.isEmpty = emp := fun h => ⟨h.1, h.2.1, h.2.2.1⟩
      simp only [appendTo]
      split at h
      · cases h
        obtain ⟨h1, h2, h3⟩ := key (ps' := []) (by simpa using hp)
        rw [if_pos ⟨trivial, h1, h2⟩, if_pos h3]
        rfl
      · split at h
        · split at h
          · rename_i hk
            cases h
            obtain ⟨h1, h2, h3⟩ := key (ps' := []) (by simpa using hp)
            rw [if_pos ⟨trivial, h1, h2⟩, if_neg (by simp [h3])]
            simp only [Act.run, hk]
          · cases h
        · split at h
          · rename_i n hk
            cases h
            obtain ⟨h1, h2, h3⟩ := key hp
            have h4 := (AllP_append.1 hp).2.1
            rw [if_pos ⟨trivial, h1, h2⟩, if_neg (by simp [h3])]
            simp only [Act.run, hk, h4, if_true]
          · cases h
        · cases h
    · cases h
  · cases h

theorem actP_sound {d : Nat} {ρ : AOpd → V} {σ : Store} {op : AOp} {ds ds' : List Dec} {p : Ans × List Key} {ps : List Prop} (h : actP C d ρ σ op ds = some (p, ds', ps)) (hp : AllP ps) : (act C d ρ op).run σ [] = some p := by
  unfold actP at h
  split at h
  · split at h
    · split at h
      · rename_i ys rd hs
        simp only [act]
        rw [bind_runF, hs]
        exact appendP_sound (l0 := []) h hp
      · cases h
    · exact hard_sound h
  · split at h
    · rename_i e xs own k n v ds0 h1 h2
      split at h
      · rename_i he
        cases h
        obtain ⟨g1, g2⟩ := hp.1
        simp only [act, h1, h2]
        rw [if_pos ⟨he, g1⟩, g2]
        rfl
      · cases h
    · rename_i k e off len ki n r rd ds0 h1 h2
      cases h
      have g := hp.1
      unfold indexIs at g
      rw [← actF_eq]
      simp only [actF, h1, h2]
      exact g
    · exact hard_sound h
  · split at h
    · rename_i e xs own l hh m ds0 h1
      split at h
      · rename_i he
        cases h
        have g := hp.1
        simp only [act, h1]
        rw [if_neg (by simpa using he), g]
        cases m <;> rfl
      · cases h
    · exact hard_sound h
  · split at h
    · rename_i xs ys r ds0 h1 h2
      cases h
      obtain ⟨g1, g2, g3, _⟩ := hp
      simp only [act, h1, h2]
      rw [if_pos ⟨g1, g2⟩, g3]
      rfl
    · exact hard_sound h
  · split at h
    · rename_i x r ds0 h1
      cases h
      have g := hp.1
      subst g
      simp only [act, h1]
      cases x <;> rfl
    · exact hard_sound h
  · split at h
    · simp only [act]
      exact callP_sound h hp
    · simp only [act]
      exact callPQ_sound h hp
    · exact hard_sound h
  · split at h
    · rename_i h1 h2
      cases h
      have g : ¬ _ < (0 : Int) := Int.not_lt.2 hp.1
      simp only [act, h1, h2, binV, isShift, if_true, shiftOp, if_neg g]
      rfl
    · exact hard_sound h
  · split at h
    · rename_i h1
      simp only [act, h1]
      exact callP_sound h hp
    · exact hard_sound h
  · split at h
    · rename_i h1
      cases h
      have g := hp.1
      rw [← actF_eq]
      simp only [actF, h1]
      exact g
    · exact hard_sound h
  · split at h
    · rename_i h1
      cases h
      have g := hp.1
      rw [← actF_eq]
      simp only [actF, h1]
      exact g
    · exact hard_sound h
  · split at h
    · cases h
      exact hp.1
    · exact hard_sound h
  · split at h
    · cases h
      exact hp.1
    · exact hard_sound h
  · split at h
    · cases h
      exact hp.1
    · exact hard_sound h
  · exact hard_sound h

theorem goP_sound {s : St} {o : AOper} {ds ds' : List Dec} {x : St × List Key × List Key} {ps : List Prop} (h : goP C s o ds = some (x, ds', ps)) (hp : AllP ps) :
    (match (act C (o.dst.getD noSlot) (AOpd.ev s.tm) o.op).run s.st [] with
    | some (a, rd) => some ((⟨o.put s.tm a.v, s.st.puts a.up⟩ : St), rd, a.up.map (·.1))
    | none => none) = some x := by
  unfold goP at h
  split at h
  · rename_i a rd ds1 ps1 ha
    cases h
    rw [actP_sound ha hp]
  · cases h

theorem stepP_sound {s : St} {o : AOper} {ds ds' : List Dec} {x : St × List Key × List Key} {ps : List Prop} (h : stepP C s o ds = some (x, ds', ps)) (hp : AllP ps) : step C s o = some x := by
  rw [step_eq]
  unfold stepP at h
  unfold stepA
  cases hg : o.guard with
  | none =>
    rw [hg] at h
    exact goP_sound h hp
  | some gw =>
    obtain ⟨g, want⟩ := gw
    rw [hg] at h
    simp only at h ⊢
    split at h
    · rename_i b r ds0 hb
      rw [hb]
      simp only
      split at h
      · rename_i hr
        split at h
        · rename_i x1 ds1 ps1 hgo
          cases h
          obtain ⟨h1, h2⟩ := hp
          rw [if_pos (h1.trans hr)]
          exact goP_sound hgo h2
        · cases h
      · rename_i hr
        cases h
        have h1 := hp.1
        rw [if_neg (by rw [h1]; exact hr)]
    · rename_i b _ hb _
      rw [hb]
      simp only
      split at h
      · rename_i hr
        rw [if_pos hr]
        exact goP_sound h hp
      · rename_i hr
        cases h
        rw [if_neg hr]
    · rename_i hb
      rw [hb]
      cases h
      rfl
    · cases h

theorem opsP_sound : ∀ {ops : List AOper} {s t : St} {ds ds' : List Dec} {ps qs : List Prop}, opsP C s ops ds ps = some (t, ds', qs) → AllP qs → runOps C s ops = some t ∧ AllP ps
  | [], s, t, ds, ds', ps, qs, h, hp => by
    simp only [opsP, Option.some.injEq, Prod.mk.injEq] at h
    obtain ⟨rfl, rfl, rfl⟩ := h
    exact ⟨rfl, hp⟩
  | o :: r, s, t, ds, ds', ps, qs, h, hp => by
    simp only [opsP] at h
    split at h
    · rename_i s1 rd wr ds1 qs1 hs
      obtain ⟨h1, h2⟩ := opsP_sound h hp
      obtain ⟨g1, g2⟩ := AllP_append.1 h2
      simp only [runOps, stepP_sound hs g2]
      exact ⟨h1, g1⟩
    · cases h

theorem logP_sound : ∀ {ops : List AOper} {s : St} {l : List (List Key × List Key)} {t : St × List (List Key × List Key)} {ds ds' : List Dec} {ps qs : List Prop}, logP C s ops l ds ps = some (t, ds', qs) → AllP qs → runLog C s ops l = some t ∧ AllP ps
  | [], s, l, t, ds, ds', ps, qs, h, hp => by
    simp only [logP, Option.some.injEq, Prod.mk.injEq] at h
    obtain ⟨rfl, rfl, rfl⟩ := h
    exact ⟨rfl, hp⟩
  | o :: r, s, l, t, ds, ds', ps, qs, h, hp => by
    simp only [logP] at h
    split at h
    · rename_i s1 rd wr ds1 qs1 hs
      obtain ⟨h1, h2⟩ := logP_sound h hp
      obtain ⟨g1, g2⟩ := AllP_append.1 h2
      simp only [runLog, stepP_sound hs g2]
      exact ⟨h1, g1⟩
    · cases h

theorem evalP_sound {fuel : Nat} : ∀ {code : ACode} {s : St} {r : Ex × St} {ds ds' : List Dec} {ps qs : List Prop}, evalP C fuel code s ds ps = some (r, ds', qs) → AllP qs → evalCode C fuel code s = some r ∧ AllP ps
  | .skip, s, r, ds, ds', ps, qs, h, hp => by
    simp only [evalP, Option.some.injEq, Prod.mk.injEq] at h
    obtain ⟨rfl, rfl, rfl⟩ := h
    exact ⟨rfl, hp⟩
  | .region ops, s, r, ds, ds', ps, qs, h, hp => by
    simp only [evalP] at h
    split at h
    · rename_i s1 ds1 ps1 ho
      cases h
      obtain ⟨h1, h2⟩ := opsP_sound ho hp
      exact ⟨by simp only [evalCode, h1], h2⟩
    · cases h
  | .drawn ops free, s, r, ds, ds', ps, qs, h, hp => by
    simp only [evalP] at h
    split at h
    · rename_i s1 logs ds1 ps1 ho
      split at h
      · rename_i hk
        cases h
        obtain ⟨h1, h2⟩ := logP_sound ho hp
        exact ⟨by simp only [evalCode, h1, hk, if_true], h2⟩
      · cases h
    · cases h
  | .seq a b, s, r, ds, ds', ps, qs, h, hp => by
    simp only [evalP] at h
    split at h
    · rename_i s1 ds1 ps1 ha
      obtain ⟨h1, h2⟩ := evalP_sound h hp
      obtain ⟨h3, h4⟩ := evalP_sound ha h2
      exact ⟨by simp only [evalCode, h3, h1], h4⟩
    · rename_i hn
      obtain ⟨h3, h4⟩ := evalP_sound h hp
      refine ⟨?_, h4⟩
      obtain ⟨ex, s1⟩ := r
      cases ex with
      | normal => exact absurd h (hn s1 ds' qs)
      | exit id => simp only [evalCode, h3]
      | ret => simp only [evalCode, h3]
  | .cond c a b, s, r, ds, ds', ps, qs, h, hp => by
    simp only [evalP] at h
    split at h
    · rename_i x ds1 hx
      obtain ⟨h1, h2⟩ := evalP_sound h hp
      obtain ⟨g1, g2⟩ := AllP_append.1 h2
      have g := g2.1
      subst g
      exact ⟨by simp only [evalCode, hx, h1], g1⟩
    · rename_i x ds1 hx
      obtain ⟨h1, h2⟩ := evalP_sound h hp
      obtain ⟨g1, g2⟩ := AllP_append.1 h2
      have g := g2.1
      subst g
      exact ⟨by simp only [evalCode, hx, h1], g1⟩
    · rename_i hx _ _
      obtain ⟨h1, h2⟩ := evalP_sound h hp
      exact ⟨by simp only [evalCode, hx, h1], h2⟩
    · rename_i hx _ _
      obtain ⟨h1, h2⟩ := evalP_sound h hp
      exact ⟨by simp only [evalCode, hx, h1], h2⟩
    · cases h
  | .block id b, s, r, ds, ds', ps, qs, h, hp => by
    simp only [evalP] at h
    split at h
    · rename_i j s1 ds1 ps1 hb
      split at h
      · rename_i hj
        cases h
        obtain ⟨h1, h2⟩ := evalP_sound hb hp
        exact ⟨by simp only [evalCode, h1, hj, if_true], h2⟩
      · rename_i hj
        cases h
        obtain ⟨h1, h2⟩ := evalP_sound hb hp
        exact ⟨by simp only [evalCode, h1, hj, if_false], h2⟩
    · rename_i hn
      obtain ⟨h3, h4⟩ := evalP_sound h hp
      refine ⟨?_, h4⟩
      obtain ⟨ex, s1⟩ := r
      cases ex with
      | normal => simp only [evalCode, h3]
      | exit id => exact absurd h (hn id s1 ds' qs)
      | ret => simp only [evalCode, h3]
  | .loop slots keys b, s, r, ds, ds', ps, qs, h, hp => by
    simp only [evalP] at h
    split at h
    · cases h
      obtain ⟨g1, g2⟩ := AllP_append.1 hp
      exact ⟨g2.1, g1⟩
    · split at h
      · rename_i r1 hr
        cases h
        exact ⟨hr, hp⟩
      · cases h
  | .loopR slots keys rens b, s, r, ds, ds', ps, qs, h, hp => by
    simp only [evalP] at h
    split at h
    · cases h
      obtain ⟨g1, g2⟩ := AllP_append.1 hp
      exact ⟨g2.1, g1⟩
    · split at h
      · rename_i r1 hr
        cases h
        exact ⟨hr, hp⟩
      · cases h
  | .exit id, s, r, ds, ds', ps, qs, h, hp => by
    simp only [evalP, Option.some.injEq, Prod.mk.injEq] at h
    obtain ⟨rfl, rfl, rfl⟩ := h
    exact ⟨rfl, hp⟩
  | .ret, s, r, ds, ds', ps, qs, h, hp => by
    simp only [evalP, Option.some.injEq, Prod.mk.injEq] at h
    obtain ⟨rfl, rfl, rfl⟩ := h
    exact ⟨rfl, hp⟩

theorem runP_sound {fuel : Nat} {fn : AFn} {args : List V} {objs : List Obj} {ds : List Dec} {r : V × List Obj × List Obj} {ps : List Prop} (h : fn.runP fuel C args objs ds = some (r, ps)) (hp : AllP ps) : fn.run fuel C args objs = some r := by
  unfold AFn.runP at h
  unfold AFn.run
  split at h
  · rename_i hl
    rw [if_pos hl]
    split at h
    · rename_i s ps1 he
      simp only [Option.map_eq_some_iff, Prod.mk.injEq] at h
      obtain ⟨r1, hf, rfl, rfl⟩ := h
      rw [(evalP_sound he hp).1]
      exact hf
    · rename_i s ps1 he
      simp only [Option.map_eq_some_iff, Prod.mk.injEq] at h
      obtain ⟨r1, hf, rfl, rfl⟩ := h
      rw [(evalP_sound he hp).1]
      exact hf
    · rename_i s ps1 he
      simp only [Option.map_eq_some_iff, Prod.mk.injEq] at h
      obtain ⟨r1, hf, rfl, rfl⟩ := h
      obtain ⟨hp1, hp2⟩ := AllP_append.1 hp
      rw [(evalP_sound he hp1).1]
      exact (finishQ_eq hp2.1).trans hf
    · rename_i s ps1 he
      simp only [Option.map_eq_some_iff, Prod.mk.injEq] at h
      obtain ⟨r1, hf, rfl, rfl⟩ := h
      obtain ⟨hp1, hp2⟩ := AllP_append.1 hp
      rw [(evalP_sound he hp1).1]
      exact (finishQ_eq hp2.1).trans hf
    · cases h
  · cases h

theorem bodyP_sound {fuel : Nat} {cl : St → St} {code : ACode} {s t : St} {ds : List Dec} {ps : List Prop} (h : bodyP C fuel cl code s ds = some (t, ps)) (hp : AllP ps) : ∃ s', evalCode C fuel code s = some (.normal, s') ∧ cl s' = t := by
  unfold bodyP at h
  split at h
  · rename_i s1 ps1 he
    cases h
    exact ⟨s1, (evalP_sound he hp).1, rfl⟩
  · cases h

theorem bodyQ_sound {fuel : Nat} {slots keys : List Nat} {rens : List (Nat × Nat)} {code : ACode} {s t : St} {ds : List Dec} {ps : List Prop} (h : bodyP C fuel (cleanRQ slots keys rens) code s ds = some (t, ps)) (hp : AllP ps) (hk : keyless (stInsides t.st)) : ∃ s', evalCode C fuel code s = some (.normal, s') ∧ cleanR slots keys rens s' = t := by
  obtain ⟨s', h1, h2⟩ := bodyP_sound h hp
  exact ⟨s', h1, by rw [cleanRQ_eq (by rw [h2]; exact hk), h2]⟩
theorem bodyC_sound {fuel : Nat} {slots keys : List Nat} {code : ACode} {s t : St} {ds : List Dec} {ps : List Prop} (h : bodyP C fuel (cleanQ slots keys) code s ds = some (t, ps)) (hp : AllP ps) (hk : keyless (stInsides t.st)) : ∃ s', evalCode C fuel code s = some (.normal, s') ∧ clean slots keys s' = t := by
  obtain ⟨s', h1, h2⟩ := bodyP_sound h hp
  exact ⟨s', h1, by rw [cleanQ_eq (by rw [h2]; exact hk), h2]⟩

theorem exitP_sound {fuel : Nat} {code : ACode} {s : St} {ds : List Dec} {r : Ex × St} {ps : List Prop} (h : exitP C fuel code s ds = some (r, ps)) (hp : AllP ps) : evalCode C fuel code s = some r := by
  unfold exitP at h
  split at h
  · rename_i r1 ps1 he
    cases h
    exact (evalP_sound he hp).1
  · cases h

theorem ev_loopR {fuel : Nat} {slots keys : List Nat} {rens : List (Nat × Nat)} {b : ACode} (H : Nat → St) (N : Nat) {s0 s1 : St} {ex : Ex} (h0 : cleanR slots keys rens s0 = H 0)
    (hstep : ∀ i, i < N → ∃ s', evalCode C fuel b (H i) = some (.normal, s') ∧ cleanR slots keys rens s' = H (i + 1)) (hend : evalCode C fuel b (H N) = some (ex, s1)) (hex : ex ≠ .normal) (hf : N < fuel) :
    evalCode C fuel (.loopR slots keys rens b) s0 = some (ex, s1) := by
  have main : ∀ (n i : Nat) (s : St), i ≤ N → N - i < n → cleanR slots keys rens s = H i → iter (fun s => evalCode C fuel b (cleanR slots keys rens s)) n s = some (ex, s1) := by
    intro n
    induction n with
    | zero => intro i s _ h; omega
    | succ n ih =>
      intro i s hi hn hs
      simp only [iter, hs]
      by_cases he : i = N
      · subst he
        rw [hend]
        cases ex <;> simp_all
      · obtain ⟨s', h1, h2⟩ := hstep i (by omega)
        rw [h1]
        exact ih (i + 1) s' (by omega) (by omega) h2
  simp only [evalCode]
  exact main fuel 0 s0 (by omega) (by omega) h0
end
end Go.Ev
